/- What the law CountsSettles stands on: the framework, the given functions as plain functions, their walks, and the plain laws; part 4. -/
import Derived.Test.YtfhaegpflbcmgaaCountsSettlesZ3
set_option linter.unusedSimpArgs false
set_option linter.unusedVariables false
namespace Go.Abs
open Go Go.RowKit Go.Proofs
theorem uR (lo0p : Nat) (aA : (List Int)) (a1 : Int) (b2 : Int) (cF : Int) (r : ((Int × Bool) × List Int)) (h0 : fU aA a1 b2 cF = some r) : mP Try.prog 86 lo0p 1 (List.map (eI) aA) (List.map (eI) r.2) [(.msl 1 lo0p 0 (List.length aA)), (eI a1), (eI b2), (eI cF)] (.tup [(eI r.1.1), (aF r.1.2)]) := by
  intro H0 hl0
  refine dD Try.func86 ?_
  have hO := aL.pI hl0
  clear hl0
  obtain ⟨N0, hN0⟩ : ∃ n, n = List.length aA := ⟨_, rfl⟩
  have hN : List.length aA = N0 := hN0.symm
  unfold fU at h0
  refine aU aD 2 [] [] ?_
  refine aO ?_
  refine fG (fH []) aD 16 ?_
  obtain ⟨c1, h0⟩ := aW h0
  refine cA 7 [0 ≤ cF ∧ cF < (lN aA)] ⟨c1, trivial⟩ ?_
  refine fE 0 lo0p 1 (0 + Int.toNat cF) (eI (gD aA cF)) (eI (gD aA cF)) (List.map (eI) aA) hO (bV c1) ?_
  obtain ⟨c2, h0⟩ := aW h0
  refine cA 11 [0 ≤ a1 ∧ a1 < (lN aA)] ⟨c2, trivial⟩ ?_
  refine fE 0 lo0p 1 (0 + Int.toNat a1) (eI (gD aA a1)) (eI (gD aA a1)) (List.map (eI) aA) hO (bV c2) ?_
  obtain ⟨c3, h0⟩ := aW h0
  refine cA 13 [0 ≤ a1 ∧ a1 < (lN aA)] ⟨c3, trivial⟩ ?_
  refine jX 0 lo0p 1 (0 + Int.toNat a1) (eI (gD aA a1)) (eI (gD aA cF)) (List.map (eI) aA) [(lo0p, 1, List.map (eI) (List.set aA (Int.toNat a1) (gD aA cF)))] hO (bV c3) (by simp only [List.set, fZ]) ?_
  intro H hO
  replace hN : List.length (List.set aA (Int.toNat a1) (gD aA cF)) = N0 := by simpa using hN
  obtain ⟨c4, h0⟩ := aW h0
  refine cA 15 [0 ≤ cF ∧ cF < (lN aA)] ⟨c4, trivial⟩ ?_
  refine jX 0 lo0p 1 (0 + Int.toNat cF) (eI (gD (List.set aA (Int.toNat a1) (gD aA cF)) cF)) (eI (gD aA a1)) (List.map (eI) (List.set aA (Int.toNat a1) (gD aA cF))) [(lo0p, 1, List.map (eI) (List.set (List.set aA (Int.toNat a1) (gD aA cF)) (Int.toNat cF) (gD aA a1)))] hO (mG c4 (by simp [])) (by simp only [List.set, fZ]) ?_
  intro H hO
  replace hN : List.length (List.set (List.set aA (Int.toNat a1) (gD aA cF)) (Int.toNat cF) (gD aA a1)) = N0 := by simpa using hN
  refine lX (by kernel_rfl) ?_
  refine cW (l := [(0, (.msl 1 lo0p 0 (List.length (List.set (List.set aA (Int.toNat a1) (gD aA cF)) (Int.toNat cF) (gD aA a1))))), (1, (eI a1)), (2, (eI b2))]) ⟨[(0, (.msl 1 lo0p 0 (List.length aA))), (1, (eI a1)), (2, (eI b2))], by kernel_rfl, rfl, ⟨aN.eq (by simp []), aN.refl _, aN.refl _, trivial⟩⟩ ?_
  refine aI (aH (?_))
  refine aU aD 6 [2] [(10, (eI (wR (a1 + (1 : Int))))), (11, (eI (wR (b2 - (1 : Int)))))] ?_
  refine gM (fun T H => ∃ aA : List Int, ∃ i10 : Int, ∃ j11 : Int, Has T [(0, (.msl 1 lo0p 0 (List.length aA))), (1, (eI a1)), (10, (eI i10)), (11, (eI j11))] ∧ aL ⟨H0, [lo0p], []⟩ H [(lo0p, 1, List.map (eI) aA)] ∧ List.length aA = N0 ∧ iC aA a1 i10 j11 = some r) ?_ ?_
  · clear hO hN h0
    rintro T H ⟨aA, i10, j11, hT, hO, hN, h0⟩
    refine bF hT ?_
    clear hT
    unfold iC at h0
    refine gM (fun T H => ∃ aA : List Int, ∃ j11 : Int, Has T [(0, (.msl 1 lo0p 0 (List.length aA))), (1, (eI a1)), (10, (eI i10)), (11, (eI j11))] ∧ aL ⟨H0, [lo0p], []⟩ H [(lo0p, 1, List.map (eI) aA)] ∧ List.length aA = N0 ∧ eG aA a1 i10 j11 = some r) ?_ ?_
    · clear hO hN h0
      rintro T H ⟨aA, j11, hT, hO, hN, h0⟩
      refine bF hT ?_
      clear hT
      unfold eG at h0
      refine aO ?_
      refine aU aD 3 [] [(65, (aF (decide (j11 < i10))))] ?_
      refine bM h0 (fun h0 => ?_) (fun h0 => ?_)
      · refine aO ?_
        refine fG (fH []) aD 16 ?_
        obtain ⟨c6, h0⟩ := aW h0
        refine cA 7 [0 ≤ a1 ∧ a1 < (lN aA)] ⟨c6, trivial⟩ ?_
        refine fE 0 lo0p 1 (0 + Int.toNat a1) (eI (gD aA a1)) (eI (gD aA a1)) (List.map (eI) aA) hO (bV c6) ?_
        obtain ⟨c7, h0⟩ := aW h0
        refine cA 11 [0 ≤ j11 ∧ j11 < (lN aA)] ⟨c7, trivial⟩ ?_
        refine fE 0 lo0p 1 (0 + Int.toNat j11) (eI (gD aA j11)) (eI (gD aA j11)) (List.map (eI) aA) hO (bV c7) ?_
        obtain ⟨c8, h0⟩ := aW h0
        refine cA 13 [0 ≤ j11 ∧ j11 < (lN aA)] ⟨c8, trivial⟩ ?_
        refine jX 0 lo0p 1 (0 + Int.toNat j11) (eI (gD aA j11)) (eI (gD aA a1)) (List.map (eI) aA) [(lo0p, 1, List.map (eI) (List.set aA (Int.toNat j11) (gD aA a1)))] hO (bV c8) (by simp only [List.set, fZ]) ?_
        intro H hO
        replace hN : List.length (List.set aA (Int.toNat j11) (gD aA a1)) = N0 := by simpa using hN
        obtain ⟨c9, h0⟩ := aW h0
        refine cA 15 [0 ≤ a1 ∧ a1 < (lN aA)] ⟨c9, trivial⟩ ?_
        refine jX 0 lo0p 1 (0 + Int.toNat a1) (eI (gD (List.set aA (Int.toNat j11) (gD aA a1)) a1)) (eI (gD aA j11)) (List.map (eI) (List.set aA (Int.toNat j11) (gD aA a1))) [(lo0p, 1, List.map (eI) (List.set (List.set aA (Int.toNat j11) (gD aA a1)) (Int.toNat a1) (gD aA j11)))] hO (mG c9 (by simp [])) (by simp only [List.set, fZ]) ?_
        intro H hO
        replace hN : List.length (List.set (List.set aA (Int.toNat j11) (gD aA a1)) (Int.toNat a1) (gD aA j11)) = N0 := by simpa using hN
        refine lX (by kernel_rfl) ?_
        refine cW (l := [(0, (.msl 1 lo0p 0 (List.length (List.set (List.set aA (Int.toNat j11) (gD aA a1)) (Int.toNat a1) (gD aA j11))))), (11, (eI j11))]) ⟨[(0, (.msl 1 lo0p 0 (List.length aA))), (11, (eI j11))], by kernel_rfl, rfl, ⟨aN.eq (by simp []), aN.refl _, trivial⟩⟩ ?_
        refine aI (aH (?_))
        refine aU aD 3 [11] [(8, (eI j11)), (9, (aF true))] ?_
        refine bH ?_
        obtain rfl := oI h0
        exact aI (aT (jZ (x := (.tup [(eI j11), (aF true)])) (by kernel_rfl) (aN.refl _) ⟨rfl, hO.ext, hO.at 0 (by kernel_rfl), by simp only [List.length_map]; exact hN.trans hN0⟩))
      refine bL ?_
      refine bG [(0, (.msl 1 lo0p 0 (List.length aA))), (1, (eI a1)), (10, (eI i10)), (11, (eI j11))] ?_
      refine aO ?_
      refine fG (fH []) aD 16 ?_
      obtain ⟨c10, h0⟩ := aW h0
      refine cA 7 [0 ≤ j11 ∧ j11 < (lN aA)] ⟨c10, trivial⟩ ?_
      refine fE 0 lo0p 1 (0 + Int.toNat j11) (eI (gD aA j11)) (eI (gD aA j11)) (List.map (eI) aA) hO (bV c10) ?_
      obtain ⟨c11, h0⟩ := aW h0
      refine cA 11 [0 ≤ i10 ∧ i10 < (lN aA)] ⟨c11, trivial⟩ ?_
      refine fE 0 lo0p 1 (0 + Int.toNat i10) (eI (gD aA i10)) (eI (gD aA i10)) (List.map (eI) aA) hO (bV c11) ?_
      obtain ⟨c12, h0⟩ := aW h0
      refine cA 13 [0 ≤ i10 ∧ i10 < (lN aA)] ⟨c12, trivial⟩ ?_
      refine jX 0 lo0p 1 (0 + Int.toNat i10) (eI (gD aA i10)) (eI (gD aA j11)) (List.map (eI) aA) [(lo0p, 1, List.map (eI) (List.set aA (Int.toNat i10) (gD aA j11)))] hO (bV c12) (by simp only [List.set, fZ]) ?_
      intro H hO
      replace hN : List.length (List.set aA (Int.toNat i10) (gD aA j11)) = N0 := by simpa using hN
      obtain ⟨c13, h0⟩ := aW h0
      refine cA 15 [0 ≤ j11 ∧ j11 < (lN aA)] ⟨c13, trivial⟩ ?_
      refine jX 0 lo0p 1 (0 + Int.toNat j11) (eI (gD (List.set aA (Int.toNat i10) (gD aA j11)) j11)) (eI (gD aA i10)) (List.map (eI) (List.set aA (Int.toNat i10) (gD aA j11))) [(lo0p, 1, List.map (eI) (List.set (List.set aA (Int.toNat i10) (gD aA j11)) (Int.toNat j11) (gD aA i10)))] hO (mG c13 (by simp [])) (by simp only [List.set, fZ]) ?_
      intro H hO
      replace hN : List.length (List.set (List.set aA (Int.toNat i10) (gD aA j11)) (Int.toNat j11) (gD aA i10)) = N0 := by simpa using hN
      refine lX (by kernel_rfl) ?_
      refine cW (l := [(0, (.msl 1 lo0p 0 (List.length (List.set (List.set aA (Int.toNat i10) (gD aA j11)) (Int.toNat j11) (gD aA i10))))), (1, (eI a1)), (10, (eI i10)), (11, (eI j11))]) ⟨[(0, (.msl 1 lo0p 0 (List.length aA))), (1, (eI a1)), (10, (eI i10)), (11, (eI j11))], by kernel_rfl, rfl, ⟨aN.eq (by simp []), aN.refl _, aN.refl _, aN.refl _, trivial⟩⟩ ?_
      refine aI (aH (?_))
      refine aU aD 3 [10] [(10, (eI (wR (i10 + (1 : Int)))))] ?_
      refine aU aD 3 [11] [(11, (eI (wR (j11 - (1 : Int)))))] ?_
      refine gM (fun T H => ∃ aA : List Int, ∃ j11 : Int, Has T [(0, (.msl 1 lo0p 0 (List.length aA))), (1, (eI a1)), (11, (eI j11))] ∧ aL ⟨H0, [lo0p], []⟩ H [(lo0p, 1, List.map (eI) aA)] ∧ List.length aA = N0 ∧ iB aA a1 j11 = some r) ?_ ?_
      · clear hO hN h0
        rintro T H ⟨aA, j11, hT, hO, hN, h0⟩
        refine bF hT ?_
        clear hT
        unfold iB at h0
        refine aO ?_
        refine fG (fH []) aD 16 ?_
        obtain ⟨c14, h0⟩ := aW h0
        refine cA 7 [0 ≤ a1 ∧ a1 < (lN aA)] ⟨c14, trivial⟩ ?_
        refine fE 0 lo0p 1 (0 + Int.toNat a1) (eI (gD aA a1)) (eI (gD aA a1)) (List.map (eI) aA) hO (bV c14) ?_
        obtain ⟨c15, h0⟩ := aW h0
        refine cA 11 [0 ≤ j11 ∧ j11 < (lN aA)] ⟨c15, trivial⟩ ?_
        refine fE 0 lo0p 1 (0 + Int.toNat j11) (eI (gD aA j11)) (eI (gD aA j11)) (List.map (eI) aA) hO (bV c15) ?_
        obtain ⟨c16, h0⟩ := aW h0
        refine cA 13 [0 ≤ j11 ∧ j11 < (lN aA)] ⟨c16, trivial⟩ ?_
        refine jX 0 lo0p 1 (0 + Int.toNat j11) (eI (gD aA j11)) (eI (gD aA a1)) (List.map (eI) aA) [(lo0p, 1, List.map (eI) (List.set aA (Int.toNat j11) (gD aA a1)))] hO (bV c16) (by simp only [List.set, fZ]) ?_
        intro H hO
        replace hN : List.length (List.set aA (Int.toNat j11) (gD aA a1)) = N0 := by simpa using hN
        obtain ⟨c17, h0⟩ := aW h0
        refine cA 15 [0 ≤ a1 ∧ a1 < (lN aA)] ⟨c17, trivial⟩ ?_
        refine jX 0 lo0p 1 (0 + Int.toNat a1) (eI (gD (List.set aA (Int.toNat j11) (gD aA a1)) a1)) (eI (gD aA j11)) (List.map (eI) (List.set aA (Int.toNat j11) (gD aA a1))) [(lo0p, 1, List.map (eI) (List.set (List.set aA (Int.toNat j11) (gD aA a1)) (Int.toNat a1) (gD aA j11)))] hO (mG c17 (by simp [])) (by simp only [List.set, fZ]) ?_
        intro H hO
        replace hN : List.length (List.set (List.set aA (Int.toNat j11) (gD aA a1)) (Int.toNat a1) (gD aA j11)) = N0 := by simpa using hN
        refine lX (by kernel_rfl) ?_
        refine cW (l := [(0, (.msl 1 lo0p 0 (List.length (List.set (List.set aA (Int.toNat j11) (gD aA a1)) (Int.toNat a1) (gD aA j11))))), (11, (eI j11))]) ⟨[(0, (.msl 1 lo0p 0 (List.length aA))), (11, (eI j11))], by kernel_rfl, rfl, ⟨aN.eq (by simp []), aN.refl _, trivial⟩⟩ ?_
        refine aI (aH (?_))
        refine aU aD 3 [11] [(8, (eI j11)), (9, (aF false))] ?_
        refine bH ?_
        obtain rfl := oI h0
        exact aI (jZ (x := (.tup [(eI j11), (aF false)])) (by kernel_rfl) (aN.refl _) ⟨rfl, hO.ext, hO.at 0 (by kernel_rfl), by simp only [List.length_map]; exact hN.trans hN0⟩)
      refine cG 4 ?_
      refine fW [(0, (.msl 1 lo0p 0 (List.length (List.set (List.set aA (Int.toNat i10) (gD aA j11)) (Int.toNat j11) (gD aA i10))))), (1, (eI a1)), (10, (eI (wR (i10 + (1 : Int))))), (11, (eI (wR (j11 - (1 : Int)))))] ?_
      refine eS (fun T H => ∃ aA : List Int, ∃ i10 : Int, ∃ j11 : Int, Has T [(0, (.msl 1 lo0p 0 (List.length aA))), (1, (eI a1)), (10, (eI i10)), (11, (eI j11))] ∧ aL ⟨H0, [lo0p], []⟩ H [(lo0p, 1, List.map (eI) aA)] ∧ List.length aA = N0 ∧ jP aA a1 i10 j11 = some r) ?_ ⟨List.set (List.set aA (Int.toNat i10) (gD aA j11)) (Int.toNat j11) (gD aA i10), wR (i10 + (1 : Int)), wR (j11 - (1 : Int)), .eq (by kernel_rfl), hO, hN, h0⟩
      clear hO hN h0
      rintro T H ⟨aA, i10, j11, hT, hO, hN, h0⟩
      refine bF hT ?_
      clear hT
      unfold jP at h0
      obtain ⟨rr0, hl0, h0⟩ := aY h0
      refine dF (by kernel_rfl) (fun (s : List Int × Int × Int) T H => Has T [(0, (.msl 1 lo0p 0 (List.length s.1))), (1, (eI a1)), (10, (eI s.2.1)), (11, (eI s.2.2))] ∧ aL ⟨H0, [lo0p], []⟩ H [(lo0p, 1, List.map (eI) s.1)] ∧ List.length s.1 = N0) hl0 ⟨.eq (by kernel_rfl), hO, hN⟩ ?_
      clear hO hN
      rintro k0 s out1 T H ⟨hT, hO, hN⟩ h1 ho0
      obtain ⟨aA, i10, j11⟩ := s
      replace h1 : dA a1 aA i10 j11 = some out1 := h1
      try dsimp only at hT
      refine bF hT ?_
      clear hT
      unfold dA at h1
      refine cG 5 ?_
      refine gM (fun T H => ∃ aA : List Int, ∃ i10 : Int, Has T [(0, (.msl 1 lo0p 0 (List.length aA))), (1, (eI a1)), (10, (eI i10)), (11, (eI j11))] ∧ aL ⟨H0, [lo0p], []⟩ H [(lo0p, 1, List.map (eI) aA)] ∧ List.length aA = N0 ∧ iD aA a1 i10 j11 = some out1) ?_ ?_
      · clear hO hN h1
        rintro T H ⟨aA, i10, hT, hO, hN, h1⟩
        refine bF hT ?_
        clear hT
        unfold iD at h1
        refine gM (fun T H => ∃ aA : List Int, ∃ j11 : Int, Has T [(0, (.msl 1 lo0p 0 (List.length aA))), (1, (eI a1)), (10, (eI i10)), (11, (eI j11))] ∧ aL ⟨H0, [lo0p], []⟩ H [(lo0p, 1, List.map (eI) aA)] ∧ List.length aA = N0 ∧ eD aA a1 i10 j11 = some out1) ?_ ?_
        · clear hO hN h1
          rintro T H ⟨aA, j11, hT, hO, hN, h1⟩
          refine bF hT ?_
          clear hT
          unfold eD at h1
          refine aO ?_
          refine aU aD 3 [] [(134, (aF (decide (j11 < i10))))] ?_
          refine bM h1 (fun h1 => ?_) (fun h1 => ?_)
          · refine gZ 4 ?_
            obtain rfl := oI h1
            obtain rfl : _ = rr0 := ho0
            replace h0 : iB aA a1 j11 = some r := h0
            exact aI (aX (qZ (by kernel_rfl) (aX (bX (aH (⟨rfl, _, _, .eq (by kernel_rfl), hO, hN, h0⟩))))))
          refine bL ?_
          refine bG [(0, (.msl 1 lo0p 0 (List.length aA))), (1, (eI a1)), (10, (eI i10)), (11, (eI j11))] ?_
          refine aO ?_
          refine fG (fH []) aD 16 ?_
          obtain ⟨c19, h1⟩ := aW h1
          refine cA 7 [0 ≤ j11 ∧ j11 < (lN aA)] ⟨c19, trivial⟩ ?_
          refine fE 0 lo0p 1 (0 + Int.toNat j11) (eI (gD aA j11)) (eI (gD aA j11)) (List.map (eI) aA) hO (bV c19) ?_
          obtain ⟨c20, h1⟩ := aW h1
          refine cA 11 [0 ≤ i10 ∧ i10 < (lN aA)] ⟨c20, trivial⟩ ?_
          refine fE 0 lo0p 1 (0 + Int.toNat i10) (eI (gD aA i10)) (eI (gD aA i10)) (List.map (eI) aA) hO (bV c20) ?_
          obtain ⟨c21, h1⟩ := aW h1
          refine cA 13 [0 ≤ i10 ∧ i10 < (lN aA)] ⟨c21, trivial⟩ ?_
          refine jX 0 lo0p 1 (0 + Int.toNat i10) (eI (gD aA i10)) (eI (gD aA j11)) (List.map (eI) aA) [(lo0p, 1, List.map (eI) (List.set aA (Int.toNat i10) (gD aA j11)))] hO (bV c21) (by simp only [List.set, fZ]) ?_
          intro H hO
          replace hN : List.length (List.set aA (Int.toNat i10) (gD aA j11)) = N0 := by simpa using hN
          obtain ⟨c22, h1⟩ := aW h1
          refine cA 15 [0 ≤ j11 ∧ j11 < (lN aA)] ⟨c22, trivial⟩ ?_
          refine jX 0 lo0p 1 (0 + Int.toNat j11) (eI (gD (List.set aA (Int.toNat i10) (gD aA j11)) j11)) (eI (gD aA i10)) (List.map (eI) (List.set aA (Int.toNat i10) (gD aA j11))) [(lo0p, 1, List.map (eI) (List.set (List.set aA (Int.toNat i10) (gD aA j11)) (Int.toNat j11) (gD aA i10)))] hO (mG c22 (by simp [])) (by simp only [List.set, fZ]) ?_
          intro H hO
          replace hN : List.length (List.set (List.set aA (Int.toNat i10) (gD aA j11)) (Int.toNat j11) (gD aA i10)) = N0 := by simpa using hN
          refine lX (by kernel_rfl) ?_
          refine cW (l := [(0, (.msl 1 lo0p 0 (List.length (List.set (List.set aA (Int.toNat i10) (gD aA j11)) (Int.toNat j11) (gD aA i10))))), (1, (eI a1)), (10, (eI i10)), (11, (eI j11))]) ⟨[(0, (.msl 1 lo0p 0 (List.length aA))), (1, (eI a1)), (10, (eI i10)), (11, (eI j11))], by kernel_rfl, rfl, ⟨aN.eq (by simp []), aN.refl _, aN.refl _, aN.refl _, trivial⟩⟩ ?_
          refine aI (aH (?_))
          refine aU aD 3 [10] [(10, (eI (wR (i10 + (1 : Int)))))] ?_
          refine aV aD 3 ?_
          refine bD ?_
          exact aI (aZ (aH (⟨rfl, _, (oI h1).symm, .eq (by kernel_rfl), hO, hN⟩)))
        refine cG 8 ?_
        refine fW [(0, (.msl 1 lo0p 0 (List.length aA))), (1, (eI a1)), (10, (eI i10)), (11, (eI j11))] ?_
        refine eS (fun T H => ∃ aA : List Int, ∃ j11 : Int, Has T [(0, (.msl 1 lo0p 0 (List.length aA))), (1, (eI a1)), (10, (eI i10)), (11, (eI j11))] ∧ aL ⟨H0, [lo0p], []⟩ H [(lo0p, 1, List.map (eI) aA)] ∧ List.length aA = N0 ∧ jU aA a1 i10 j11 = some out1) ?_ ⟨aA, j11, .eq (by kernel_rfl), hO, hN, h1⟩
        clear hO hN h1
        rintro T H ⟨aA, j11, hT, hO, hN, h1⟩
        refine bF hT ?_
        clear hT
        unfold jU at h1
        obtain ⟨rr1, hl1, h1⟩ := aY h1
        refine dF (by kernel_rfl) (fun (s : List Int × Int) T H => Has T [(0, (.msl 1 lo0p 0 (List.length s.1))), (1, (eI a1)), (10, (eI i10)), (11, (eI s.2))] ∧ aL ⟨H0, [lo0p], []⟩ H [(lo0p, 1, List.map (eI) s.1)] ∧ List.length s.1 = N0) hl1 ⟨.eq (by kernel_rfl), hO, hN⟩ ?_
        clear hO hN
        rintro k1 s out2 T H ⟨hT, hO, hN⟩ h2 ho1
        obtain ⟨aA, j11⟩ := s
        replace h2 : eB a1 i10 aA j11 = some out2 := h2
        try dsimp only at hT
        refine bF hT ?_
        clear hT
        unfold eB at h2
        refine aO ?_
        refine aO ?_
        obtain ⟨c23, h2⟩ := aW h2
        obtain ⟨c24, h2⟩ := aW h2
        obtain ⟨x25, hx26, h2⟩ := aY h2
        refine fG (fH []) aD 15 ?_
        refine nV (K := fun T H => Has (lift T) [(0, (.msl 1 lo0p 0 (List.length aA))), (1, (eI a1)), (10, (eI i10)), (11, (eI j11)), (129, (aF ((decide (i10 ≤ j11)) && (!x25))))] ∧ aL ⟨H0, [lo0p], []⟩ H [(lo0p, 1, List.map (eI) aA)]) ?_ ?_
        · refine lK 4 ?_
          refine mH (t := 118) (e := decide (i10 ≤ j11)) (by kernel_rfl) (fun hg27 => ?_) (fun hg27 => ?_)
          · refine cA 7 [0 ≤ j11 ∧ j11 < (lN aA)] ⟨(c23 hg27), trivial⟩ ?_
            refine iV 0 lo0p 1 (0 + Int.toNat j11) (eI (gD aA j11)) (eI (gD aA j11)) (List.map (eI) aA) (by kernel_rfl) (by kernel_rfl) (by kernel_rfl) hO (by kernel_rfl) (bV (c23 hg27)) ?_
            refine cA 11 [0 ≤ a1 ∧ a1 < (lN aA)] ⟨(c24 hg27), trivial⟩ ?_
            refine iV 0 lo0p 1 (0 + Int.toNat a1) (eI (gD aA a1)) (eI (gD aA a1)) (List.map (eI) aA) (by kernel_rfl) (by kernel_rfl) (by kernel_rfl) hO (by kernel_rfl) (bV (c24 hg27)) ?_
            refine mV 70 [(eI (gD aA j11)), (eI (gD aA a1))] (aF x25) (by kernel_rfl) (by kernel_rfl) (eU (gD aA j11) (gD aA a1) _ (iZ hx26 hg27)) hO ?_
            intro H hO
            refine jC ?_
            exact ⟨⟨[(0, (.msl 1 lo0p 0 (List.length aA))), (1, (eI a1)), (10, (eI i10)), (11, (eI j11)), (129, (aF (!x25)))], by kernel_rfl, rfl, ⟨aN.refl _, aN.refl _, aN.refl _, aN.refl _, aN.eq (congrArg aF (lW hg27 rfl).symm), trivial⟩⟩, hO⟩
          refine jC ?_
          exact ⟨⟨[(0, (.msl 1 lo0p 0 (List.length aA))), (1, (eI a1)), (10, (eI i10)), (11, (eI j11)), (129, (aF false))], by kernel_rfl, rfl, ⟨aN.refl _, aN.refl _, aN.refl _, aN.refl _, aN.eq (congrArg aF (lW hg27 rfl).symm), trivial⟩⟩, hO⟩
        · rintro T H ⟨hT, hO⟩
          refine cW hT ?_
          clear hT
          refine aI (aH ?_)
          refine bM h2 (fun h2 => ?_) (fun h2 => ?_)
          · refine bL ?_
            refine bG [(0, (.msl 1 lo0p 0 (List.length aA))), (1, (eI a1)), (10, (eI i10)), (11, (eI j11))] ?_
            refine cG 9 ?_
            refine aV aD 3 ?_
            refine bD ?_
            exact aI (aZ (aH (⟨rfl, _, (oI h2).symm, .eq (by kernel_rfl), hO, hN⟩)))
          refine gZ 8 ?_
          obtain rfl := oI h2
          obtain rfl : _ = rr1 := ho1
          replace h1 : eD aA a1 i10 j11 = some out1 := h1
          exact aI (aX (aX (bX (aH (⟨rfl, _, _, .eq (by kernel_rfl), hO, hN, h1⟩)))))
      refine cG 6 ?_
      refine fW [(0, (.msl 1 lo0p 0 (List.length aA))), (1, (eI a1)), (10, (eI i10)), (11, (eI j11))] ?_
      refine eS (fun T H => ∃ aA : List Int, ∃ i10 : Int, Has T [(0, (.msl 1 lo0p 0 (List.length aA))), (1, (eI a1)), (10, (eI i10)), (11, (eI j11))] ∧ aL ⟨H0, [lo0p], []⟩ H [(lo0p, 1, List.map (eI) aA)] ∧ List.length aA = N0 ∧ jT aA a1 i10 j11 = some out1) ?_ ⟨aA, i10, .eq (by kernel_rfl), hO, hN, h1⟩
      clear hO hN h1
      rintro T H ⟨aA, i10, hT, hO, hN, h1⟩
      refine bF hT ?_
      clear hT
      unfold jT at h1
      obtain ⟨rr1, hl1, h1⟩ := aY h1
      refine dF (by kernel_rfl) (fun (s : List Int × Int) T H => Has T [(0, (.msl 1 lo0p 0 (List.length s.1))), (1, (eI a1)), (10, (eI s.2)), (11, (eI j11))] ∧ aL ⟨H0, [lo0p], []⟩ H [(lo0p, 1, List.map (eI) s.1)] ∧ List.length s.1 = N0) hl1 ⟨.eq (by kernel_rfl), hO, hN⟩ ?_
      clear hO hN
      rintro k1 s out2 T H ⟨hT, hO, hN⟩ h2 ho1
      obtain ⟨aA, i10⟩ := s
      replace h2 : eF a1 j11 aA i10 = some out2 := h2
      try dsimp only at hT
      refine bF hT ?_
      clear hT
      unfold eF at h2
      refine aO ?_
      refine aO ?_
      obtain ⟨c29, h2⟩ := aW h2
      obtain ⟨c30, h2⟩ := aW h2
      obtain ⟨x31, hx32, h2⟩ := aY h2
      refine fG (fH []) aD 14 ?_
      refine nV (K := fun T H => Has (lift T) [(0, (.msl 1 lo0p 0 (List.length aA))), (1, (eI a1)), (10, (eI i10)), (11, (eI j11)), (112, (aF ((decide (i10 ≤ j11)) && x31)))] ∧ aL ⟨H0, [lo0p], []⟩ H [(lo0p, 1, List.map (eI) aA)]) ?_ ?_
      · refine lK 4 ?_
        refine mH (t := 102) (e := decide (i10 ≤ j11)) (by kernel_rfl) (fun hg33 => ?_) (fun hg33 => ?_)
        · refine cA 7 [0 ≤ i10 ∧ i10 < (lN aA)] ⟨(c29 hg33), trivial⟩ ?_
          refine iV 0 lo0p 1 (0 + Int.toNat i10) (eI (gD aA i10)) (eI (gD aA i10)) (List.map (eI) aA) (by kernel_rfl) (by kernel_rfl) (by kernel_rfl) hO (by kernel_rfl) (bV (c29 hg33)) ?_
          refine cA 11 [0 ≤ a1 ∧ a1 < (lN aA)] ⟨(c30 hg33), trivial⟩ ?_
          refine iV 0 lo0p 1 (0 + Int.toNat a1) (eI (gD aA a1)) (eI (gD aA a1)) (List.map (eI) aA) (by kernel_rfl) (by kernel_rfl) (by kernel_rfl) hO (by kernel_rfl) (bV (c30 hg33)) ?_
          refine mV 70 [(eI (gD aA i10)), (eI (gD aA a1))] (aF x31) (by kernel_rfl) (by kernel_rfl) (eU (gD aA i10) (gD aA a1) _ (iZ hx32 hg33)) hO ?_
          intro H hO
          refine jC ?_
          exact ⟨⟨[(0, (.msl 1 lo0p 0 (List.length aA))), (1, (eI a1)), (10, (eI i10)), (11, (eI j11)), (112, (aF x31))], by kernel_rfl, rfl, ⟨aN.refl _, aN.refl _, aN.refl _, aN.refl _, aN.eq (congrArg aF (lW hg33 rfl).symm), trivial⟩⟩, hO⟩
        refine jC ?_
        exact ⟨⟨[(0, (.msl 1 lo0p 0 (List.length aA))), (1, (eI a1)), (10, (eI i10)), (11, (eI j11)), (112, (aF false))], by kernel_rfl, rfl, ⟨aN.refl _, aN.refl _, aN.refl _, aN.refl _, aN.eq (congrArg aF (lW hg33 rfl).symm), trivial⟩⟩, hO⟩
      · rintro T H ⟨hT, hO⟩
        refine cW hT ?_
        clear hT
        refine aI (aH ?_)
        refine bM h2 (fun h2 => ?_) (fun h2 => ?_)
        · refine bL ?_
          refine bG [(0, (.msl 1 lo0p 0 (List.length aA))), (1, (eI a1)), (10, (eI i10)), (11, (eI j11))] ?_
          refine cG 7 ?_
          refine aV aD 3 ?_
          refine bD ?_
          exact aI (aZ (aH (⟨rfl, _, (oI h2).symm, .eq (by kernel_rfl), hO, hN⟩)))
        refine gZ 6 ?_
        obtain rfl := oI h2
        obtain rfl : _ = rr1 := ho1
        replace h1 : iD aA a1 i10 j11 = some out1 := h1
        exact aI (aX (aX (bX (aH (⟨rfl, _, _, .eq (by kernel_rfl), hO, hN, h1⟩)))))
    refine cG 2 ?_
    refine fW [(0, (.msl 1 lo0p 0 (List.length aA))), (1, (eI a1)), (10, (eI i10)), (11, (eI j11))] ?_
    refine eS (fun T H => ∃ aA : List Int, ∃ j11 : Int, Has T [(0, (.msl 1 lo0p 0 (List.length aA))), (1, (eI a1)), (10, (eI i10)), (11, (eI j11))] ∧ aL ⟨H0, [lo0p], []⟩ H [(lo0p, 1, List.map (eI) aA)] ∧ List.length aA = N0 ∧ jQ aA a1 i10 j11 = some r) ?_ ⟨aA, j11, .eq (by kernel_rfl), hO, hN, h0⟩
    clear hO hN h0
    rintro T H ⟨aA, j11, hT, hO, hN, h0⟩
    refine bF hT ?_
    clear hT
    unfold jQ at h0
    obtain ⟨rr0, hl0, h0⟩ := aY h0
    refine dF (by kernel_rfl) (fun (s : List Int × Int) T H => Has T [(0, (.msl 1 lo0p 0 (List.length s.1))), (1, (eI a1)), (10, (eI i10)), (11, (eI s.2))] ∧ aL ⟨H0, [lo0p], []⟩ H [(lo0p, 1, List.map (eI) s.1)] ∧ List.length s.1 = N0) hl0 ⟨.eq (by kernel_rfl), hO, hN⟩ ?_
    clear hO hN
    rintro k0 s out1 T H ⟨hT, hO, hN⟩ h1 ho0
    obtain ⟨aA, j11⟩ := s
    replace h1 : eC a1 i10 aA j11 = some out1 := h1
    try dsimp only at hT
    refine bF hT ?_
    clear hT
    unfold eC at h1
    refine aO ?_
    refine aO ?_
    obtain ⟨c35, h1⟩ := aW h1
    obtain ⟨c36, h1⟩ := aW h1
    obtain ⟨x37, hx38, h1⟩ := aY h1
    refine fG (fH []) aD 15 ?_
    refine nV (K := fun T H => Has (lift T) [(0, (.msl 1 lo0p 0 (List.length aA))), (1, (eI a1)), (10, (eI i10)), (11, (eI j11)), (60, (aF ((decide (i10 ≤ j11)) && (!x37))))] ∧ aL ⟨H0, [lo0p], []⟩ H [(lo0p, 1, List.map (eI) aA)]) ?_ ?_
    · refine lK 4 ?_
      refine mH (t := 49) (e := decide (i10 ≤ j11)) (by kernel_rfl) (fun hg39 => ?_) (fun hg39 => ?_)
      · refine cA 7 [0 ≤ j11 ∧ j11 < (lN aA)] ⟨(c35 hg39), trivial⟩ ?_
        refine iV 0 lo0p 1 (0 + Int.toNat j11) (eI (gD aA j11)) (eI (gD aA j11)) (List.map (eI) aA) (by kernel_rfl) (by kernel_rfl) (by kernel_rfl) hO (by kernel_rfl) (bV (c35 hg39)) ?_
        refine cA 11 [0 ≤ a1 ∧ a1 < (lN aA)] ⟨(c36 hg39), trivial⟩ ?_
        refine iV 0 lo0p 1 (0 + Int.toNat a1) (eI (gD aA a1)) (eI (gD aA a1)) (List.map (eI) aA) (by kernel_rfl) (by kernel_rfl) (by kernel_rfl) hO (by kernel_rfl) (bV (c36 hg39)) ?_
        refine mV 70 [(eI (gD aA j11)), (eI (gD aA a1))] (aF x37) (by kernel_rfl) (by kernel_rfl) (eU (gD aA j11) (gD aA a1) _ (iZ hx38 hg39)) hO ?_
        intro H hO
        refine jC ?_
        exact ⟨⟨[(0, (.msl 1 lo0p 0 (List.length aA))), (1, (eI a1)), (10, (eI i10)), (11, (eI j11)), (60, (aF (!x37)))], by kernel_rfl, rfl, ⟨aN.refl _, aN.refl _, aN.refl _, aN.refl _, aN.eq (congrArg aF (lW hg39 rfl).symm), trivial⟩⟩, hO⟩
      refine jC ?_
      exact ⟨⟨[(0, (.msl 1 lo0p 0 (List.length aA))), (1, (eI a1)), (10, (eI i10)), (11, (eI j11)), (60, (aF false))], by kernel_rfl, rfl, ⟨aN.refl _, aN.refl _, aN.refl _, aN.refl _, aN.eq (congrArg aF (lW hg39 rfl).symm), trivial⟩⟩, hO⟩
    · rintro T H ⟨hT, hO⟩
      refine cW hT ?_
      clear hT
      refine aI (aH ?_)
      refine bM h1 (fun h1 => ?_) (fun h1 => ?_)
      · refine bL ?_
        refine bG [(0, (.msl 1 lo0p 0 (List.length aA))), (1, (eI a1)), (10, (eI i10)), (11, (eI j11))] ?_
        refine cG 3 ?_
        refine aV aD 3 ?_
        refine bD ?_
        exact aI (aZ (aH (⟨rfl, _, (oI h1).symm, .eq (by kernel_rfl), hO, hN⟩)))
      refine gZ 2 ?_
      obtain rfl := oI h1
      obtain rfl : _ = rr0 := ho0
      replace h0 : eG aA a1 i10 j11 = some r := h0
      exact aI (aX (aX (bX (aH (⟨rfl, _, _, .eq (by kernel_rfl), hO, hN, h0⟩)))))
  refine cG 0 ?_
  refine fW [(0, (.msl 1 lo0p 0 (List.length (List.set (List.set aA (Int.toNat a1) (gD aA cF)) (Int.toNat cF) (gD aA a1))))), (1, (eI a1)), (10, (eI (wR (a1 + (1 : Int))))), (11, (eI (wR (b2 - (1 : Int)))))] ?_
  refine eS (fun T H => ∃ aA : List Int, ∃ i10 : Int, ∃ j11 : Int, Has T [(0, (.msl 1 lo0p 0 (List.length aA))), (1, (eI a1)), (10, (eI i10)), (11, (eI j11))] ∧ aL ⟨H0, [lo0p], []⟩ H [(lo0p, 1, List.map (eI) aA)] ∧ List.length aA = N0 ∧ fC aA a1 i10 j11 = some r) ?_ ⟨List.set (List.set aA (Int.toNat a1) (gD aA cF)) (Int.toNat cF) (gD aA a1), wR (a1 + (1 : Int)), wR (b2 - (1 : Int)), .eq (by kernel_rfl), hO, hN, h0⟩
  clear hO hN h0
  rintro T H ⟨aA, i10, j11, hT, hO, hN, h0⟩
  refine bF hT ?_
  clear hT
  unfold fC at h0
  obtain ⟨rr0, hl0, h0⟩ := aY h0
  refine dF (by kernel_rfl) (fun (s : List Int × Int) T H => Has T [(0, (.msl 1 lo0p 0 (List.length s.1))), (1, (eI a1)), (10, (eI s.2)), (11, (eI j11))] ∧ aL ⟨H0, [lo0p], []⟩ H [(lo0p, 1, List.map (eI) s.1)] ∧ List.length s.1 = N0) hl0 ⟨.eq (by kernel_rfl), hO, hN⟩ ?_
  clear hO hN
  rintro k0 s out1 T H ⟨hT, hO, hN⟩ h1 ho0
  obtain ⟨aA, i10⟩ := s
  replace h1 : dY a1 j11 aA i10 = some out1 := h1
  try dsimp only at hT
  refine bF hT ?_
  clear hT
  unfold dY at h1
  refine aO ?_
  refine aO ?_
  obtain ⟨c41, h1⟩ := aW h1
  obtain ⟨c42, h1⟩ := aW h1
  obtain ⟨x43, hx44, h1⟩ := aY h1
  refine fG (fH []) aD 14 ?_
  refine nV (K := fun T H => Has (lift T) [(0, (.msl 1 lo0p 0 (List.length aA))), (1, (eI a1)), (10, (eI i10)), (11, (eI j11)), (43, (aF ((decide (i10 ≤ j11)) && x43)))] ∧ aL ⟨H0, [lo0p], []⟩ H [(lo0p, 1, List.map (eI) aA)]) ?_ ?_
  · refine lK 4 ?_
    refine mH (t := 33) (e := decide (i10 ≤ j11)) (by kernel_rfl) (fun hg45 => ?_) (fun hg45 => ?_)
    · refine cA 7 [0 ≤ i10 ∧ i10 < (lN aA)] ⟨(c41 hg45), trivial⟩ ?_
      refine iV 0 lo0p 1 (0 + Int.toNat i10) (eI (gD aA i10)) (eI (gD aA i10)) (List.map (eI) aA) (by kernel_rfl) (by kernel_rfl) (by kernel_rfl) hO (by kernel_rfl) (bV (c41 hg45)) ?_
      refine cA 11 [0 ≤ a1 ∧ a1 < (lN aA)] ⟨(c42 hg45), trivial⟩ ?_
      refine iV 0 lo0p 1 (0 + Int.toNat a1) (eI (gD aA a1)) (eI (gD aA a1)) (List.map (eI) aA) (by kernel_rfl) (by kernel_rfl) (by kernel_rfl) hO (by kernel_rfl) (bV (c42 hg45)) ?_
      refine mV 70 [(eI (gD aA i10)), (eI (gD aA a1))] (aF x43) (by kernel_rfl) (by kernel_rfl) (eU (gD aA i10) (gD aA a1) _ (iZ hx44 hg45)) hO ?_
      intro H hO
      refine jC ?_
      exact ⟨⟨[(0, (.msl 1 lo0p 0 (List.length aA))), (1, (eI a1)), (10, (eI i10)), (11, (eI j11)), (43, (aF x43))], by kernel_rfl, rfl, ⟨aN.refl _, aN.refl _, aN.refl _, aN.refl _, aN.eq (congrArg aF (lW hg45 rfl).symm), trivial⟩⟩, hO⟩
    refine jC ?_
    exact ⟨⟨[(0, (.msl 1 lo0p 0 (List.length aA))), (1, (eI a1)), (10, (eI i10)), (11, (eI j11)), (43, (aF false))], by kernel_rfl, rfl, ⟨aN.refl _, aN.refl _, aN.refl _, aN.refl _, aN.eq (congrArg aF (lW hg45 rfl).symm), trivial⟩⟩, hO⟩
  · rintro T H ⟨hT, hO⟩
    refine cW hT ?_
    clear hT
    refine aI (aH ?_)
    refine bM h1 (fun h1 => ?_) (fun h1 => ?_)
    · refine bL ?_
      refine bG [(0, (.msl 1 lo0p 0 (List.length aA))), (1, (eI a1)), (10, (eI i10)), (11, (eI j11))] ?_
      refine cG 1 ?_
      refine aV aD 3 ?_
      refine bD ?_
      exact aI (aZ (aH (⟨rfl, _, (oI h1).symm, .eq (by kernel_rfl), hO, hN⟩)))
    refine gZ 0 ?_
    obtain rfl := oI h1
    obtain rfl : _ = rr0 := ho0
    replace h0 : iC aA a1 i10 j11 = some r := h0
    exact aI (aX (aX (bX (aH (⟨rfl, _, _, _, .eq (by kernel_rfl), hO, hN, h0⟩)))))

theorem tQ  (rec : (List Int) → Int → Int → Int → Option (List Int)) (ih : ∀ (lo0p : Nat) (aA : (List Int)) (a1 : Int) (b2 : Int) (bW : Int) (r : List Int), rec aA a1 b2 bW = some r → mP Try.prog 60 lo0p 1 (List.map (eI) aA) (List.map (eI) r) [(.msl 1 lo0p 0 (List.length aA)), (eI a1), (eI b2), (eI bW)] (.tup [])) (lo0p : Nat) (aA : (List Int)) (a1 : Int) (b2 : Int) (bW : Int) (r : List Int) (h0 : fJ rec aA a1 b2 bW = some r) : mP Try.prog 60 lo0p 1 (List.map (eI) aA) (List.map (eI) r) [(.msl 1 lo0p 0 (List.length aA)), (eI a1), (eI b2), (eI bW)] (.tup []) := by
  intro H0 hl0
  refine dD Try.func60 ?_
  have hO := aL.pI hl0
  clear hl0
  obtain ⟨N0, hN0⟩ : ∃ n, n = List.length aA := ⟨_, rfl⟩
  have hN : List.length aA = N0 := hN0.symm
  unfold fJ at h0
  refine aU aD 1 [] [(8, (aF true))] ?_
  refine aU aD 1 [] [(9, (aF true))] ?_
  refine cG 0 ?_
  refine fW [(0, (.msl 1 lo0p 0 (List.length aA))), (1, (eI a1)), (2, (eI b2)), (3, (eI bW)), (8, (aF true)), (9, (aF true))] ?_
  refine eS (fun T H => ∃ aA : List Int, ∃ a1 : Int, ∃ b2 : Int, ∃ bW : Int, ∃ bQ : Bool, ∃ bI : Bool, Has T [(0, (.msl 1 lo0p 0 (List.length aA))), (1, (eI a1)), (2, (eI b2)), (3, (eI bW)), (8, (aF bQ)), (9, (aF bI))] ∧ aL ⟨H0, [lo0p], []⟩ H [(lo0p, 1, List.map (eI) aA)] ∧ List.length aA = N0 ∧ kK rec aA a1 b2 bW bQ bI = some r) ?_ ⟨aA, a1, b2, bW, true, true, .eq (by kernel_rfl), hO, hN, h0⟩
  clear hO hN h0
  rintro T H ⟨aA, a1, b2, bW, bQ, bI, hT, hO, hN, h0⟩
  refine bF hT ?_
  clear hT
  unfold kK at h0
  obtain ⟨rr0, hl0, h0⟩ := aY h0
  refine dF (by kernel_rfl) (fun (s : List Int × Int × Int × Int × Bool × Bool) T H => Has T [(0, (.msl 1 lo0p 0 (List.length s.1))), (1, (eI s.2.1)), (2, (eI s.2.2.1)), (3, (eI s.2.2.2.1)), (8, (aF s.2.2.2.2.1)), (9, (aF s.2.2.2.2.2))] ∧ aL ⟨H0, [lo0p], []⟩ H [(lo0p, 1, List.map (eI) s.1)] ∧ List.length s.1 = N0) hl0 ⟨.eq (by kernel_rfl), hO, hN⟩ ?_
  clear hO hN
  rintro k0 s out1 T H ⟨hT, hO, hN⟩ h1 ho0
  obtain ⟨aA, a1, b2, bW, bQ, bI⟩ := s
  replace h1 : dW rec aA a1 b2 bW bQ bI = some out1 := h1
  try dsimp only at hT
  refine bF hT ?_
  clear hT
  unfold dW at h1
  refine cG 1 ?_
  refine aU aD 4 [] [(10, (eI (wR (b2 - a1))))] ?_
  refine aO ?_
  refine aU aD 2 [] [(23, (aF (decide ((wR (b2 - a1)) ≤ (12 : Int)))))] ?_
  refine bM h1 (fun h1 => ?_) (fun h1 => ?_)
  · refine aO ?_
    refine aV aD 4 ?_
    refine bO 3 ?_
    obtain ⟨x2, hx3, h1⟩ := aY h1
    refine vE [(lo0p, 1, List.map (eI) x2)] 0 (sW lo0p aA a1 b2 _ hx3) hO ?_
    intro H hO hl4
    simp only [List.length_map] at hl4
    replace hN := hl4.trans hN
    refine fI ?_
    refine cW (l := [(0, (.msl 1 lo0p 0 (List.length x2)))]) ⟨[(0, (.msl 1 lo0p 0 (List.length aA)))], by kernel_rfl, rfl, ⟨aN.eq (by simp [hl4]), trivial⟩⟩ ?_
    refine aI (aH (?_))
    refine bH ?_
    obtain rfl := oI h1
    obtain rfl : _ = rr0 := ho0
    replace h0 : some x2 = some r := h0
    obtain rfl := oI h0
    exact aI (aT (bN (aT (bN (jZ (x := (.tup [])) (by kernel_rfl) (aN.refl _) ⟨rfl, hO.ext, hO.at 0 (by kernel_rfl), by simp only [List.length_map]; exact hN.trans hN0⟩)))))
  refine bL ?_
  refine bG [(0, (.msl 1 lo0p 0 (List.length aA))), (1, (eI a1)), (2, (eI b2)), (3, (eI bW)), (8, (aF bQ)), (9, (aF bI)), (10, (eI (wR (b2 - a1))))] ?_
  refine aO ?_
  refine aU aD 2 [] [(29, (aF (decide (bW = (0 : Int)))))] ?_
  refine bM h1 (fun h1 => ?_) (fun h1 => ?_)
  · refine aO ?_
    refine aV aD 4 ?_
    refine bO 3 ?_
    obtain ⟨x6, hx7, h1⟩ := aY h1
    refine vE [(lo0p, 1, List.map (eI) x6)] 0 (vB lo0p aA a1 b2 _ hx7) hO ?_
    intro H hO hl8
    simp only [List.length_map] at hl8
    replace hN := hl8.trans hN
    refine fI ?_
    refine cW (l := [(0, (.msl 1 lo0p 0 (List.length x6)))]) ⟨[(0, (.msl 1 lo0p 0 (List.length aA)))], by kernel_rfl, rfl, ⟨aN.eq (by simp [hl8]), trivial⟩⟩ ?_
    refine aI (aH (?_))
    refine bH ?_
    obtain rfl := oI h1
    obtain rfl : _ = rr0 := ho0
    replace h0 : some x6 = some r := h0
    obtain rfl := oI h0
    exact aI (aT (bN (aT (bN (jZ (x := (.tup [])) (by kernel_rfl) (aN.refl _) ⟨rfl, hO.ext, hO.at 0 (by kernel_rfl), by simp only [List.length_map]; exact hN.trans hN0⟩)))))
  refine bL ?_
  refine bG [(0, (.msl 1 lo0p 0 (List.length aA))), (1, (eI a1)), (2, (eI b2)), (3, (eI bW)), (8, (aF bQ)), (9, (aF bI)), (10, (eI (wR (b2 - a1))))] ?_
  refine gM (fun T H => ∃ aA : List Int, ∃ bW : Int, ∃ dM : Int, Has T [(0, (.msl 1 lo0p 0 (List.length aA))), (1, (eI a1)), (2, (eI b2)), (3, (eI bW)), (8, (aF bQ)), (9, (aF bI)), (10, (eI dM))] ∧ aL ⟨H0, [lo0p], []⟩ H [(lo0p, 1, List.map (eI) aA)] ∧ List.length aA = N0 ∧ gG rec aA a1 b2 bW bQ bI dM = some out1) ?_ ?_
  · clear hO hN h1
    rintro T H ⟨aA, bW, dM, hT, hO, hN, h1⟩
    refine bF hT ?_
    clear hT
    unfold gG at h1
    refine aO ?_
    refine aV aD 9 ?_
    refine bO 3 ?_
    obtain ⟨x9, hx10, h1⟩ := aY h1
    refine yR [] [0] (tV lo0p aA a1 b2 _ hx10) hO ?_
    intro r11 L12 H hP13 hO
    obtain ⟨rfl, rfl⟩ := hP13
    replace hO : aL ⟨H0, [lo0p], []⟩ H [(lo0p, 1, List.map (eI) aA)] := hO
    refine bD ?_
    refine bS [] [(11, (eI x9.1)), (12, (eI x9.2))] ?_
    refine gM (fun T H => ∃ aA : List Int, ∃ fL : Int, ∃ zH : Int, Has T [(0, (.msl 1 lo0p 0 (List.length aA))), (1, (eI a1)), (2, (eI b2)), (3, (eI bW)), (8, (aF bQ)), (9, (aF bI)), (10, (eI dM)), (11, (eI fL)), (12, (eI zH))] ∧ aL ⟨H0, [lo0p], []⟩ H [(lo0p, 1, List.map (eI) aA)] ∧ List.length aA = N0 ∧ gK rec aA a1 b2 bW bQ bI dM fL zH = some out1) ?_ ?_
    · clear hO hN h1
      rintro T H ⟨aA, fL, zH, hT, hO, hN, h1⟩
      refine bF hT ?_
      clear hT
      unfold gK at h1
      refine gM (fun T H => ∃ aA : List Int, Has T [(0, (.msl 1 lo0p 0 (List.length aA))), (1, (eI a1)), (2, (eI b2)), (3, (eI bW)), (8, (aF bQ)), (9, (aF bI)), (10, (eI dM)), (11, (eI fL))] ∧ aL ⟨H0, [lo0p], []⟩ H [(lo0p, 1, List.map (eI) aA)] ∧ List.length aA = N0 ∧ gH rec aA a1 b2 bW bQ bI dM fL = some out1) ?_ ?_
      · clear hO hN h1
        rintro T H ⟨aA, hT, hO, hN, h1⟩
        refine bF hT ?_
        clear hT
        unfold gH at h1
        refine aO ?_
        refine aO ?_
        obtain ⟨c14, h1⟩ := aW h1
        obtain ⟨c15, h1⟩ := aW h1
        obtain ⟨x16, hx17, h1⟩ := aY h1
        refine fG (fH []) aD 15 ?_
        refine nV (K := fun T H => Has (lift T) [(0, (.msl 1 lo0p 0 (List.length aA))), (1, (eI a1)), (2, (eI b2)), (3, (eI bW)), (8, (aF bQ)), (9, (aF bI)), (10, (eI dM)), (11, (eI fL)), (87, (aF ((decide ((0 : Int) < a1)) && (!x16))))] ∧ aL ⟨H0, [lo0p], []⟩ H [(lo0p, 1, List.map (eI) aA)]) ?_ ?_
        · refine lK 3 ?_
          refine mH (t := 75) (e := decide ((0 : Int) < a1)) (by kernel_rfl) (fun hg18 => ?_) (fun hg18 => ?_)
          · refine cA 7 [0 ≤ (wR (a1 - (1 : Int))) ∧ (wR (a1 - (1 : Int))) < (lN aA)] ⟨(c14 hg18), trivial⟩ ?_
            refine iV 0 lo0p 1 (0 + Int.toNat (wR (a1 - (1 : Int)))) (eI (gD aA (wR (a1 - (1 : Int))))) (eI (gD aA (wR (a1 - (1 : Int))))) (List.map (eI) aA) (by kernel_rfl) (by kernel_rfl) (by kernel_rfl) hO (by kernel_rfl) (bV (c14 hg18)) ?_
            refine cA 11 [0 ≤ fL ∧ fL < (lN aA)] ⟨(c15 hg18), trivial⟩ ?_
            refine iV 0 lo0p 1 (0 + Int.toNat fL) (eI (gD aA fL)) (eI (gD aA fL)) (List.map (eI) aA) (by kernel_rfl) (by kernel_rfl) (by kernel_rfl) hO (by kernel_rfl) (bV (c15 hg18)) ?_
            refine mV 70 [(eI (gD aA (wR (a1 - (1 : Int))))), (eI (gD aA fL))] (aF x16) (by kernel_rfl) (by kernel_rfl) (eU (gD aA (wR (a1 - (1 : Int)))) (gD aA fL) _ (iZ hx17 hg18)) hO ?_
            intro H hO
            refine jC ?_
            exact ⟨⟨[(0, (.msl 1 lo0p 0 (List.length aA))), (1, (eI a1)), (2, (eI b2)), (3, (eI bW)), (8, (aF bQ)), (9, (aF bI)), (10, (eI dM)), (11, (eI fL)), (87, (aF (!x16)))], by kernel_rfl, rfl, ⟨aN.refl _, aN.refl _, aN.refl _, aN.refl _, aN.refl _, aN.refl _, aN.refl _, aN.refl _, aN.eq (congrArg aF (lW hg18 rfl).symm), trivial⟩⟩, hO⟩
          refine jC ?_
          exact ⟨⟨[(0, (.msl 1 lo0p 0 (List.length aA))), (1, (eI a1)), (2, (eI b2)), (3, (eI bW)), (8, (aF bQ)), (9, (aF bI)), (10, (eI dM)), (11, (eI fL)), (87, (aF false))], by kernel_rfl, rfl, ⟨aN.refl _, aN.refl _, aN.refl _, aN.refl _, aN.refl _, aN.refl _, aN.refl _, aN.refl _, aN.eq (congrArg aF (lW hg18 rfl).symm), trivial⟩⟩, hO⟩
        · rintro T H ⟨hT, hO⟩
          refine cW hT ?_
          clear hT
          refine aI (aH ?_)
          refine bM h1 (fun h1 => ?_) (fun h1 => ?_)
          · refine aO ?_
            refine aV aD 6 ?_
            refine bO 4 ?_
            obtain ⟨x20, hx21, h1⟩ := aY h1
            refine vE [(lo0p, 1, List.map (eI) x20.2)] 0 (sQ lo0p aA a1 b2 fL _ hx21) hO ?_
            intro H hO hl22
            simp only [List.length_map] at hl22
            replace hN := hl22.trans hN
            refine bD ?_
            refine cW (l := [(0, (.msl 1 lo0p 0 (List.length x20.2))), (2, (eI b2)), (3, (eI bW)), (8, (aF bQ)), (9, (aF bI)), (13, (eI x20.1))]) ⟨[(0, (.msl 1 lo0p 0 (List.length aA))), (2, (eI b2)), (3, (eI bW)), (8, (aF bQ)), (9, (aF bI)), (13, (eI x20.1))], by kernel_rfl, rfl, ⟨aN.eq (by simp [hl22]), aN.refl _, aN.refl _, aN.refl _, aN.refl _, aN.refl _, trivial⟩⟩ ?_
            refine aI (aH (?_))
            refine aU aD 2 [13] [(1, (eI x20.1))] ?_
            refine gZ 1 ?_
            exact aI (aX (bX (aH (⟨rfl, _, (oI h1).symm, .eq (by kernel_rfl), hO, hN⟩))))
          refine bL ?_
          refine bG [(0, (.msl 1 lo0p 0 (List.length aA))), (1, (eI a1)), (2, (eI b2)), (3, (eI bW)), (10, (eI dM)), (11, (eI fL))] ?_
          refine aO ?_
          refine aV aD 10 ?_
          refine bO 4 ?_
          obtain ⟨x23, hx24, h1⟩ := aY h1
          refine vE [(lo0p, 1, List.map (eI) x23.2)] 0 (uR lo0p aA a1 b2 fL _ hx24) hO ?_
          intro H hO hl25
          simp only [List.length_map] at hl25
          replace hN := hl25.trans hN
          refine bD ?_
          refine cW (l := [(0, (.msl 1 lo0p 0 (List.length x23.2))), (1, (eI a1)), (2, (eI b2)), (3, (eI bW)), (10, (eI dM)), (14, (eI x23.1.1)), (15, (aF x23.1.2))]) ⟨[(0, (.msl 1 lo0p 0 (List.length aA))), (1, (eI a1)), (2, (eI b2)), (3, (eI bW)), (10, (eI dM)), (14, (eI x23.1.1)), (15, (aF x23.1.2))], by kernel_rfl, rfl, ⟨aN.eq (by simp [hl25]), aN.refl _, aN.refl _, aN.refl _, aN.refl _, aN.refl _, aN.refl _, trivial⟩⟩ ?_
          refine aI (aH (?_))
          refine aU aD 2 [15] [(9, (aF x23.1.2))] ?_
          refine aU aD 8 [] [(16, (eI (wR (x23.1.1 - a1)))), (17, (eI (wR (b2 - x23.1.1))))] ?_
          refine aO ?_
          refine aV aD 3 ?_
          obtain ⟨c26, h1⟩ := aW h1
          refine nG [(8 : Int) ≠ 0] ⟨c26, trivial⟩ ?_
          refine bS [10] [(18, (eI (wR (Int.tdiv dM (8 : Int)))))] ?_
          refine aU aD 3 [] [(113, (aF (decide ((wR (x23.1.1 - a1)) < (wR (b2 - x23.1.1))))))] ?_
          refine bM h1 (fun h1 => ?_) (fun h1 => ?_)
          · refine cH aD 4 [(0, (.msl 1 lo0p 0 (List.length x23.2))), (1, (eI a1)), (2, (eI b2)), (3, (eI bW)), (8, (aF (decide ((wR (Int.tdiv dM (8 : Int))) ≤ (wR (x23.1.1 - a1)))))), (9, (aF x23.1.2)), (14, (eI x23.1.1))] ?_
            refine aO ?_
            refine aV aD 5 ?_
            refine bO 4 ?_
            obtain ⟨x28, hx29, h1⟩ := aY h1
            refine vE [(lo0p, 1, List.map (eI) x28)] 0 (ih lo0p x23.2 a1 x23.1.1 bW _ hx29) hO ?_
            intro H hO hl30
            simp only [List.length_map] at hl30
            replace hN := hl30.trans hN
            refine fI ?_
            refine cW (l := [(0, (.msl 1 lo0p 0 (List.length x28))), (2, (eI b2)), (3, (eI bW)), (8, (aF (decide ((wR (Int.tdiv dM (8 : Int))) ≤ (wR (x23.1.1 - a1)))))), (9, (aF x23.1.2)), (14, (eI x23.1.1))]) ⟨[(0, (.msl 1 lo0p 0 (List.length x23.2))), (2, (eI b2)), (3, (eI bW)), (8, (aF (decide ((wR (Int.tdiv dM (8 : Int))) ≤ (wR (x23.1.1 - a1)))))), (9, (aF x23.1.2)), (14, (eI x23.1.1))], by kernel_rfl, rfl, ⟨aN.eq (by simp [hl30]), aN.refl _, aN.refl _, aN.refl _, aN.refl _, aN.refl _, trivial⟩⟩ ?_
            refine aI (aH (?_))
            refine aV aD 3 ?_
            refine bD ?_
            exact aI (aZ (aH (⟨rfl, _, (oI h1).symm, .eq (by kernel_rfl), hO, hN⟩)))
          refine cH aD 4 [(0, (.msl 1 lo0p 0 (List.length x23.2))), (1, (eI a1)), (2, (eI b2)), (3, (eI bW)), (8, (aF (decide ((wR (Int.tdiv dM (8 : Int))) ≤ (wR (b2 - x23.1.1)))))), (9, (aF x23.1.2)), (14, (eI x23.1.1))] ?_
          refine aO ?_
          refine aV aD 6 ?_
          refine bO 5 ?_
          obtain ⟨x31, hx32, h1⟩ := aY h1
          refine vE [(lo0p, 1, List.map (eI) x31)] 0 (ih lo0p x23.2 (wR (x23.1.1 + (1 : Int))) b2 bW _ hx32) hO ?_
          intro H hO hl33
          simp only [List.length_map] at hl33
          replace hN := hl33.trans hN
          refine fI ?_
          refine cW (l := [(0, (.msl 1 lo0p 0 (List.length x31))), (1, (eI a1)), (3, (eI bW)), (8, (aF (decide ((wR (Int.tdiv dM (8 : Int))) ≤ (wR (b2 - x23.1.1)))))), (9, (aF x23.1.2)), (14, (eI x23.1.1))]) ⟨[(0, (.msl 1 lo0p 0 (List.length x23.2))), (1, (eI a1)), (3, (eI bW)), (8, (aF (decide ((wR (Int.tdiv dM (8 : Int))) ≤ (wR (b2 - x23.1.1)))))), (9, (aF x23.1.2)), (14, (eI x23.1.1))], by kernel_rfl, rfl, ⟨aN.eq (by simp [hl33]), aN.refl _, aN.refl _, aN.refl _, aN.refl _, aN.refl _, trivial⟩⟩ ?_
          refine aI (aH (?_))
          refine aV aD 2 ?_
          refine bD ?_
          exact aI (aZ (aH (⟨rfl, _, (oI h1).symm, .eq (by kernel_rfl), hO, hN⟩)))
      refine aU aD 8 [12] [(68, (aF ((bQ && bI) && (decide (zH = (1 : Int))))))] ?_
      refine bM h1 (fun h1 => ?_) (fun h1 => ?_)
      · refine aO ?_
        refine aV aD 4 ?_
        refine bO 3 ?_
        obtain ⟨x35, hx36, h1⟩ := aY h1
        refine vE [(lo0p, 1, List.map (eI) x35.2)] 0 (pZ lo0p aA a1 b2 _ hx36) hO ?_
        intro H hO hl37
        simp only [List.length_map] at hl37
        replace hN := hl37.trans hN
        refine fI ?_
        refine cW (l := [(0, (.msl 1 lo0p 0 (List.length x35.2))), (1, (eI a1)), (2, (eI b2)), (3, (eI bW)), (8, (aF bQ)), (9, (aF bI)), (10, (eI dM)), (11, (eI fL)), (72, (aF x35.1))]) ⟨[(0, (.msl 1 lo0p 0 (List.length aA))), (1, (eI a1)), (2, (eI b2)), (3, (eI bW)), (8, (aF bQ)), (9, (aF bI)), (10, (eI dM)), (11, (eI fL)), (72, (aF x35.1))], by kernel_rfl, rfl, ⟨aN.eq (by simp [hl37]), aN.refl _, aN.refl _, aN.refl _, aN.refl _, aN.refl _, aN.refl _, aN.refl _, aN.refl _, trivial⟩⟩ ?_
        refine aI (aH (?_))
        refine bM h1 (fun h1 => ?_) (fun h1 => ?_)
        · refine bH ?_
          obtain rfl := oI h1
          obtain rfl : _ = rr0 := ho0
          replace h0 : some x35.2 = some r := h0
          obtain rfl := oI h0
          exact aI (aT (bN (aT (bN (jZ (x := (.tup [])) (by kernel_rfl) (aN.refl _) ⟨rfl, hO.ext, hO.at 0 (by kernel_rfl), by simp only [List.length_map]; exact hN.trans hN0⟩)))))
        refine bL ?_
        exact aI (aH (⟨rfl, _, .eq (by kernel_rfl), hO, hN, h1⟩))
      refine bL ?_
      exact aI (aH (⟨rfl, _, .eq (by kernel_rfl), hO, hN, h1⟩))
    refine aU aD 2 [] [(50, (aF (decide (x9.2 = (2 : Int)))))] ?_
    refine bM h1 (fun h1 => ?_) (fun h1 => ?_)
    · refine aO ?_
      refine aV aD 4 ?_
      refine bO 3 ?_
      obtain ⟨x40, hx41, h1⟩ := aY h1
      refine vE [(lo0p, 1, List.map (eI) x40)] 0 (tM lo0p aA a1 b2 _ hx41) hO ?_
      intro H hO hl42
      simp only [List.length_map] at hl42
      replace hN := hl42.trans hN
      refine fI ?_
      refine cW (l := [(0, (.msl 1 lo0p 0 (List.length x40))), (1, (eI a1)), (2, (eI b2)), (3, (eI bW)), (8, (aF bQ)), (9, (aF bI)), (10, (eI dM)), (11, (eI x9.1))]) ⟨[(0, (.msl 1 lo0p 0 (List.length aA))), (1, (eI a1)), (2, (eI b2)), (3, (eI bW)), (8, (aF bQ)), (9, (aF bI)), (10, (eI dM)), (11, (eI x9.1))], by kernel_rfl, rfl, ⟨aN.eq (by simp [hl42]), aN.refl _, aN.refl _, aN.refl _, aN.refl _, aN.refl _, aN.refl _, aN.refl _, trivial⟩⟩ ?_
      refine aI (aH (?_))
      refine aU aD 7 [11] [(11, (eI (wR ((wR (b2 - (1 : Int))) - (wR (x9.1 - a1))))))] ?_
      refine aV aD 1 ?_
      refine bD ?_
      exact aI (aH (⟨rfl, _, _, _, .eq (by kernel_rfl), hO, hN, h1⟩))
    refine bL ?_
    exact aI (aH (⟨rfl, _, _, _, .eq (by kernel_rfl), hO, hN, h1⟩))
  refine aU aD 2 [] [(35, (aF (!bQ)))] ?_
  refine bM h1 (fun h1 => ?_) (fun h1 => ?_)
  · refine aO ?_
    refine aV aD 4 ?_
    refine bO 3 ?_
    obtain ⟨x44, hx45, h1⟩ := aY h1
    refine vE [(lo0p, 1, List.map (eI) x44)] 0 (tA lo0p aA a1 b2 _ hx45) hO ?_
    intro H hO hl46
    simp only [List.length_map] at hl46
    replace hN := hl46.trans hN
    refine fI ?_
    refine cW (l := [(0, (.msl 1 lo0p 0 (List.length x44))), (1, (eI a1)), (2, (eI b2)), (3, (eI bW)), (8, (aF bQ)), (9, (aF bI)), (10, (eI (wR (b2 - a1))))]) ⟨[(0, (.msl 1 lo0p 0 (List.length aA))), (1, (eI a1)), (2, (eI b2)), (3, (eI bW)), (8, (aF bQ)), (9, (aF bI)), (10, (eI (wR (b2 - a1))))], by kernel_rfl, rfl, ⟨aN.eq (by simp [hl46]), aN.refl _, aN.refl _, aN.refl _, aN.refl _, aN.refl _, aN.refl _, trivial⟩⟩ ?_
    refine aI (aH (?_))
    refine aV aD 3 ?_
    refine bD ?_
    exact aI (aH (⟨rfl, _, _, _, .eq (by kernel_rfl), hO, hN, h1⟩))
  refine bL ?_
  exact aI (aH (⟨rfl, _, _, _, .eq (by kernel_rfl), hO, hN, h1⟩))

theorem oO  : ∀ (k : Nat) (lo0p : Nat) (aA : (List Int)) (a1 : Int) (b2 : Int) (bW : Int) (r : List Int), cY k aA a1 b2 bW = some r → mP Try.prog 60 lo0p 1 (List.map (eI) aA) (List.map (eI) r) [(.msl 1 lo0p 0 (List.length aA)), (eI a1), (eI b2), (eI bW)] (.tup [])
  | 0, _, _, _, _, _, _, h => by cases h
  | k + 1, lo0p, aA, a1, b2, bW, r, h => tQ  _ (oO  k) lo0p aA a1 b2 bW r h

theorem vT (lo0p : Nat) (aA : (List Int)) (a1 : Int) (b2 : Int) (bW : Int) (r : List Int) (h0 : iY aA a1 b2 bW = some r) : mP Try.prog 60 lo0p 1 (List.map (eI) aA) (List.map (eI) r) [(.msl 1 lo0p 0 (List.length aA)), (eI a1), (eI b2), (eI bW)] (.tup []) := by
  obtain ⟨k, hk⟩ := IP h0
  exact oO  k lo0p aA a1 b2 bW r hk

theorem zJ (lo0p : Nat) (x0 : (List Int)) (r : List Int) (h0 : jY x0 = some r) : mP Try.prog 33 lo0p 1 (List.map (eI) x0) (List.map (eI) r) [(.msl 1 lo0p 0 (List.length x0))] (.tup []) := by
  intro H0 hl0
  refine dD Try.func33 ?_
  have hO := aL.pI hl0
  clear hl0
  obtain ⟨N0, hN0⟩ : ∃ n, n = List.length x0 := ⟨_, rfl⟩
  have hN : List.length x0 = N0 := hN0.symm
  unfold jY at h0
  refine aU aD 3 [] [(2, (eI (lN x0)))] ?_
  refine aV aD 6 ?_
  refine bO 4 ?_
  obtain ⟨x1, hx2, h0⟩ := aY h0
  refine dO (yG (IntKind.u64.wrap (lN x0)) _ hx2) hO ?_
  intro H hO
  obtain ⟨x4, hx5, h0⟩ := aY h0
  refine vE [(lo0p, 1, List.map (eI) x4)] 0 (vT lo0p x0 (0 : Int) (lN x0) x1 _ hx5) hO ?_
  intro H hO hl6
  simp only [List.length_map] at hl6
  replace hN := hl6.trans hN
  refine fI ?_
  refine cW (l := [(0, (.msl 1 lo0p 0 (List.length x4)))]) ⟨[(0, (.msl 1 lo0p 0 (List.length x0)))], by kernel_rfl, rfl, ⟨aN.eq (by simp [hl6]), trivial⟩⟩ ?_
  obtain rfl := oI h0
  exact aI (wS (x := (.tup [])) (by kernel_rfl) (aN.refl _) ⟨rfl, hO.ext, hO.at 0 (by kernel_rfl), by simp only [List.length_map]; exact hN.trans hN0⟩)

theorem xE (lo0p : Nat) (s0 : (List Int)) (r : (List Int)) (h0 : iU s0 = some r) : yJ Try.prog 69 lo0p 1 (List.map (eI) s0) [(.msl 1 lo0p 0 (List.length s0))] (fun lo => .msl 1 lo 0 (List.length r)) (List.map (eI) r) := by
  intro H0 hl0
  refine dD Try.func69 ?_
  have hO := aL.pI hl0
  clear hl0
  unfold iU at h0
  refine aU aD 1 [] [] ?_
  refine aO ?_
  refine aU aD 3 [] [(8, (aF (decide ((lN s0) < (2 : Int)))))] ?_
  refine bM h0 (fun h0 => ?_) (fun h0 => ?_)
  · refine cH aD 2 [(2, (.msl 1 lo0p 0 (List.length s0)))] ?_
    refine bH ?_
    obtain rfl := oI h0
    exact aI (aT (jZ (x := (.msl 1 lo0p 0 (List.length s0))) (by kernel_rfl) (aN.refl _) ⟨lo0p, rfl, hO⟩))
  refine bL ?_
  refine bG [(0, (.msl 1 lo0p 0 (List.length s0)))] ?_
  refine gM (fun T H => ∃ s0 : List Int, ∃ lo2 : Nat, Has T [(0, (.msl 1 lo2 0 (List.length s0)))] ∧ aL ⟨H0, [lo0p], []⟩ H [(lo2, 1, List.map (eI) s0)] ∧ jN s0 = some r) ?_ ?_
  · clear hO h0
    rintro T H ⟨s0, lo2, hT, hO, h0⟩
    refine bF hT ?_
    clear hT
    unfold jN at h0
    refine cH aD 2 [(2, (.msl 1 lo2 0 (List.length s0)))] ?_
    refine bH ?_
    obtain rfl := oI h0
    exact aI (jZ (x := (.msl 1 lo2 0 (List.length s0))) (by kernel_rfl) (aN.refl _) ⟨lo2, rfl, hO⟩)
  refine aU aD 1 [] [(3, (eI (1 : Int)))] ?_
  refine cG 0 ?_
  refine fW [(0, (.msl 1 lo0p 0 (List.length s0))), (3, (eI (1 : Int)))] ?_
  refine eS (fun T H => ∃ s0 : List Int, ∃ k3 : Int, ∃ lo4 : Nat, Has T [(0, (.msl 1 lo4 0 (List.length s0))), (3, (eI k3))] ∧ aL ⟨H0, [lo0p], []⟩ H [(lo4, 1, List.map (eI) s0)] ∧ lF s0 k3 = some r) ?_ ⟨s0, (1 : Int), lo0p, .eq (by kernel_rfl), hO, h0⟩
  clear hO h0
  rintro T H ⟨s0, k3, lo4, hT, hO, h0⟩
  refine bF hT ?_
  clear hT
  unfold lF at h0
  obtain ⟨rr0, hl0, h0⟩ := aY h0
  refine dF (by kernel_rfl) (fun (s : List Int × Int) T H => ∃ lo4 : Nat, Has T [(0, (.msl 1 lo4 0 (List.length s.1))), (3, (eI s.2))] ∧ aL ⟨H0, [lo0p], []⟩ H [(lo4, 1, List.map (eI) s.1)]) hl0 ⟨lo4, .eq (by kernel_rfl), hO⟩ ?_
  clear hO
  rintro k0 s out1 T H ⟨lo4, hT, hO⟩ h1 ho0
  obtain ⟨s0, k3⟩ := s
  replace h1 : fX s0 k3 = some out1 := h1
  try dsimp only at hT
  refine bF hT ?_
  clear hT
  unfold fX at h1
  refine aO ?_
  refine aU aD 4 [] [(13, (aF (decide (k3 < (lN s0)))))] ?_
  refine bM h1 (fun h1 => ?_) (fun h1 => ?_)
  · refine bL ?_
    refine bG [(0, (.msl 1 lo4 0 (List.length s0))), (3, (eI k3))] ?_
    refine gM (fun T H => ∃ s0 : List Int, ∃ k3 : Int, ∃ lo6 : Nat, Has T [(0, (.msl 1 lo6 0 (List.length s0))), (3, (eI k3))] ∧ aL ⟨H0, [lo0p], []⟩ H [(lo6, 1, List.map (eI) s0)] ∧ lE s0 k3 = some out1) ?_ ?_
    · clear hO h1
      rintro T H ⟨s0, k3, lo6, hT, hO, h1⟩
      refine bF hT ?_
      clear hT
      unfold lE at h1
      refine aV aD 3 ?_
      refine bD ?_
      exact aI (aH (⟨rfl, _, (oI h1).symm, _, .eq (by kernel_rfl), hO⟩))
    refine cG 1 ?_
    refine aO ?_
    refine fG (fH []) aD 10 ?_
    obtain ⟨c7, h1⟩ := aW h1
    refine cA 3 [0 ≤ k3 ∧ k3 < (lN s0)] ⟨c7, trivial⟩ ?_
    refine fE 0 lo4 1 (0 + Int.toNat k3) (eI (gD s0 k3)) (eI (gD s0 k3)) (List.map (eI) s0) hO (bV c7) ?_
    obtain ⟨c8, h1⟩ := aW h1
    refine cA 8 [0 ≤ (wR (k3 - (1 : Int))) ∧ (wR (k3 - (1 : Int))) < (lN s0)] ⟨c8, trivial⟩ ?_
    refine fE 0 lo4 1 (0 + Int.toNat (wR (k3 - (1 : Int)))) (eI (gD s0 (wR (k3 - (1 : Int))))) (eI (gD s0 (wR (k3 - (1 : Int))))) (List.map (eI) s0) hO (bV c8) ?_
    refine jC ?_
    refine bS [] [(25, (aF (decide ((gD s0 k3) = (gD s0 (wR (k3 - (1 : Int))))))))] ?_
    refine bM h1 (fun h1 => ?_) (fun h1 => ?_)
    · refine aO ?_
      refine aV aD 4 ?_
      obtain ⟨c10, h1⟩ := aW h1
      refine nG [0 ≤ k3 ∧ k3 ≤ (lN s0)] ⟨c10, trivial⟩ ?_
      refine bS [25] [(4, (.msl 1 lo4 (0 + Int.toNat k3) (List.length s0 - Int.toNat k3)))] ?_
      refine gM (fun T H => ∃ s0 : List Int, ∃ k3 : Int, ∃ lo11 : Nat, Has T [(0, (.msl 1 lo11 0 (List.length s0))), (3, (eI k3))] ∧ aL ⟨H0, [lo0p], []⟩ H [(lo11, 1, List.map (eI) s0)] ∧ jV s0 k3 = some out1) ?_ ?_
      · clear hO h1
        rintro T H ⟨s0, k3, lo11, hT, hO, h1⟩
        refine bF hT ?_
        clear hT
        unfold jV at h1
        refine aO ?_
        refine aV aD 4 ?_
        obtain ⟨c12, h1⟩ := aW h1
        refine uB 3 [0 ≤ k3 ∧ k3 ≤ (lN s0)] ⟨c12, trivial⟩ ?_
        refine YK (t := 25) (m := (0 + Int.toNat k3)) (nn := (List.length s0 - Int.toNat k3)) s0 0 lo11 [(lo11, 1, List.map (eI) (jF (0 + Int.toNat k3) s0))] hO (by omega) ?_
        intro H hO
        refine fI ?_
        refine cW (l := [(0, (.msl 1 lo11 0 (List.length (jF (0 + Int.toNat k3) s0)))), (3, (eI k3))]) ⟨[(0, (.msl 1 lo11 0 (List.length s0))), (3, (eI k3))], by kernel_rfl, rfl, ⟨aN.eq (by simp [clearL_len]), aN.refl _, trivial⟩⟩ ?_
        refine aI (aH (?_))
        refine aO ?_
        refine aV aD 4 ?_
        obtain ⟨c13, h1⟩ := aW h1
        obtain ⟨c14, h1⟩ := aW h1
        refine nG [0 ≤ k3 ∧ k3 ≤ (lN (jF (0 + Int.toNat k3) s0))] ⟨c13, trivial⟩ ?_
        refine bG [(2, (.msl 1 lo11 0 (Int.toNat k3)))] ?_
        refine bH ?_
        refine cW (l := [(2, (.msl 1 lo11 0 (List.length (List.take (Int.toNat k3) (jF (0 + Int.toNat k3) s0)))))]) ⟨[(2, (.msl 1 lo11 0 (Int.toNat k3)))], by kernel_rfl, rfl, ⟨aN.eq (by rw [List.length_take, Nat.min_eq_left c14]), trivial⟩⟩ ?_
        refine aAe (en := (eI)) (jF (0 + Int.toNat k3) s0) (Int.toNat k3) 0 1 lo11 [(lo11, 1, List.map (eI) (List.take (Int.toNat k3) (jF (0 + Int.toNat k3) s0)))] hO (by kernel_rfl) (by kernel_rfl) ?_
        intro H hO
        obtain rfl := oI h1
        obtain rfl : _ = rr0 := ho0
        replace h0 : some (List.take (Int.toNat k3) (jF (0 + Int.toNat k3) s0)) = some r := h0
        obtain rfl := oI h0
        exact aI (bN (aT (aT (bN (aT (jZ (x := (.msl 1 lo11 0 (List.length (List.take (Int.toNat k3) (jF (0 + Int.toNat k3) s0))))) (by kernel_rfl) (aN.refl _) ⟨lo11, rfl, hO⟩))))))
      refine aU aD 1 [] [(5, (eI (1 : Int)))] ?_
      refine cG 2 ?_
      refine fW [(0, (.msl 1 lo4 0 (List.length s0))), (3, (eI k3)), (4, (.msl 1 lo4 (0 + Int.toNat k3) (List.length s0 - Int.toNat k3))), (5, (eI (1 : Int)))] ?_
      refine eS (fun T H => ∃ s0 : List Int, ∃ k3 : Int, ∃ k25 : Int, ∃ s24o : Nat, ∃ s24n : Nat, ∃ lo16 : Nat, Has T [(0, (.msl 1 lo16 0 (List.length s0))), (3, (eI k3)), (4, (.msl 1 lo16 s24o s24n)), (5, (eI k25))] ∧ aL ⟨H0, [lo0p], []⟩ H [(lo16, 1, List.map (eI) s0)] ∧ lG s0 k3 k25 s24o s24n = some out1) ?_ ⟨s0, k3, (1 : Int), (0 + Int.toNat k3), (List.length s0 - Int.toNat k3), lo4, .eq (by kernel_rfl), hO, h1⟩
      clear hO h1
      rintro T H ⟨s0, k3, k25, s24o, s24n, lo16, hT, hO, h1⟩
      refine bF hT ?_
      clear hT
      unfold lG at h1
      obtain ⟨rr1, hl1, h1⟩ := aY h1
      refine dF (by kernel_rfl) (fun (s : List Int × Int × Int) T H => ∃ lo16 : Nat, Has T [(0, (.msl 1 lo16 0 (List.length s.1))), (3, (eI s.2.1)), (4, (.msl 1 lo16 s24o s24n)), (5, (eI s.2.2))] ∧ aL ⟨H0, [lo0p], []⟩ H [(lo16, 1, List.map (eI) s.1)]) hl1 ⟨lo16, .eq (by kernel_rfl), hO⟩ ?_
      clear hO
      rintro k1 s out2 T H ⟨lo16, hT, hO⟩ h2 ho1
      obtain ⟨s0, k3, k25⟩ := s
      replace h2 : eT s24o s24n s0 k3 k25 = some out2 := h2
      try dsimp only at hT
      refine bF hT ?_
      clear hT
      unfold eT at h2
      refine aO ?_
      refine aU aD 4 [] [(32, (aF (decide (k25 < ((s24n : Nat) : Int)))))] ?_
      refine bM h2 (fun h2 => ?_) (fun h2 => ?_)
      · refine bL ?_
        refine bG [(0, (.msl 1 lo16 0 (List.length s0))), (3, (eI k3)), (4, (.msl 1 lo16 s24o s24n)), (5, (eI k25))] ?_
        refine gM (fun T H => ∃ s0 : List Int, ∃ k3 : Int, ∃ lo18 : Nat, Has T [(0, (.msl 1 lo18 0 (List.length s0))), (3, (eI k3)), (4, (.msl 1 lo18 s24o s24n)), (5, (eI k25))] ∧ aL ⟨H0, [lo0p], []⟩ H [(lo18, 1, List.map (eI) s0)] ∧ iL s0 k3 k25 s24o s24n = some out2) ?_ ?_
        · clear hO h2
          rintro T H ⟨s0, k3, lo18, hT, hO, h2⟩
          refine bF hT ?_
          clear hT
          unfold iL at h2
          refine aV aD 3 ?_
          refine bD ?_
          exact aI (aH (⟨rfl, _, (oI h2).symm, _, .eq (by kernel_rfl), hO⟩))
        refine cG 3 ?_
        refine aO ?_
        refine fG (fH []) aD 10 ?_
        obtain ⟨c19, h2⟩ := aW h2
        obtain ⟨c20, h2⟩ := aW h2
        refine cA 3 [0 ≤ k25 ∧ k25 < ((s24n : Nat) : Int)] ⟨c19, trivial⟩ ?_
        refine fE 0 lo16 1 (s24o + Int.toNat k25) (eI (List.getD s0 (s24o + Int.toNat k25) default)) (eI (List.getD s0 (s24o + Int.toNat k25) default)) (List.map (eI) s0) hO (HA c20) ?_
        obtain ⟨c21, h2⟩ := aW h2
        obtain ⟨c22, h2⟩ := aW h2
        refine cA 8 [0 ≤ (wR (k25 - (1 : Int))) ∧ (wR (k25 - (1 : Int))) < ((s24n : Nat) : Int)] ⟨c21, trivial⟩ ?_
        refine fE 0 lo16 1 (s24o + Int.toNat (wR (k25 - (1 : Int)))) (eI (List.getD s0 (s24o + Int.toNat (wR (k25 - (1 : Int)))) default)) (eI (List.getD s0 (s24o + Int.toNat (wR (k25 - (1 : Int)))) default)) (List.map (eI) s0) hO (HA c22) ?_
        refine jC ?_
        refine bS [] [(44, (aF (!decide ((List.getD s0 (s24o + Int.toNat k25) default) = (List.getD s0 (s24o + Int.toNat (wR (k25 - (1 : Int)))) default)))))] ?_
        refine bM h2 (fun h2 => ?_) (fun h2 => ?_)
        · refine aO ?_
          refine aV aD 8 ?_
          obtain ⟨c24, h2⟩ := aW h2
          obtain ⟨c25, h2⟩ := aW h2
          refine uB 5 [0 ≤ k25 ∧ k25 < ((s24n : Nat) : Int)] ⟨c24, trivial⟩ ?_
          refine nR 0 lo16 1 (s24o + Int.toNat k25) (eI (List.getD s0 (s24o + Int.toNat k25) default)) (eI (List.getD s0 (s24o + Int.toNat k25) default)) (List.map (eI) s0) hO (HA c25) ?_
          obtain ⟨c26, h2⟩ := aW h2
          refine uB 7 [0 ≤ k3 ∧ k3 < (lN s0)] ⟨c26, trivial⟩ ?_
          refine lO 0 lo16 1 (0 + Int.toNat k3) (eI (gD s0 k3)) (eI (List.getD s0 (s24o + Int.toNat k25) default)) (List.map (eI) s0) [(lo16, 1, List.map (eI) (List.set s0 (Int.toNat k3) (List.getD s0 (s24o + Int.toNat k25) default)))] hO (bV c26) (by simp only [List.set, fZ]) ?_
          intro H hO
          refine fI ?_
          refine cW (l := [(0, (.msl 1 lo16 0 (List.length (List.set s0 (Int.toNat k3) (List.getD s0 (s24o + Int.toNat k25) default))))), (3, (eI k3)), (4, (.msl 1 lo16 s24o s24n)), (5, (eI k25))]) ⟨[(0, (.msl 1 lo16 0 (List.length s0))), (3, (eI k3)), (4, (.msl 1 lo16 s24o s24n)), (5, (eI k25))], by kernel_rfl, rfl, ⟨aN.eq (by simp []), aN.refl _, aN.refl _, aN.refl _, trivial⟩⟩ ?_
          refine aI (aH (?_))
          refine aV aD 3 ?_
          refine bD ?_
          exact aI (aZ (aH (⟨rfl, _, _, _, .eq (by kernel_rfl), hO, h2⟩)))
        refine bL ?_
        exact aI (aZ (aH (⟨rfl, _, _, _, .eq (by kernel_rfl), hO, h2⟩)))
      refine gZ 2 ?_
      obtain rfl := oI h2
      obtain rfl : _ = rr1 := ho1
      replace h1 : jV s0 k3 = some out1 := h1
      exact aI (aX (aX (bX (aH (⟨rfl, _, _, _, .eq (by kernel_rfl), hO, h1⟩)))))
    refine bL ?_
    exact aI (aZ (aH (⟨rfl, _, _, _, .eq (by kernel_rfl), hO, h1⟩)))
  refine gZ 0 ?_
  obtain rfl := oI h1
  obtain rfl : _ = rr0 := ho0
  replace h0 : jN s0 = some r := h0
  exact aI (aX (aX (bX (aH (⟨rfl, _, _, .eq (by kernel_rfl), hO, h0⟩)))))

theorem tY (l0 : (List aE)) (r : (List Int)) (h0 : lQ l0 = some r) : dH Try.prog 47 [(eL aG l0)] (eL (eI) r) := by
  intro H0
  refine CL aD Try.func47 (by kernel_rfl) (by kernel_rfl) (by kernel_rfl) ?_
  have hO := aL.start H0
  unfold lQ at h0
  refine aU aD 1 [] [] ?_
  refine aO ?_
  refine aV aD 3 ?_
  refine oZ (xs := []) (k := 1) (by kernel_rfl) (by kernel_rfl) ?_
  refine rY 1 (.sl true 0 (fun _ => .bad)) (eL (eI) ([])) (by kernel_rfl) (by kernel_rfl) (by kernel_rfl) (kR) (by kernel_rfl) (by kernel_rfl) hO ?_
  intro lo1 H hO
  refine RZ 5 1 (fun _ => .bad) (by kernel_rfl) hO (by kernel_rfl) ?_
  intro lo2 H hO
  refine lO 0 lo1 1 0 (eL (eI) ([])) (.msl 1 lo2 0 (List.length ([] : List Int))) [(eL (eI) ([]))] [(lo1, 1, [(.msl 1 lo2 0 (List.length ([] : List Int)))]), (lo2, 1, List.map (eI) ([] : List Int))] hO rfl (by kernel_rfl) ?_
  intro H hO
  refine fI ?_
  refine bS [] [(3, (.lp lo1 0 0))] ?_
  refine aO ?_
  refine aO ?_
  refine aV aD 2 ?_
  refine bO 1 ?_
  obtain ⟨x3, hx4, h0⟩ := aY h0
  refine dO (zI l0 _ hx4) hO ?_
  intro H hO
  refine fI ?_
  refine bS [0] [(7, (.fn (.func 94) [] [(.rp (eL aG x3))]))] ?_
  refine cG 0 ?_
  refine fW [(3, (.lp lo1 0 0)), (7, (.fn (.func 94) [] [(.rp (eL aG x3))]))] ?_
  refine eS (fun T H => ∃ out3 : List Int, ∃ t7c0 : (List aE), ∃ lo5 : Nat, Has T [(3, (.lp lo1 0 0)), (7, (.fn (.func 94) [] [(.rp (eL aG t7c0))]))] ∧ aL ⟨H0, [], []⟩ H [(lo1, 1, [(.msl 1 lo5 0 (List.length out3))]), (lo5, 1, List.map (eI) out3)] ∧ pT out3 t7c0 = some r) ?_ ⟨([] : List Int), x3, lo2, .eq (by kernel_rfl), hO, h0⟩
  clear hO h0
  rintro T H ⟨out3, t7c0, lo5, hT, hO, h0⟩
  refine bF (l := [(3, (.lp lo1 0 0)), (7, (.fn (.func 94) [] [(.rp (eL aG t7c0))]))]) hT ?_
  clear hT
  unfold pT at h0
  obtain ⟨o0, hl0, h0⟩ := aY h0
  refine AM (fid := 94) (ys := []) (cs := [(.rp (eL aG t7c0))]) #[8] (fun (A : wT) (b lL : Nat) (st : (List Int) ⊕ (List Int)) (G' : Gs) => Sum.elim (fun (s : List Int) => ∃ lo5 : Nat, G' = (lL, .raw (kX b A .ready none)) :: (up [(lo1, 1, [(.msl 1 lo5 0 (List.length s))]), (lo5, 1, List.map (eI) s)] ++ [])) (fun (s : List Int) => False) st) (.inl out3) o0 (.tup []) (by kernel_rfl) (by kernel_rfl) (by kernel_rfl) hO (fun _ _ => ⟨lo5, rfl⟩) ?_ ?_
  · intro b lL
    clear hO h0
    refine vU _ b (fun st t8 => rnd (fun (s : List Int) => nW t7c0 s t8) st) ?_ t7c0 _ _ hl0
    intro st t8 out1 rr hr
    obtain ⟨s, rfl, h1, rfl⟩ := QM hr
    clear hr
    intro Hr Gr hi hg
    obtain ⟨out3, rfl⟩ : ∃ x, x = s := ⟨_, rfl⟩
    dsimp only [Sum.elim_inl] at hi
    obtain ⟨lo5, rfl⟩ := hi
    replace h1 : nW t7c0 out3 t8 = some out1 := h1
    unfold nW at h1
    obtain ⟨E1, hE, hO⟩ := vP hg
    refine vQ (zL (hO.gm 0 _ rfl).2 (by kernel_rfl) (by kernel_rfl) ?_)
    refine fW [(3, (.lp lo1 0 0)), (7, (.fn (.func 94) [] [(.rp (eL aG t7c0))])), (8, (aG t8))] ?_
    refine aV aD 2 ?_
    refine rY 3 (.agg [(.sl true 0 (fun _ => .bad)), (eI 0), (eI 0)]) (aG (aE.mk ([]) 0 0)) (by kernel_rfl) (by kernel_rfl) (by kernel_rfl) (BM (xs := [(.sl true 0 (fun _ => .bad)), (eI 0), (eI 0)]) (ys := [(eL aK ([])), (eI 0), (eI 0)]) ⟨kR, aN.refl _, aN.refl _, trivial⟩) (by kernel_rfl) (by kernel_rfl) hO ?_
    intro lo6 H hO
    refine lO 2 lo6 3 0 (aG (aE.mk ([]) 0 0)) (aG t8) [(aG (aE.mk ([]) 0 0))] [(lo1, 1, [(.msl 1 lo5 0 (List.length out3))]), (lo5, 1, List.map (eI) out3), (lo6, 3, [(aG t8)])] hO rfl (by kernel_rfl) ?_
    intro H hO
    refine fI ?_
    refine fV [(3, (.lp lo1 0 0)), (4, (.lp lo6 0 0))] ?_
    refine aI (⟨rfl, rfl, (hO.gm 0 _ rfl).2, ?_⟩)
    intro o1 ho1
    replace hO := hO.wG o1
    refine cG 1 ?_
    refine aV aD 6 ?_
    refine nR 0 lo1 1 0 (.msl 1 lo5 0 (List.length out3)) (.msl 1 lo5 0 (List.length out3)) [(.msl 1 lo5 0 (List.length out3))] hO rfl ?_
    refine bO 2 ?_
    refine nR 2 lo6 3 0 (aG t8) (eI t8.At) [(aG t8)] hO rfl ?_
    refine oZ (xs := [(eI t8.At)]) (k := 1) (by kernel_rfl) (by kernel_rfl) ?_
    obtain ⟨c8, h1⟩ := aW h1
    refine wZ (e := (eI)) out3 ([t8.At]) 1 lo5 1 8 (kN [(eI t8.At)]) (fun lo7 => [(lo1, 1, [(.msl 1 lo5 0 (List.length out3))]), (lo7, 1, List.map (eI) (out3 ++ ([t8.At]))), (lo6, 3, [(aG t8)])]) (by kernel_rfl) (by kernel_rfl) hO (by kernel_rfl) (by kernel_rfl) c8 (fun _ => by kernel_rfl) ?_
    intro lo7 H hO
    refine lO 0 lo1 1 0 (.msl 1 lo5 0 (List.length out3)) (.msl 1 lo7 0 (List.length (out3 ++ ([t8.At])))) [(.msl 1 lo5 0 (List.length out3))] [(lo1, 1, [(.msl 1 lo7 0 (List.length (out3 ++ ([t8.At]))))]), (lo7, 1, List.map (eI) (out3 ++ ([t8.At]))), (lo6, 3, [(aG t8)])] hO rfl (by kernel_rfl) ?_
    intro H hO
    refine fI ?_
    refine fV [(3, (.lp lo1 0 0))] ?_
    replace hO := hO.pick (L' := [(lo1, 1, [(.msl 1 lo7 0 (List.length (out3 ++ ([t8.At]))))]), (lo7, 1, List.map (eI) (out3 ++ ([t8.At])))]) [0, 1] (by decide) (by kernel_rfl)
    obtain rfl := oI h1
    exact aI (aZ (⟨(iO hO hE ho1 .dead).1, rfl, _, ⟨lo7, rfl⟩, (iO hO hE ho1 _).2⟩))
  · intro b lD9 lL H' G' hi hO
    rcases o0 with s | s
    · dsimp only [Sum.elim_inl] at hi
      obtain ⟨lo5, rfl⟩ := hi
      replace h0 : ((jY s).bind fun x10 => (iU x10).bind fun x13 => some x13) = some r := h0
      obtain ⟨hlL, hO⟩ := sK hO
      refine ⟨_, _, hlL, (by intro e; cases e), ?_⟩
      refine fV [(3, (.lp lo1 0 0))] ?_
      refine aI (aZ (aH (?_)))
      refine aO ?_
      refine aV aD 2 ?_
      refine nR 0 lo1 1 0 (.msl 1 lo5 0 (List.length s)) (.msl 1 lo5 0 (List.length s)) [(.msl 1 lo5 0 (List.length s))] hO rfl ?_
      obtain ⟨x10, hx11, h0⟩ := aY h0
      refine vE [(lo1, 1, [(.msl 1 lo5 0 (List.length s))]), (lo5, 1, List.map (eI) x10)] 1 (zJ lo5 s _ hx11) hO ?_
      intro H hO hl12
      simp only [List.length_map] at hl12
      refine fI ?_
      refine fV [(3, (.lp lo1 0 0))] ?_
      replace hO : aL ⟨H0, [], (lD9, .raw xJ) :: []⟩ H [(lo1, 1, [(.msl 1 lo5 0 (List.length x10))]), (lo5, 1, List.map (eI) x10)] := by simpa only [List.length_set, hl12] using hO
      refine aI (aH (?_))
      refine aO ?_
      refine aV aD 3 ?_
      refine nR 0 lo1 1 0 (.msl 1 lo5 0 (List.length x10)) (.msl 1 lo5 0 (List.length x10)) [(.msl 1 lo5 0 (List.length x10))] hO rfl ?_
      obtain ⟨x13, hx14, h0⟩ := aY h0
      refine PI (L' := fun lo15 => [(lo1, 1, [(.msl 1 lo5 0 (List.length x10))]), (lo15, 1, List.map (eI) x13)]) 1 lo5 1 (List.map (eI) x10) (List.map (eI) x13) 69 [(.msl 1 lo5 0 (List.length x10))] (fun lo15 => (.msl 1 lo15 0 (List.length x13))) (by kernel_rfl) (by kernel_rfl) (xE lo5 x10 _ hx14) hO (by kernel_rfl) (fun _ => by kernel_rfl) ?_
      intro lo15 H hO
      refine bD ?_
      refine fV [(2, (.msl 1 lo15 0 (List.length x13)))] ?_
      replace hO := hO.pick (L' := [(lo15, 1, List.map (eI) x13)]) [1] (by decide) (by kernel_rfl)
      refine aI (aH (?_))
      refine bH ?_
      refine fV [(2, (.msl 1 lo15 0 (List.length x13)))] ?_
      refine wA (en := (eI)) x13 0 0 2 1 lo15 (List.length x13) hO (by kernel_rfl) (by kernel_rfl) (by kernel_rfl) (L' := []) (by kernel_rfl) ?_
      intro H16 hO
      obtain rfl := oI h0
      have hD := (hO.gm 0 _ rfl).2
      replace hO := (hO.wG .dead).wV
      exact aI (QM1 (.inr rfl) hD (rs := [.tmp 2]) (xs := [(eL (eI) x13)]) (x := (eL (eI) x13)) (by kernel_rfl) (ZE (x := (eL (eI) x13)) (by kernel_rfl) xH) (by kernel_rfl) ⟨rfl, hO.out⟩)
    · exact hi.elim

theorem FP (l0 : (List aE)) (r : ((List Int) × Int)) (h0 : oT l0 = some r) : dH Try.prog 21 [(eL aG l0)] (.tup [(eL (eI) r.1), (eI r.2)]) := by
  intro H0
  refine dD Try.func21 ?_
  have hO := aL.start H0
  unfold oT at h0
  refine aU aD 2 [] [] ?_
  refine aO ?_
  refine aO ?_
  refine aV aD 3 ?_
  refine bO 1 ?_
  obtain ⟨x1, hx2, h0⟩ := aY h0
  refine dO (xG l0 (1 : Int) _ hx2) hO ?_
  intro H hO
  refine bD ?_
  refine bS [] [(4, (eI x1))] ?_
  refine aU aD 2 [] [(8, (aF (!decide (x1 = (0 : Int)))))] ?_
  refine bM h0 (fun h0 => ?_) (fun h0 => ?_)
  · refine cH aD 3 [(2, (.sl true 0 (fun _ => .bad))), (3, (eI x1))] ?_
    refine bH ?_
    refine cW (l := [(2, (eL (eI) ([]))), (3, (eI x1))]) ⟨[(2, (.sl true 0 (fun _ => .bad))), (3, (eI x1))], by kernel_rfl, rfl, ⟨kR, aN.refl _, trivial⟩⟩ ?_
    obtain rfl := oI h0
    exact aI (aT (Q_r hO))
  refine bL ?_
  refine bG [(0, (eL aG l0))] ?_
  refine aO ?_
  refine aV aD 4 ?_
  refine bO 1 ?_
  obtain ⟨x5, hx6, h0⟩ := aY h0
  refine dO (tY l0 _ hx6) hO ?_
  intro H hO
  refine bD ?_
  refine bG [(2, (eL (eI) x5)), (3, (eI (0 : Int)))] ?_
  refine bH ?_
  obtain rfl := oI h0
  exact aI (Q_r hO)

theorem vX (x0 : Int) (r : Bool) (h0 : mS x0 = some r) : dH Try.prog 71 [(eI x0)] (aF r) := by
  intro H0
  refine dD Try.func71 ?_
  have hO := aL.start H0
  unfold mS at h0
  refine aU aD 1 [] [] ?_
  refine cH aD 4 [(2, (aF (!decide (x0 = x0))))] ?_
  refine bH ?_
  obtain rfl := oI h0
  exact aI (Q_r hO)

theorem oX (x0 : (List Int)) (eZ : Int) (r : (Int × Bool)) (h0 : eP x0 eZ = some r) : dH Try.prog 49 [(eL (eI) x0), (eI eZ)] (.tup [(eI r.1), (aF r.2)]) := by
  intro H0
  refine dD Try.func49 ?_
  have hO := aL.start H0
  unfold eP at h0
  refine aU aD 2 [] [] ?_
  refine aU aD 3 [] [(6, (eI (lN x0)))] ?_
  refine aU aD 3 [] [(7, (eI (0 : Int))), (8, (eI (lN x0)))] ?_
  refine gM (fun T H => ∃ n6 : Int, ∃ i7 : Int, Has T [(0, (eL (eI) x0)), (1, (eI eZ)), (6, (eI n6)), (7, (eI i7))] ∧ aL ⟨H0, [], []⟩ H [] ∧ hY x0 eZ n6 i7 = some r) ?_ ?_
  · clear hO h0
    rintro T H ⟨n6, i7, hT, hO, h0⟩
    refine bF hT ?_
    clear hT
    unfold hY at h0
    refine aO ?_
    refine aV aD 25 ?_
    obtain ⟨c1, h0⟩ := aW h0
    obtain ⟨c2, h0⟩ := aW h0
    refine uB 16 [(((decide (i7 < n6))) = true → 0 ≤ i7 ∧ i7 < (lN x0)), (((!(decide ((gD x0 i7) = eZ))) && (decide (i7 < n6))) = true → 0 ≤ i7 ∧ i7 < (lN x0))] ⟨c1, c2, trivial⟩ ?_
    obtain ⟨x3, hx4, h0⟩ := aY h0
    refine mW [(42, false), (35, true)] 71 [(eI (gD x0 i7))] (aF x3) ((!(decide ((gD x0 i7) = eZ))) && (decide (i7 < n6))) (by kernel_rfl) (by kernel_rfl) (by kernel_rfl) (fun hb5 => (vX (gD x0 i7) _ (iZ hx4 hb5))) hO ?_
    intro H hO
    refine bO 19 ?_
    obtain ⟨x6, hx7, h0⟩ := aY h0
    refine mW [(48, true), (42, false), (35, true)] 71 [(eI eZ)] (aF x6) (x3 && ((!(decide ((gD x0 i7) = eZ))) && (decide (i7 < n6)))) (by kernel_rfl) (by kernel_rfl) (by kernel_rfl) (fun hb8 => (vX eZ _ (iZ hx7 hb8))) hO ?_
    intro H hO
    refine bD ?_
    refine bG [(4, (eI i7)), (5, (aF ((decide (i7 < n6)) && ((decide ((gD x0 i7) = eZ)) || (x3 && x6)))))] ?_
    refine bH ?_
    obtain rfl := oI h0
    exact aI (Q_r hO)
  refine cG 0 ?_
  refine fW [(0, (eL (eI) x0)), (1, (eI eZ)), (6, (eI (lN x0))), (7, (eI (0 : Int))), (8, (eI (lN x0)))] ?_
  refine eS (fun T H => ∃ n6 : Int, ∃ i7 : Int, ∃ j8 : Int, Has T [(0, (eL (eI) x0)), (1, (eI eZ)), (6, (eI n6)), (7, (eI i7)), (8, (eI j8))] ∧ aL ⟨H0, [], []⟩ H [] ∧ jO x0 eZ n6 i7 j8 = some r) ?_ ⟨(lN x0), (0 : Int), (lN x0), .eq (by kernel_rfl), hO, h0⟩
  clear hO h0
  rintro T H ⟨n6, i7, j8, hT, hO, h0⟩
  refine bF hT ?_
  clear hT
  unfold jO at h0
  obtain ⟨rr0, hl0, h0⟩ := aY h0
  refine dF (by kernel_rfl) (fun (s : Int × Int) T H => Has T [(0, (eL (eI) x0)), (1, (eI eZ)), (6, (eI n6)), (7, (eI s.1)), (8, (eI s.2))] ∧ aL ⟨H0, [], []⟩ H []) hl0 ⟨.eq (by kernel_rfl), hO⟩ ?_
  clear hO
  rintro k0 s out1 T H ⟨hT, hO⟩ h1 ho0
  obtain ⟨i7, j8⟩ := s
  replace h1 : eH x0 eZ n6 i7 j8 = some out1 := h1
  try dsimp only at hT
  refine bF hT ?_
  clear hT
  unfold eH at h1
  refine aO ?_
  refine aU aD 3 [] [(15, (aF (decide (i7 < j8))))] ?_
  refine bM h1 (fun h1 => ?_) (fun h1 => ?_)
  · refine bL ?_
    refine bG [(0, (eL (eI) x0)), (1, (eI eZ)), (6, (eI n6)), (7, (eI i7)), (8, (eI j8))] ?_
    refine cG 1 ?_
    refine aO ?_
    refine aV aD 7 ?_
    obtain ⟨c10, h1⟩ := aW h1
    refine nG [0 ≤ (1 : Int)] ⟨c10, trivial⟩ ?_
    refine bS [] [(9, (eI (wR (Int.fdiv (IntKind.u64.wrap (wR (i7 + j8))) (2 ^ (min (Int.toNat (1 : Int)) 64))))))] ?_
    refine aO ?_
    refine aV aD 6 ?_
    obtain ⟨c11, h1⟩ := aW h1
    refine uB 5 [0 ≤ (wR (Int.fdiv (IntKind.u64.wrap (wR (i7 + j8))) (2 ^ (min (Int.toNat (1 : Int)) 64)))) ∧ (wR (Int.fdiv (IntKind.u64.wrap (wR (i7 + j8))) (2 ^ (min (Int.toNat (1 : Int)) 64)))) < (lN x0)] ⟨c11, trivial⟩ ?_
    obtain ⟨x12, hx13, h1⟩ := aY h1
    refine dO (eU (gD x0 (wR (Int.fdiv (IntKind.u64.wrap (wR (i7 + j8))) (2 ^ (min (Int.toNat (1 : Int)) 64))))) eZ _ hx13) hO ?_
    intro H hO
    refine fI ?_
    refine bS [] [(27, (aF x12))] ?_
    refine bM h1 (fun h1 => ?_) (fun h1 => ?_)
    · refine aV aD 3 ?_
      refine bD ?_
      exact aI (aZ (aH (⟨rfl, _, (oI h1).symm, .eq (by kernel_rfl), hO⟩)))
    refine aV aD 2 ?_
    refine bD ?_
    exact aI (aZ (aH (⟨rfl, _, (oI h1).symm, .eq (by kernel_rfl), hO⟩)))
  refine gZ 0 ?_
  obtain rfl := oI h1
  obtain rfl : _ = rr0 := ho0
  replace h0 : hY x0 eZ n6 i7 = some r := h0
  exact aI (aX (aX (bX (aH (⟨rfl, _, _, .eq (by kernel_rfl), hO, h0⟩)))))

theorem wD (l0 : (List aE)) (n1 : Int) (t2 : Int) (r : (Int × Int)) (h0 : nB l0 n1 t2 = some r) : dH Try.prog 23 [(eL aG l0), (eI n1), (eI t2)] (.tup [(eI r.1), (eI r.2)]) := by
  intro H0
  refine dD Try.func23 ?_
  have hO := aL.start H0
  unfold nB at h0
  refine aU aD 2 [] [] ?_
  refine aO ?_
  refine aO ?_
  refine aV aD 4 ?_
  refine bO 2 ?_
  obtain ⟨x1, hx2, h0⟩ := aY h0
  refine dO (xG l0 n1 _ hx2) hO ?_
  intro H hO
  refine bD ?_
  refine bS [] [(8, (eI x1))] ?_
  refine aU aD 2 [] [(17, (aF (!decide (x1 = (0 : Int)))))] ?_
  refine bM h0 (fun h0 => ?_) (fun h0 => ?_)
  · refine cH aD 3 [(6, (eI (0 : Int))), (7, (eI x1))] ?_
    refine bH ?_
    obtain rfl := oI h0
    exact aI (aT (Q_r hO))
  refine bL ?_
  refine bG [(0, (eL aG l0)), (1, (eI n1)), (2, (eI t2))] ?_
  refine aO ?_
  refine cG 0 ?_
  refine aU aD 7 [] [(19, (aF ((decide (t2 < (0 : Int))) || (decide ((1125899906842624 : Int) < t2)))))] ?_
  refine bM h0 (fun h0 => ?_) (fun h0 => ?_)
  · refine cH aD 2 [(6, (eI (0 : Int))), (7, (eI (13 : Int)))] ?_
    refine bH ?_
    obtain rfl := oI h0
    exact aI (bN (aT (Q_r hO)))
  refine aU aD 3 [19] [(26, (aF (decide (t2 = (1125899906842624 : Int)))))] ?_
  refine bM h0 (fun h0 => ?_) (fun h0 => ?_)
  · refine cH aD 3 [(6, (eI t2)), (7, (eI (0 : Int)))] ?_
    refine bH ?_
    obtain rfl := oI h0
    exact aI (bN (aT (Q_r hO)))
  refine bL ?_
  refine fV [(0, (eL aG l0)), (1, (eI n1)), (2, (eI t2))] ?_
  refine aI (aZ (aH (?_)))
  refine aO ?_
  refine aV aD 3 ?_
  refine bO 1 ?_
  obtain ⟨x7, hx8, h0⟩ := aY h0
  refine dO (tY l0 _ hx8) hO ?_
  intro H hO
  refine bD ?_
  refine bS [0] [(9, (eL (eI) x7))] ?_
  refine aO ?_
  refine aV aD 8 ?_
  refine bO 2 ?_
  obtain ⟨x10, hx11, h0⟩ := aY h0
  refine dO (oX x7 t2 _ hx11) hO ?_
  intro H hO
  refine bD ?_
  refine bS [] [(10, (eI x10.1))] ?_
  refine aU aD 6 [1] [(12, (eI (if (wR ((wR (x10.1 - n1)) + (1 : Int))) > (0 : Int) then (wR ((wR (x10.1 - n1)) + (1 : Int))) else (0 : Int))))] ?_
  refine aO ?_
  refine aU aD 3 [10] [(45, (aF (decide ((if (wR ((wR (x10.1 - n1)) + (1 : Int))) > (0 : Int) then (wR ((wR (x10.1 - n1)) + (1 : Int))) else (0 : Int)) = x10.1))))] ?_
  refine bM h0 (fun h0 => ?_) (fun h0 => ?_)
  · refine cH aD 3 [(6, (eI t2)), (7, (eI (0 : Int)))] ?_
    refine bH ?_
    obtain rfl := oI h0
    exact aI (aT (Q_r hO))
  refine bL ?_
  refine bG [(9, (eL (eI) x7)), (12, (eI (if (wR ((wR (x10.1 - n1)) + (1 : Int))) > (0 : Int) then (wR ((wR (x10.1 - n1)) + (1 : Int))) else (0 : Int))))] ?_
  refine aO ?_
  refine aV aD 6 ?_
  obtain ⟨c14, h0⟩ := aW h0
  refine nG [0 ≤ (if (wR ((wR (x10.1 - n1)) + (1 : Int))) > (0 : Int) then (wR ((wR (x10.1 - n1)) + (1 : Int))) else (0 : Int)) ∧ (if (wR ((wR (x10.1 - n1)) + (1 : Int))) > (0 : Int) then (wR ((wR (x10.1 - n1)) + (1 : Int))) else (0 : Int)) < (lN x7)] ⟨c14, trivial⟩ ?_
  refine bG [(6, (eI (gD x7 (if (wR ((wR (x10.1 - n1)) + (1 : Int))) > (0 : Int) then (wR ((wR (x10.1 - n1)) + (1 : Int))) else (0 : Int))))), (7, (eI (0 : Int)))] ?_
  refine bH ?_
  obtain rfl := oI h0
  exact aI (Q_r hO)

theorem tN (s0 : (List aC)) (r : (List aC)) (h0 : gQ s0 = some r) : tJ Try.prog 41 [(eL aK s0)] (fun lo => (.msl 3 lo 0 (List.length r))) 3 (List.map aK r) := by
  intro H0
  refine dD Try.func41 ?_
  have hO := aL.start H0
  unfold gQ at h0
  refine aU aD 1 [] [] ?_
  refine aO ?_
  refine aO ?_
  refine aV aD 2 ?_
  refine bO 1 ?_
  refine XB false (List.length s0) (fun i => aK (List.getD s0 i default)) (by kernel_rfl) (by kernel_rfl) ?_
  intro b1 hn2
  refine fI ?_
  refine bS [] [(4, (aF b1))] ?_
  refine mR (b1) (fun hc3 => ?_) (fun hc3 => ?_)
  · replace h0 : some ([] : List aC) = some r := by
      have hl := List.eq_nil_of_length_eq_zero (hn2 hc3)
      rw [hl] at h0
      exact (aW h0).2
    refine cH aD 1 [(2, (.sl true 0 (fun _ => .bad)))] ?_
    refine bH ?_
    refine fV [(2, (.sl true 0 (fun _ => .bad)))] ?_
    refine RT (el := (fun _ => .bad)) 0 2 3 hO (by kernel_rfl) ?_
    intro lo4 H5 hO
    obtain rfl := oI h0
    exact aI (aT (jZ (x := (.msl 3 lo4 0 (List.length ([] : List aC)))) (by kernel_rfl) (aN.refl _) ⟨lo4, rfl, hO⟩))
  · refine bL ?_
    refine bG [(0, (eL aK s0))] ?_
    refine aO ?_
    refine aV aD 4 ?_
    refine oZ (xs := []) (k := 3) (by kernel_rfl) (by kernel_rfl) ?_
    refine bO 2 ?_
    obtain ⟨c7, h0⟩ := aW h0
    refine OF (e := aK) s0 (fun _ => .bad) 3 32 (eL aK s0) (fun lo6 => [(lo6, 3, List.map aK s0)]) (by kernel_rfl) (by kernel_rfl) hO (GX (fun _ => by kernel_rfl)) c7 (fun _ => by kernel_rfl) ?_
    intro lo6 H hO
    refine bD ?_
    refine bG [(2, (.msl 3 lo6 0 (List.length s0)))] ?_
    refine bH ?_
    obtain rfl := oI h0
    exact aI (jZ (x := (.msl 3 lo6 0 (List.length s0))) (by kernel_rfl) (aN.refl _) ⟨lo6, rfl, hO⟩)

theorem GI (l0 : (List aE)) (run1 : (List Int)) (r : aR) (h0 : oS l0 run1 = some r) : dH Try.prog 50 [(eL aG l0), (eL (eI) run1)] (aS r) := by
  intro H0
  refine CL aD Try.func50 (by kernel_rfl) (by kernel_rfl) (by kernel_rfl) ?_
  have hO := aL.start H0
  unfold oS at h0
  refine aO ?_
  refine aV aD 1 ?_
  refine rY 3 (.agg [(eI 0), (eI 0), (.sl true 0 (fun _ => .bad))]) (aS (aR.mk (cS.mk 0 0) ([]))) (by kernel_rfl) (by kernel_rfl) (by kernel_rfl) (BM (xs := [(eI 0), (eI 0), (.sl true 0 (fun _ => .bad))]) (ys := [(eI 0), (eI 0), (eL bT ([]))]) ⟨aN.refl _, aN.refl _, kR, trivial⟩) (by kernel_rfl) (by kernel_rfl) hO ?_
  intro lo1 H hO
  refine fI ?_
  refine bS [] [(4, (.lp lo1 0 0))] ?_
  refine aO ?_
  refine fG (fH [10, 16, 5]) aD 14 ?_
  obtain ⟨c2, h0⟩ := aW h0
  obtain ⟨c3, h0⟩ := aW h0
  refine cA 12 [0 ≤ (0 : Int) ∧ (0 : Int) < (lN run1), 0 ≤ (wR ((lN run1) - (1 : Int))) ∧ (wR ((lN run1) - (1 : Int))) < (lN run1)] ⟨c2, c3, trivial⟩ ?_
  refine WK 3 (.agg [(eI 0), (eI 0), (.sl true 0 (fun _ => .bad))]) (aS (aR.mk (cS.mk 0 0) ([]))) (BM (xs := [(eI 0), (eI 0), (.sl true 0 (fun _ => .bad))]) (ys := [(eI 0), (eI 0), (eL bT ([]))]) ⟨aN.refl _, aN.refl _, kR, trivial⟩) hO ?_
  intro lo4 H hO
  refine jX 1 lo4 3 0 (aS (aR.mk (cS.mk 0 0) ([]))) (.agg [(eI ((cS.mk (gD run1 (0 : Int)) (wR ((gD run1 (wR ((lN run1) - (1 : Int)))) + (1 : Int)))).From)), (eI ((cS.mk (gD run1 (0 : Int)) (wR ((gD run1 (wR ((lN run1) - (1 : Int)))) + (1 : Int)))).To)), (.sl true 0 (fun _ => .bad))]) [(aS (aR.mk (cS.mk 0 0) ([])))] [(lo1, 3, [(aS (aR.mk (cS.mk 0 0) ([])))]), (lo4, 3, [(.agg [(eI ((cS.mk (gD run1 (0 : Int)) (wR ((gD run1 (wR ((lN run1) - (1 : Int)))) + (1 : Int)))).From)), (eI ((cS.mk (gD run1 (0 : Int)) (wR ((gD run1 (wR ((lN run1) - (1 : Int)))) + (1 : Int)))).To)), (.sl true 0 (fun _ => .bad))])])] hO rfl (by kernel_rfl) ?_
  intro H hO
  refine lX (by kernel_rfl) ?_
  refine ZW 1 3 lo4 2 2 [(eI ((cS.mk (gD run1 (0 : Int)) (wR ((gD run1 (wR ((lN run1) - (1 : Int)))) + (1 : Int)))).From)), (eI ((cS.mk (gD run1 (0 : Int)) (wR ((gD run1 (wR ((lN run1) - (1 : Int)))) + (1 : Int)))).To)), (.sl true 0 (fun _ => .bad))] (fun _ => .bad) (fun lo5 => [(lo1, 3, [(aS (aR.mk (cS.mk 0 0) ([])))]), (lo4, 3, [(.agg [(eI ((aR.mk (cS.mk (gD run1 (0 : Int)) (wR ((gD run1 (wR ((lN run1) - (1 : Int)))) + (1 : Int)))) ([])).Span.From)), (eI ((aR.mk (cS.mk (gD run1 (0 : Int)) (wR ((gD run1 (wR ((lN run1) - (1 : Int)))) + (1 : Int)))) ([])).Span.To)), (.msl 2 lo5 0 (List.length ([] : List bU)))])]), (lo5, 2, List.map bT ([] : List bU))]) hO (by kernel_rfl) (by kernel_rfl) (fun _ => by kernel_rfl) ?_
  intro lo5 H hO
  refine bG [(0, (eL aG l0)), (4, (.lp lo1 0 0)), (5, (.lp lo4 0 0))] ?_
  refine aO ?_
  refine aO ?_
  refine aV aD 2 ?_
  refine bO 1 ?_
  obtain ⟨x6, hx7, h0⟩ := aY h0
  refine dO (zI l0 _ hx7) hO ?_
  intro H hO
  refine fI ?_
  refine bS [0] [(21, (.fn (.func 94) [] [(.rp (eL aG x6))]))] ?_
  refine cG 0 ?_
  refine fW [(4, (.lp lo1 0 0)), (5, (.lp lo4 0 0)), (21, (.fn (.func 94) [] [(.rp (eL aG x6))]))] ?_
  refine eS (fun T H => ∃ t4 : aR, ∃ p5 : aR, ∃ sG : (List aE), ∃ lo8 : Nat, Has T [(4, (.lp lo1 0 0)), (5, (.lp lo4 0 0)), (21, (.fn (.func 94) [] [(.rp (eL aG sG))]))] ∧ aL ⟨H0, [], []⟩ H [(lo1, 3, [(aS t4)]), (lo4, 3, [(.agg [(eI p5.Span.From), (eI p5.Span.To), (.msl 2 lo8 0 (List.length p5.Rows))])]), (lo8, 2, List.map bT p5.Rows)] ∧ pY t4 p5 sG = some r) ?_ ⟨(aR.mk (cS.mk 0 0) ([])), aR.mk (cS.mk (gD run1 (0 : Int)) (wR ((gD run1 (wR ((lN run1) - (1 : Int)))) + (1 : Int)))) ([]), x6, lo5, .eq (by kernel_rfl), hO, h0⟩
  clear hO h0
  rintro T H ⟨t4, p5, sG, lo8, hT, hO, h0⟩
  refine bF (l := [(4, (.lp lo1 0 0)), (5, (.lp lo4 0 0)), (21, (.fn (.func 94) [] [(.rp (eL aG sG))]))]) hT ?_
  clear hT
  unfold pY at h0
  obtain ⟨o0, hl0, h0⟩ := aY h0
  refine AM (fid := 94) (ys := []) (cs := [(.rp (eL aG sG))]) #[22] (fun (A : wT) (b lL : Nat) (st : (aR × aR) ⊕ (aR × aR)) (G' : Gs) => Sum.elim (fun (s : aR × aR) => ∃ lo8 : Nat, G' = (lL, .raw (kX b A .ready none)) :: (up [(lo1, 3, [(aS s.1)]), (lo4, 3, [(.agg [(eI s.2.Span.From), (eI s.2.Span.To), (.msl 2 lo8 0 (List.length s.2.Rows))])]), (lo8, 2, List.map bT s.2.Rows)] ++ [])) (fun (s : aR × aR) => False) st) (.inl (t4, p5)) o0 (.tup []) (by kernel_rfl) (by kernel_rfl) (by kernel_rfl) hO (fun _ _ => ⟨lo8, rfl⟩) ?_ ?_
  · intro b lL
    clear hO h0
    refine vU _ b (fun st t22 => rnd (fun (s : aR × aR) => mM sG s.1 s.2 t22) st) ?_ sG _ _ hl0
    intro st t22 out1 rr hr
    obtain ⟨s, rfl, h1, rfl⟩ := QM hr
    clear hr
    intro Hr Gr hi hg
    obtain ⟨t4, p5⟩ := s
    dsimp only [Sum.elim_inl] at hi
    obtain ⟨lo8, rfl⟩ := hi
    replace h1 : mM sG t4 p5 t22 = some out1 := h1
    unfold mM at h1
    obtain ⟨E1, hE, hO⟩ := vP hg
    refine vQ (zL (hO.gm 0 _ rfl).2 (by kernel_rfl) (by kernel_rfl) ?_)
    refine fW [(4, (.lp lo1 0 0)), (5, (.lp lo4 0 0)), (21, (.fn (.func 94) [] [(.rp (eL aG sG))])), (22, (aG t22))] ?_
    refine aV aD 2 ?_
    refine rY 3 (.agg [(.sl true 0 (fun _ => .bad)), (eI 0), (eI 0)]) (aG (aE.mk ([]) 0 0)) (by kernel_rfl) (by kernel_rfl) (by kernel_rfl) (BM (xs := [(.sl true 0 (fun _ => .bad)), (eI 0), (eI 0)]) (ys := [(eL aK ([])), (eI 0), (eI 0)]) ⟨kR, aN.refl _, aN.refl _, trivial⟩) (by kernel_rfl) (by kernel_rfl) hO ?_
    intro lo9 H hO
    refine lO 3 lo9 3 0 (aG (aE.mk ([]) 0 0)) (aG t22) [(aG (aE.mk ([]) 0 0))] [(lo1, 3, [(aS t4)]), (lo4, 3, [(.agg [(eI p5.Span.From), (eI p5.Span.To), (.msl 2 lo8 0 (List.length p5.Rows))])]), (lo8, 2, List.map bT p5.Rows), (lo9, 3, [(aG t22)])] hO rfl (by kernel_rfl) ?_
    intro H hO
    refine fI ?_
    refine fV [(4, (.lp lo1 0 0)), (5, (.lp lo4 0 0)), (6, (.lp lo9 0 0))] ?_
    refine aI (⟨rfl, rfl, (hO.gm 0 _ rfl).2, ?_⟩)
    intro o1 ho1
    replace hO := hO.wG o1
    refine cG 1 ?_
    refine aO ?_
    refine aO ?_
    refine aV aD 14 ?_
    refine bO 1 ?_
    refine nR 3 lo9 3 0 (aG t22) (eI t22.At) [(aG t22)] hO rfl ?_
    refine bO 4 ?_
    refine nR 1 lo4 3 0 (.agg [(eI p5.Span.From), (eI p5.Span.To), (.msl 2 lo8 0 (List.length p5.Rows))]) (eI p5.Span.From) [(.agg [(eI p5.Span.From), (eI p5.Span.To), (.msl 2 lo8 0 (List.length p5.Rows))])] hO rfl ?_
    refine bO 8 ?_
    refine qY [(29, false)] 3 lo9 3 0 (aG t22) (eI t22.At) [(aG t22)] (by kernel_rfl) (by kernel_rfl) hO (by kernel_rfl) (!(decide (t22.At < p5.Span.From))) (by kernel_rfl) (fun hb10 => rfl) ?_
    refine bO 11 ?_
    refine qY [(29, false)] 1 lo4 3 0 (.agg [(eI p5.Span.From), (eI p5.Span.To), (.msl 2 lo8 0 (List.length p5.Rows))]) (eI p5.Span.To) [(.agg [(eI p5.Span.From), (eI p5.Span.To), (.msl 2 lo8 0 (List.length p5.Rows))])] (by kernel_rfl) (by kernel_rfl) hO (by kernel_rfl) (!(decide (t22.At < p5.Span.From))) (by kernel_rfl) (fun _ => rfl) ?_
    refine bD ?_
    refine bS [] [(36, (aF ((decide (t22.At < p5.Span.From)) || (decide (p5.Span.To ≤ t22.At)))))] ?_
    refine bM h1 (fun h1 => ?_) (fun h1 => ?_)
    · refine gZ 1 ?_
      refine fV [(4, (.lp lo1 0 0)), (5, (.lp lo4 0 0))] ?_
      replace hO := hO.pick (L' := [(lo1, 3, [(aS t4)]), (lo4, 3, [(.agg [(eI p5.Span.From), (eI p5.Span.To), (.msl 2 lo8 0 (List.length p5.Rows))])]), (lo8, 2, List.map bT p5.Rows)]) [0, 1, 2] (by decide) (by kernel_rfl)
      obtain rfl := oI h1
      exact aI (aX (bX (⟨(iO hO hE ho1 .dead).1, rfl, _, ⟨lo8, rfl⟩, (iO hO hE ho1 _).2⟩)))
    refine bL ?_
    refine bG [(4, (.lp lo1 0 0)), (5, (.lp lo4 0 0)), (6, (.lp lo9 0 0))] ?_
    refine aO ?_
    refine aV aD 5 ?_
    refine bO 1 ?_
    refine nR 1 lo4 3 0 (.agg [(eI p5.Span.From), (eI p5.Span.To), (.msl 2 lo8 0 (List.length p5.Rows))]) (.msl 2 lo8 0 (List.length p5.Rows)) [(.agg [(eI p5.Span.From), (eI p5.Span.To), (.msl 2 lo8 0 (List.length p5.Rows))])] hO rfl ?_
    refine bD ?_
    refine bS [] [(7, (eI (wR ((lN p5.Rows) - (1 : Int)))))] ?_
    refine aO ?_
    refine aO ?_
    obtain ⟨c12, h1⟩ := aW h1
    obtain ⟨x13, hx14, h1⟩ := aY h1
    refine fG (fH []) aD 13 ?_
    refine nV (K := fun T H => Has (lift T) [(4, (.lp lo1 0 0)), (5, (.lp lo4 0 0)), (6, (.lp lo9 0 0)), (7, (eI (wR ((lN p5.Rows) - (1 : Int))))), (53, (aF ((decide ((0 : Int) ≤ (wR ((lN p5.Rows) - (1 : Int))))) && x13)))] ∧ aL ⟨Hr, E1, (lL, o1) :: []⟩ H [(lo1, 3, [(aS t4)]), (lo4, 3, [(.agg [(eI p5.Span.From), (eI p5.Span.To), (.msl 2 lo8 0 (List.length p5.Rows))])]), (lo8, 2, List.map bT p5.Rows), (lo9, 3, [(aG t22)])]) ?_ ?_
    · refine lK 3 ?_
      refine mH (t := 43) (e := decide ((0 : Int) ≤ (wR ((lN p5.Rows) - (1 : Int))))) (by kernel_rfl) (fun hg15 => ?_) (fun hg15 => ?_)
      · refine lK 4 ?_
        refine iV 1 lo4 3 0 (.agg [(eI p5.Span.From), (eI p5.Span.To), (.msl 2 lo8 0 (List.length p5.Rows))]) (.msl 2 lo8 0 (List.length p5.Rows)) [(.agg [(eI p5.Span.From), (eI p5.Span.To), (.msl 2 lo8 0 (List.length p5.Rows))])] (by kernel_rfl) (by kernel_rfl) (by kernel_rfl) hO (by kernel_rfl) rfl ?_
        refine cA 8 [0 ≤ (wR ((lN p5.Rows) - (1 : Int))) ∧ (wR ((lN p5.Rows) - (1 : Int))) < (lN p5.Rows)] ⟨(c12 hg15), trivial⟩ ?_
        refine iV 2 lo8 2 (0 + Int.toNat (wR ((lN p5.Rows) - (1 : Int)))) (bT (gD p5.Rows (wR ((lN p5.Rows) - (1 : Int))))) (eL aK ((gD p5.Rows (wR ((lN p5.Rows) - (1 : Int)))).Row)) (List.map bT p5.Rows) (by kernel_rfl) (by kernel_rfl) (by kernel_rfl) hO (by kernel_rfl) (bV (c12 hg15)) ?_
        refine lK 10 ?_
        refine iV 3 lo9 3 0 (aG t22) (eL aK t22.Row) [(aG t22)] (by kernel_rfl) (by kernel_rfl) (by kernel_rfl) hO (by kernel_rfl) rfl ?_
        refine mV 72 [(eL aK ((gD p5.Rows (wR ((lN p5.Rows) - (1 : Int)))).Row)), (eL aK t22.Row)] (aF x13) (by kernel_rfl) (by kernel_rfl) (nT ((gD p5.Rows (wR ((lN p5.Rows) - (1 : Int)))).Row) t22.Row _ (iZ hx14 hg15)) hO ?_
        intro H hO
        refine jC ?_
        exact ⟨⟨[(4, (.lp lo1 0 0)), (5, (.lp lo4 0 0)), (6, (.lp lo9 0 0)), (7, (eI (wR ((lN p5.Rows) - (1 : Int))))), (53, (aF x13))], by kernel_rfl, rfl, ⟨aN.refl _, aN.refl _, aN.refl _, aN.refl _, aN.eq (congrArg aF (lW hg15 rfl).symm), trivial⟩⟩, hO⟩
      refine jC ?_
      exact ⟨⟨[(4, (.lp lo1 0 0)), (5, (.lp lo4 0 0)), (6, (.lp lo9 0 0)), (7, (eI (wR ((lN p5.Rows) - (1 : Int))))), (53, (aF false))], by kernel_rfl, rfl, ⟨aN.refl _, aN.refl _, aN.refl _, aN.refl _, aN.eq (congrArg aF (lW hg15 rfl).symm), trivial⟩⟩, hO⟩
    · rintro T H ⟨hT, hO⟩
      refine cW hT ?_
      clear hT
      refine aI (aH ?_)
      refine bM h1 (fun h1 => ?_) (fun h1 => ?_)
      · refine aO ?_
        refine fG (fH []) aD 12 ?_
        refine lK 1 ?_
        refine fE 1 lo4 3 0 (.agg [(eI p5.Span.From), (eI p5.Span.To), (.msl 2 lo8 0 (List.length p5.Rows))]) (.msl 2 lo8 0 (List.length p5.Rows)) [(.agg [(eI p5.Span.From), (eI p5.Span.To), (.msl 2 lo8 0 (List.length p5.Rows))])] hO rfl ?_
        obtain ⟨c17, h1⟩ := aW h1
        refine cA 5 [0 ≤ (wR ((lN p5.Rows) - (1 : Int))) ∧ (wR ((lN p5.Rows) - (1 : Int))) < (lN p5.Rows)] ⟨c17, trivial⟩ ?_
        refine fE 2 lo8 2 (0 + Int.toNat (wR ((lN p5.Rows) - (1 : Int)))) (bT (gD p5.Rows (wR ((lN p5.Rows) - (1 : Int))))) (eI ((gD p5.Rows (wR ((lN p5.Rows) - (1 : Int)))).N)) (List.map bT p5.Rows) hO (bV c17) ?_
        refine lK 7 ?_
        refine fE 3 lo9 3 0 (aG t22) (eI t22.Net) [(aG t22)] hO rfl ?_
        obtain ⟨c18, h1⟩ := aW h1
        refine cA 11 [0 ≤ (wR ((lN p5.Rows) - (1 : Int))) ∧ (wR ((lN p5.Rows) - (1 : Int))) < (lN p5.Rows)] ⟨c18, trivial⟩ ?_
        refine jX 2 lo8 2 (0 + Int.toNat (wR ((lN p5.Rows) - (1 : Int)))) (bT (gD p5.Rows (wR ((lN p5.Rows) - (1 : Int))))) (bT (bU.mk (gD p5.Rows (wR ((lN p5.Rows) - (1 : Int)))).Row (wR (((gD p5.Rows (wR ((lN p5.Rows) - (1 : Int)))).N) + t22.Net)))) (List.map bT p5.Rows) [(lo1, 3, [(aS t4)]), (lo4, 3, [(.agg [(eI p5.Span.From), (eI p5.Span.To), (.msl 2 lo8 0 (List.length p5.Rows))])]), (lo8, 2, List.map bT (List.set p5.Rows (Int.toNat (wR ((lN p5.Rows) - (1 : Int)))) (bU.mk (gD p5.Rows (wR ((lN p5.Rows) - (1 : Int)))).Row (wR (((gD p5.Rows (wR ((lN p5.Rows) - (1 : Int)))).N) + t22.Net))))), (lo9, 3, [(aG t22)])] hO (bV c18) (by simp only [List.set, fZ]) ?_
        intro H hO
        refine lX (by kernel_rfl) ?_
        replace hO : aL ⟨Hr, E1, (lL, o1) :: []⟩ H [(lo1, 3, [(aS t4)]), (lo4, 3, [(.agg [(eI ((aR.mk p5.Span (List.set p5.Rows (Int.toNat (wR ((lN p5.Rows) - (1 : Int)))) (bU.mk (gD p5.Rows (wR ((lN p5.Rows) - (1 : Int)))).Row (wR (((gD p5.Rows (wR ((lN p5.Rows) - (1 : Int)))).N) + t22.Net))))).Span.From)), (eI ((aR.mk p5.Span (List.set p5.Rows (Int.toNat (wR ((lN p5.Rows) - (1 : Int)))) (bU.mk (gD p5.Rows (wR ((lN p5.Rows) - (1 : Int)))).Row (wR (((gD p5.Rows (wR ((lN p5.Rows) - (1 : Int)))).N) + t22.Net))))).Span.To)), (.msl 2 lo8 0 (List.length (List.set p5.Rows (Int.toNat (wR ((lN p5.Rows) - (1 : Int)))) (bU.mk (gD p5.Rows (wR ((lN p5.Rows) - (1 : Int)))).Row (wR (((gD p5.Rows (wR ((lN p5.Rows) - (1 : Int)))).N) + t22.Net))))))])]), (lo8, 2, List.map bT (List.set p5.Rows (Int.toNat (wR ((lN p5.Rows) - (1 : Int)))) (bU.mk (gD p5.Rows (wR ((lN p5.Rows) - (1 : Int)))).Row (wR (((gD p5.Rows (wR ((lN p5.Rows) - (1 : Int)))).N) + t22.Net))))), (lo9, 3, [(aG t22)])] := by simpa only [List.length_set] using hO
        replace hO := hO.pick (L' := [(lo1, 3, [(aS t4)]), (lo4, 3, [(.agg [(eI ((aR.mk p5.Span (List.set p5.Rows (Int.toNat (wR ((lN p5.Rows) - (1 : Int)))) (bU.mk (gD p5.Rows (wR ((lN p5.Rows) - (1 : Int)))).Row (wR (((gD p5.Rows (wR ((lN p5.Rows) - (1 : Int)))).N) + t22.Net))))).Span.From)), (eI ((aR.mk p5.Span (List.set p5.Rows (Int.toNat (wR ((lN p5.Rows) - (1 : Int)))) (bU.mk (gD p5.Rows (wR ((lN p5.Rows) - (1 : Int)))).Row (wR (((gD p5.Rows (wR ((lN p5.Rows) - (1 : Int)))).N) + t22.Net))))).Span.To)), (.msl 2 lo8 0 (List.length (List.set p5.Rows (Int.toNat (wR ((lN p5.Rows) - (1 : Int)))) (bU.mk (gD p5.Rows (wR ((lN p5.Rows) - (1 : Int)))).Row (wR (((gD p5.Rows (wR ((lN p5.Rows) - (1 : Int)))).N) + t22.Net))))))])]), (lo8, 2, List.map bT (List.set p5.Rows (Int.toNat (wR ((lN p5.Rows) - (1 : Int)))) (bU.mk (gD p5.Rows (wR ((lN p5.Rows) - (1 : Int)))).Row (wR (((gD p5.Rows (wR ((lN p5.Rows) - (1 : Int)))).N) + t22.Net)))))]) [0, 1, 2] (by decide) (by kernel_rfl)
        refine bS [6, 7, 53] [] ?_
        refine gZ 1 ?_
        refine fV [(4, (.lp lo1 0 0)), (5, (.lp lo4 0 0))] ?_
        obtain rfl := oI h1
        exact aI (aX (bX (⟨(iO hO hE ho1 .dead).1, rfl, _, ⟨lo8, rfl⟩, (iO hO hE ho1 _).2⟩)))
      refine bL ?_
      refine bG [(4, (.lp lo1 0 0)), (5, (.lp lo4 0 0)), (6, (.lp lo9 0 0))] ?_
      refine IV 2 3 6 3 lo9 (aG t22) [(lo1, 3, [(aS t4)]), (lo4, 3, [(.agg [(eI p5.Span.From), (eI p5.Span.To), (.msl 2 lo8 0 (List.length p5.Rows))])]), (lo8, 2, List.map bT p5.Rows)] hO (by kernel_rfl) (by kernel_rfl) (by kernel_rfl) ?_
      intro H hO
      refine fG (fH [68, 69, 71, 73]) aD 12 ?_
      refine lK 1 ?_
      refine fE 1 lo4 3 0 (.agg [(eI p5.Span.From), (eI p5.Span.To), (.msl 2 lo8 0 (List.length p5.Rows))]) (.msl 2 lo8 0 (List.length p5.Rows)) [(.agg [(eI p5.Span.From), (eI p5.Span.To), (.msl 2 lo8 0 (List.length p5.Rows))])] hO rfl ?_
      refine lK 4 ?_
      obtain ⟨x19, hx20, h1⟩ := aY h1
      refine NW 41 [(eL aK t22.Row)] (eL aK x19) (by kernel_rfl) (by kernel_rfl) (tJ.frozen (tN t22.Row _ hx20)) hO ?_
      intro H hO
      refine lK 8 ?_
      refine QB (xs := [(bT (bU.mk x19 t22.Net))]) (k := 2) (by kernel_rfl) (by kernel_rfl) ?_
      obtain ⟨c23, h1⟩ := aW h1
      refine HL (e := bT) p5.Rows ([bU.mk x19 t22.Net]) 2 lo8 2 32 (kN [(bT (bU.mk x19 t22.Net))]) (fun lo22 => [(lo1, 3, [(aS t4)]), (lo4, 3, [(.agg [(eI p5.Span.From), (eI p5.Span.To), (.msl 2 lo8 0 (List.length p5.Rows))])]), (lo22, 2, List.map bT (p5.Rows ++ ([bU.mk x19 t22.Net])))]) (by kernel_rfl) (by kernel_rfl) hO (by kernel_rfl) (by kernel_rfl) c23 (fun _ => by kernel_rfl) ?_
      intro lo22 H hO
      refine lK 11 ?_
      refine jX 1 lo4 3 0 (.agg [(eI p5.Span.From), (eI p5.Span.To), (.msl 2 lo8 0 (List.length p5.Rows))]) (.agg [(eI ((aR.mk p5.Span (p5.Rows ++ ([bU.mk x19 t22.Net]))).Span.From)), (eI ((aR.mk p5.Span (p5.Rows ++ ([bU.mk x19 t22.Net]))).Span.To)), (.msl 2 lo22 0 (List.length (p5.Rows ++ ([bU.mk x19 t22.Net]))))]) [(.agg [(eI p5.Span.From), (eI p5.Span.To), (.msl 2 lo8 0 (List.length p5.Rows))])] [(lo1, 3, [(aS t4)]), (lo4, 3, [(.agg [(eI ((aR.mk p5.Span (p5.Rows ++ ([bU.mk x19 t22.Net]))).Span.From)), (eI ((aR.mk p5.Span (p5.Rows ++ ([bU.mk x19 t22.Net]))).Span.To)), (.msl 2 lo22 0 (List.length (p5.Rows ++ ([bU.mk x19 t22.Net]))))])]), (lo22, 2, List.map bT (p5.Rows ++ ([bU.mk x19 t22.Net])))] hO rfl (by kernel_rfl) ?_
      intro H hO
      refine lX (by kernel_rfl) ?_
      refine fV [(4, (.lp lo1 0 0)), (5, (.lp lo4 0 0))] ?_
      obtain rfl := oI h1
      exact aI (aZ (⟨(iO hO hE ho1 .dead).1, rfl, _, ⟨lo22, rfl⟩, (iO hO hE ho1 _).2⟩))
  · intro b lD24 lL H' G' hi hO
    rcases o0 with s | s
    · dsimp only [Sum.elim_inl] at hi
      obtain ⟨lo8, rfl⟩ := hi
      replace h0 : (some s.2) = some r := h0
      obtain ⟨hlL, hO⟩ := sK hO
      refine ⟨_, _, hlL, (by intro e; cases e), ?_⟩
      refine fV [(4, (.lp lo1 0 0)), (5, (.lp lo4 0 0))] ?_
      refine aI (aZ (aH (?_)))
      refine aO ?_
      refine NM (e := bT) s.2.Rows 1 2 3 2 lo4 lo8 (List.length s.2.Rows) 2 [(eI s.2.Span.From), (eI s.2.Span.To), (.msl 2 lo8 0 (List.length s.2.Rows))] [(lo1, 3, [(aS s.1)]), (lo4, 3, [(aS s.2)])] hO (by kernel_rfl) (by kernel_rfl) (by kernel_rfl) (by kernel_rfl) (by kernel_rfl) (by kernel_rfl) ?_
      intro H hO
      refine aV aD 2 ?_
      refine nR 1 lo4 3 0 (aS s.2) (aS s.2) [(aS s.2)] hO rfl ?_
      refine lO 0 lo1 3 0 (aS s.1) (aS s.2) [(aS s.1)] [(lo1, 3, [(aS s.2)]), (lo4, 3, [(aS s.2)])] hO rfl (by kernel_rfl) ?_
      intro H hO
      refine fI ?_
      refine fV [(4, (.lp lo1 0 0))] ?_
      replace hO := hO.pick (L' := [(lo1, 3, [(aS s.2)])]) [0] (by decide) (by kernel_rfl)
      refine aI (aH (?_))
      refine bH ?_
      obtain rfl := oI h0
      have hD := (hO.gm 0 _ rfl).2
      replace hO := (hO.wG .dead).wV
      exact aI (QM1 (.inr rfl) hD (rs := [.cell 4 38]) (xs := [(aS s.2)]) (x := (aS s.2)) (by kernel_rfl) (tU (lo := lo1) (k := 3) (y := (aS s.2)) (x := (aS s.2)) 0 hO (by kernel_rfl) (by kernel_rfl) (by kernel_rfl) (by kernel_rfl) xH) (by kernel_rfl) ⟨rfl, hO.out⟩)
    · exact hi.elim

theorem uS (l0 : (List aE)) (n1 : Int) (tZ : Int) (r : ((List aR) × Int)) (h0 : mF l0 n1 tZ = some r) : dH Try.prog 25 [(eL aG l0), (eI n1), (eI tZ)] (.tup [(eL aS r.1), (eI r.2)]) := by
  intro H0
  refine dD Try.func25 ?_
  have hO := aL.start H0
  unfold mF at h0
  refine aU aD 2 [] [] ?_
  refine aO ?_
  refine aO ?_
  refine aV aD 4 ?_
  refine bO 2 ?_
  obtain ⟨x1, hx2, h0⟩ := aY h0
  refine dO (xG l0 n1 _ hx2) hO ?_
  intro H hO
  refine bD ?_
  refine bS [] [(8, (eI x1))] ?_
  refine aU aD 2 [] [(18, (aF (!decide (x1 = (0 : Int)))))] ?_
  refine bM h0 (fun h0 => ?_) (fun h0 => ?_)
  · refine cH aD 3 [(6, (.sl true 0 (fun _ => .bad))), (7, (eI x1))] ?_
    refine bH ?_
    refine cW (l := [(6, (eL aS ([]))), (7, (eI x1))]) ⟨[(6, (.sl true 0 (fun _ => .bad))), (7, (eI x1))], by kernel_rfl, rfl, ⟨kR, aN.refl _, trivial⟩⟩ ?_
    obtain rfl := oI h0
    exact aI (aT (Q_r hO))
  refine bL ?_
  refine bG [(0, (eL aG l0)), (1, (eI n1)), (2, (eI tZ))] ?_
  refine aO ?_
  refine aU aD 6 [] [(25, (aF ((decide (tZ < (0 : Int))) || (decide ((1125899906842624 : Int) < tZ)))))] ?_
  refine bM h0 (fun h0 => ?_) (fun h0 => ?_)
  · refine cH aD 2 [(6, (.sl true 0 (fun _ => .bad))), (7, (eI (13 : Int)))] ?_
    refine bH ?_
    refine cW (l := [(6, (eL aS ([]))), (7, (eI (13 : Int)))]) ⟨[(6, (.sl true 0 (fun _ => .bad))), (7, (eI (13 : Int)))], by kernel_rfl, rfl, ⟨kR, aN.refl _, trivial⟩⟩ ?_
    obtain rfl := oI h0
    exact aI (aT (Q_r hO))
  refine bL ?_
  refine bG [(0, (eL aG l0)), (1, (eI n1)), (2, (eI tZ))] ?_
  refine aO ?_
  refine aV aD 3 ?_
  refine bO 1 ?_
  obtain ⟨x6, hx7, h0⟩ := aY h0
  refine dO (tY l0 _ hx7) hO ?_
  intro H hO
  refine bD ?_
  refine bS [] [(9, (eL (eI) x6))] ?_
  refine aO ?_
  refine aV aD 8 ?_
  refine bO 2 ?_
  obtain ⟨x9, hx10, h0⟩ := aY h0
  refine dO (oX x6 tZ _ hx10) hO ?_
  intro H hO
  refine bD ?_
  refine bS [2] [(10, (eI x9.1))] ?_
  refine aO ?_
  refine aV aD 8 ?_
  obtain ⟨c12, h0⟩ := aW h0
  refine nG [0 ≤ x9.1 ∧ x9.1 ≤ (lN x6) ∧ (lN x6) ≤ (lN x6) ∧ (lN x6) ≤ (lN x6)] ⟨c12, trivial⟩ ?_
  refine cW (l := [(0, (eL aG l0)), (1, (eI n1)), (12, (eL (eI) (List.drop (Int.toNat x9.1) (List.take (Int.toNat (lN x6)) x6))))]) ⟨[(0, (eL aG l0)), (1, (eI n1)), (12, (.sl false (Int.toNat (lN x6) - Int.toNat x9.1) (fun i => (eI) (List.getD x6 (Int.toNat x9.1 + i) default))))], by kernel_rfl, rfl, ⟨aN.refl _, aN.refl _, ZV (Int.toNat_le.2 (Int.le_trans (And.left (And.right (And.right c12))) (And.right (And.right (And.right c12))))), trivial⟩⟩ ?_
  refine aI (aH (?_))
  refine aO ?_
  refine aU aD 6 [] [(46, (aF (decide ((1024 : Int) < (wR ((wR ((lN (List.drop (Int.toNat x9.1) (List.take (Int.toNat (lN x6)) x6))) - n1)) + (1 : Int)))))))] ?_
  refine bM h0 (fun h0 => ?_) (fun h0 => ?_)
  · refine cH aD 2 [(6, (.sl true 0 (fun _ => .bad))), (7, (eI (7 : Int)))] ?_
    refine bH ?_
    refine cW (l := [(6, (eL aS ([]))), (7, (eI (7 : Int)))]) ⟨[(6, (.sl true 0 (fun _ => .bad))), (7, (eI (7 : Int)))], by kernel_rfl, rfl, ⟨kR, aN.refl _, trivial⟩⟩ ?_
    obtain rfl := oI h0
    exact aI (aT (Q_r hO))
  refine bL ?_
  refine bG [(0, (eL aG l0)), (1, (eI n1)), (12, (eL (eI) (List.drop (Int.toNat x9.1) (List.take (Int.toNat (lN x6)) x6))))] ?_
  refine aO ?_
  refine aV aD 2 ?_
  refine oZ (xs := []) (k := 3) (by kernel_rfl) (by kernel_rfl) ?_
  refine bD ?_
  refine bS [] [(13, (.sl true 0 (fun _ => .bad)))] ?_
  refine gM (fun T H => ∃ jA : List aR, ∃ lo14 : Nat, Has T [(13, (.msl 3 lo14 0 (List.length jA)))] ∧ aL ⟨H0, [], []⟩ H [(lo14, 3, List.map aS jA)] ∧ rE jA = some r) ?_ ?_
  · clear hO h0
    rintro T H ⟨jA, lo14, hT, hO, h0⟩
    refine bF hT ?_
    clear hT
    unfold rE at h0
    refine cH aD 3 [(6, (.msl 3 lo14 0 (List.length jA))), (7, (eI (0 : Int)))] ?_
    refine bH ?_
    refine fV [(6, (.msl 3 lo14 0 (List.length jA))), (7, (eI (0 : Int)))] ?_
    refine wA (en := aS) jA 0 0 6 3 lo14 (List.length jA) hO (by kernel_rfl) (by kernel_rfl) (by kernel_rfl) (L' := []) (by kernel_rfl) ?_
    intro H15 hO
    obtain rfl := oI h0
    exact aI (Q_r hO)
  refine cG 0 ?_
  refine fW [(0, (eL aG l0)), (1, (eI n1)), (12, (eL (eI) (List.drop (Int.toNat x9.1) (List.take (Int.toNat (lN x6)) x6)))), (13, (.sl true 0 (fun _ => .bad)))] ?_
  refine ES (el := (fun _ => .bad)) 3 13 3 hO (by kernel_rfl) ?_
  intro lo26 H27 hO
  refine eS (fun T H => ∃ kH : (List Int), ∃ jA : List aR, ∃ lo17 : Nat, Has T [(0, (eL aG l0)), (1, (eI n1)), (12, (eL (eI) kH)), (13, (.msl 3 lo17 0 (List.length jA)))] ∧ aL ⟨H0, [], []⟩ H [(lo17, 3, List.map aS jA)] ∧ rF l0 n1 kH jA = some r) ?_ ⟨List.drop (Int.toNat x9.1) (List.take (Int.toNat (lN x6)) x6), ([] : List aR), lo26, .eq (by kernel_rfl), hO, h0⟩
  clear hO h0
  rintro T H ⟨kH, jA, lo17, hT, hO, h0⟩
  refine bF hT ?_
  clear hT
  unfold rF at h0
  obtain ⟨rr0, hl0, h0⟩ := aY h0
  refine dF (by kernel_rfl) (fun (s : (List Int) × List aR) T H => ∃ lo17 : Nat, Has T [(0, (eL aG l0)), (1, (eI n1)), (12, (eL (eI) s.1)), (13, (.msl 3 lo17 0 (List.length s.2)))] ∧ aL ⟨H0, [], []⟩ H [(lo17, 3, List.map aS s.2)]) hl0 ⟨lo17, .eq (by kernel_rfl), hO⟩ ?_
  clear hO
  rintro k0 s out1 T H ⟨lo17, hT, hO⟩ h1 ho0
  obtain ⟨kH, jA⟩ := s
  replace h1 : kO l0 n1 kH jA = some out1 := h1
  try dsimp only at hT
  refine bF hT ?_
  clear hT
  unfold kO at h1
  refine aO ?_
  refine aU aD 4 [] [(51, (aF (decide (n1 ≤ (lN kH)))))] ?_
  refine bM h1 (fun h1 => ?_) (fun h1 => ?_)
  · refine bL ?_
    refine bG [(0, (eL aG l0)), (1, (eI n1)), (12, (eL (eI) kH)), (13, (.msl 3 lo17 0 (List.length jA)))] ?_
    refine cG 1 ?_
    refine aO ?_
    refine aV aD 10 ?_
    refine bO 5 ?_
    obtain ⟨c19, h1⟩ := aW h1
    refine WB (n' := List.length kH) (el := fun i => (eI) (List.getD kH i default)) c19 ?_
    obtain ⟨x20, hx21, h1⟩ := aY h1
    refine aAw 50 [(eL aG l0), (.sl false (Int.toNat n1) (fun i => (eI) (List.getD kH i default)))] (aS x20) (dH.sub (GI l0 (List.take (Int.toNat n1) kH) _ hx21) ⟨aN.refl _, OV (Int.toNat_le.2 (Int.le_trans (And.left (And.right c19)) (And.right (And.right c19)))), trivial⟩) hO ?_
    intro H hO
    refine oZ (xs := [(aS x20)]) (k := 3) (by kernel_rfl) (by kernel_rfl) ?_
    obtain ⟨c24, h1⟩ := aW h1
    refine wZ (e := aS) jA ([x20]) 0 lo17 3 40 (kN [(aS x20)]) (fun lo23 => [(lo23, 3, List.map aS (jA ++ ([x20])))]) (by kernel_rfl) (by kernel_rfl) hO (by kernel_rfl) (by kernel_rfl) c24 (fun _ => by kernel_rfl) ?_
    intro lo23 H hO
    refine bD ?_
    refine bS [13] [(13, (.msl 3 lo23 0 (List.length (jA ++ ([x20])))))] ?_
    refine aV aD 3 ?_
    obtain ⟨c25, h1⟩ := aW h1
    refine nG [0 ≤ (1 : Int) ∧ (1 : Int) ≤ (lN kH)] ⟨c25, trivial⟩ ?_
    refine cW (l := [(0, (eL aG l0)), (1, (eI n1)), (12, (eL (eI) (List.drop (Int.toNat (1 : Int)) kH))), (13, (.msl 3 lo23 0 (List.length (jA ++ ([x20])))))]) ⟨[(0, (eL aG l0)), (1, (eI n1)), (12, (.sl false (List.length kH - Int.toNat (1 : Int)) (fun i => (eI) (List.getD kH (Int.toNat (1 : Int) + i) default)))), (13, (.msl 3 lo23 0 (List.length (jA ++ ([x20])))))], by kernel_rfl, rfl, ⟨aN.refl _, aN.refl _, YS, aN.refl _, trivial⟩⟩ ?_
    exact aI (aZ (aH (⟨rfl, _, (oI h1).symm, _, .eq (by kernel_rfl), hO⟩)))
  refine gZ 0 ?_
  obtain rfl := oI h1
  obtain rfl : _ = rr0 := ho0
  replace h0 : rE jA = some r := h0
  exact aI (aX (aX (bX (aH (⟨rfl, _, _, .eq (by kernel_rfl), hO, h0⟩)))))

theorem uI  (r : Bool) (h0 : mU  = some r) : dH Try.prog 20 [] (aF r) := by
  intro H0
  refine dD Try.func20 ?_
  have hO := aL.start H0
  unfold mU at h0
  refine cH aD 1 [] ?_
  refine aO ?_
  refine aV aD 3 ?_
  refine bO 1 ?_
  refine oZ (xs := [(aK (aC.mk (1 : Int) (1 : Int) ByteArray.empty))]) (k := 3) (by kernel_rfl) (by kernel_rfl) ?_
  refine bD ?_
  refine cW (l := [(1, (eL aK ([aC.mk (1 : Int) (1 : Int) ByteArray.empty])))]) ⟨[(1, (kN [(aK (aC.mk (1 : Int) (1 : Int) ByteArray.empty))]))], by kernel_rfl, rfl, ⟨MV (l := [aC.mk (1 : Int) (1 : Int) ByteArray.empty]), trivial⟩⟩ ?_
  refine aI (aH (?_))
  refine aO ?_
  refine aV aD 3 ?_
  refine bO 1 ?_
  refine oZ (xs := [(aK (aC.mk (1 : Int) (2 : Int) ByteArray.empty))]) (k := 3) (by kernel_rfl) (by kernel_rfl) ?_
  refine bD ?_
  refine cW (l := [(1, (eL aK ([aC.mk (1 : Int) (1 : Int) ByteArray.empty]))), (2, (eL aK ([aC.mk (1 : Int) (2 : Int) ByteArray.empty])))]) ⟨[(1, (eL aK ([aC.mk (1 : Int) (1 : Int) ByteArray.empty]))), (2, (kN [(aK (aC.mk (1 : Int) (2 : Int) ByteArray.empty))]))], by kernel_rfl, rfl, ⟨aN.refl _, MV (l := [aC.mk (1 : Int) (2 : Int) ByteArray.empty]), trivial⟩⟩ ?_
  refine aI (aH (?_))
  refine aO ?_
  refine aV aD 10 ?_
  refine bO 8 ?_
  refine oZ (xs := [(aG (aE.mk ([aC.mk (1 : Int) (1 : Int) ByteArray.empty]) (2 : Int) (1 : Int))), (aG (aE.mk ([aC.mk (1 : Int) (2 : Int) ByteArray.empty]) (5 : Int) (1 : Int))), (aG (aE.mk ([aC.mk (1 : Int) (2 : Int) ByteArray.empty]) (7 : Int) (-1 : Int))), (aG (aE.mk ([aC.mk (1 : Int) (2 : Int) ByteArray.empty]) (8 : Int) (1 : Int)))]) (k := 3) (by kernel_rfl) (by kernel_rfl) ?_
  refine bD ?_
  refine cW (l := [(3, (eL aG ([aE.mk ([aC.mk (1 : Int) (1 : Int) ByteArray.empty]) (2 : Int) (1 : Int), aE.mk ([aC.mk (1 : Int) (2 : Int) ByteArray.empty]) (5 : Int) (1 : Int), aE.mk ([aC.mk (1 : Int) (2 : Int) ByteArray.empty]) (7 : Int) (-1 : Int), aE.mk ([aC.mk (1 : Int) (2 : Int) ByteArray.empty]) (8 : Int) (1 : Int)])))]) ⟨[(3, (kN [(aG (aE.mk ([aC.mk (1 : Int) (1 : Int) ByteArray.empty]) (2 : Int) (1 : Int))), (aG (aE.mk ([aC.mk (1 : Int) (2 : Int) ByteArray.empty]) (5 : Int) (1 : Int))), (aG (aE.mk ([aC.mk (1 : Int) (2 : Int) ByteArray.empty]) (7 : Int) (-1 : Int))), (aG (aE.mk ([aC.mk (1 : Int) (2 : Int) ByteArray.empty]) (8 : Int) (1 : Int)))]))], by kernel_rfl, rfl, ⟨MV (l := [aE.mk ([aC.mk (1 : Int) (1 : Int) ByteArray.empty]) (2 : Int) (1 : Int), aE.mk ([aC.mk (1 : Int) (2 : Int) ByteArray.empty]) (5 : Int) (1 : Int), aE.mk ([aC.mk (1 : Int) (2 : Int) ByteArray.empty]) (7 : Int) (-1 : Int), aE.mk ([aC.mk (1 : Int) (2 : Int) ByteArray.empty]) (8 : Int) (1 : Int)]), trivial⟩⟩ ?_
  refine aI (aH (?_))
  refine aO ?_
  refine aV aD 7 ?_
  refine bO 1 ?_
  obtain ⟨x1, hx2, h0⟩ := aY h0
  refine dO (FP ([aE.mk ([aC.mk (1 : Int) (1 : Int) ByteArray.empty]) (2 : Int) (1 : Int), aE.mk ([aC.mk (1 : Int) (2 : Int) ByteArray.empty]) (5 : Int) (1 : Int), aE.mk ([aC.mk (1 : Int) (2 : Int) ByteArray.empty]) (7 : Int) (-1 : Int), aE.mk ([aC.mk (1 : Int) (2 : Int) ByteArray.empty]) (8 : Int) (1 : Int)]) _ hx2) hO ?_
  intro H hO
  refine bD ?_
  refine bS [] [(4, (eL (eI) x1.1)), (5, (eI x1.2))] ?_
  refine aO ?_
  refine aV aD 7 ?_
  refine bO 1 ?_
  obtain ⟨x4, hx5, h0⟩ := aY h0
  refine dO (wD ([aE.mk ([aC.mk (1 : Int) (1 : Int) ByteArray.empty]) (2 : Int) (1 : Int), aE.mk ([aC.mk (1 : Int) (2 : Int) ByteArray.empty]) (5 : Int) (1 : Int), aE.mk ([aC.mk (1 : Int) (2 : Int) ByteArray.empty]) (7 : Int) (-1 : Int), aE.mk ([aC.mk (1 : Int) (2 : Int) ByteArray.empty]) (8 : Int) (1 : Int)]) (2 : Int) (6 : Int) _ hx5) hO ?_
  intro H hO
  refine bD ?_
  refine bS [] [(6, (eI x4.1)), (7, (eI x4.2))] ?_
  refine aO ?_
  refine aV aD 7 ?_
  refine bO 1 ?_
  obtain ⟨x7, hx8, h0⟩ := aY h0
  refine dO (uS ([aE.mk ([aC.mk (1 : Int) (1 : Int) ByteArray.empty]) (2 : Int) (1 : Int), aE.mk ([aC.mk (1 : Int) (2 : Int) ByteArray.empty]) (5 : Int) (1 : Int), aE.mk ([aC.mk (1 : Int) (2 : Int) ByteArray.empty]) (7 : Int) (-1 : Int), aE.mk ([aC.mk (1 : Int) (2 : Int) ByteArray.empty]) (8 : Int) (1 : Int)]) (2 : Int) (0 : Int) _ hx8) hO ?_
  intro H hO
  refine bD ?_
  refine bS [3] [(8, (eL aS x7.1)), (9, (eI x7.2))] ?_
  refine aO ?_
  refine aV aD 59 ?_
  obtain ⟨c10, h0⟩ := aW h0
  obtain ⟨c11, h0⟩ := aW h0
  obtain ⟨c12, h0⟩ := aW h0
  obtain ⟨c13, h0⟩ := aW h0
  obtain ⟨c14, h0⟩ := aW h0
  refine nG [((((((((decide (x1.2 = (0 : Int))) && (decide (x4.2 = (0 : Int)))) && (decide (x7.2 = (0 : Int)))) && (decide ((lN x1.1) = (3 : Int)))) && (decide (x4.1 = (5 : Int)))) && (decide ((lN x7.1) = (2 : Int))))) = true → 0 ≤ (0 : Int) ∧ (0 : Int) < (lN x7.1)), (((((((((decide (x1.2 = (0 : Int))) && (decide (x4.2 = (0 : Int)))) && (decide (x7.2 = (0 : Int)))) && (decide ((lN x1.1) = (3 : Int)))) && (decide (x4.1 = (5 : Int)))) && (decide ((lN x7.1) = (2 : Int)))) && ((decide ((((gD x7.1 (0 : Int)).Span).From) = ((cS.mk (2 : Int) (6 : Int)).From))) && ((decide ((((gD x7.1 (0 : Int)).Span).To) = ((cS.mk (2 : Int) (6 : Int)).To))) && true)))) = true → 0 ≤ (0 : Int) ∧ (0 : Int) < (lN x7.1)), ((((((((((decide (x1.2 = (0 : Int))) && (decide (x4.2 = (0 : Int)))) && (decide (x7.2 = (0 : Int)))) && (decide ((lN x1.1) = (3 : Int)))) && (decide (x4.1 = (5 : Int)))) && (decide ((lN x7.1) = (2 : Int)))) && ((decide ((((gD x7.1 (0 : Int)).Span).From) = ((cS.mk (2 : Int) (6 : Int)).From))) && ((decide ((((gD x7.1 (0 : Int)).Span).To) = ((cS.mk (2 : Int) (6 : Int)).To))) && true))) && (decide ((lN ((gD x7.1 (0 : Int)).Rows)) = (2 : Int))))) = true → 0 ≤ (1 : Int) ∧ (1 : Int) < (lN x7.1)), (((((((((((decide (x1.2 = (0 : Int))) && (decide (x4.2 = (0 : Int)))) && (decide (x7.2 = (0 : Int)))) && (decide ((lN x1.1) = (3 : Int)))) && (decide (x4.1 = (5 : Int)))) && (decide ((lN x7.1) = (2 : Int)))) && ((decide ((((gD x7.1 (0 : Int)).Span).From) = ((cS.mk (2 : Int) (6 : Int)).From))) && ((decide ((((gD x7.1 (0 : Int)).Span).To) = ((cS.mk (2 : Int) (6 : Int)).To))) && true))) && (decide ((lN ((gD x7.1 (0 : Int)).Rows)) = (2 : Int)))) && (decide ((lN ((gD x7.1 (1 : Int)).Rows)) = (1 : Int))))) = true → 0 ≤ (1 : Int) ∧ (1 : Int) < (lN x7.1)), (((((((((((decide (x1.2 = (0 : Int))) && (decide (x4.2 = (0 : Int)))) && (decide (x7.2 = (0 : Int)))) && (decide ((lN x1.1) = (3 : Int)))) && (decide (x4.1 = (5 : Int)))) && (decide ((lN x7.1) = (2 : Int)))) && ((decide ((((gD x7.1 (0 : Int)).Span).From) = ((cS.mk (2 : Int) (6 : Int)).From))) && ((decide ((((gD x7.1 (0 : Int)).Span).To) = ((cS.mk (2 : Int) (6 : Int)).To))) && true))) && (decide ((lN ((gD x7.1 (0 : Int)).Rows)) = (2 : Int)))) && (decide ((lN ((gD x7.1 (1 : Int)).Rows)) = (1 : Int))))) = true → 0 ≤ (0 : Int) ∧ (0 : Int) < (lN ((gD x7.1 (1 : Int)).Rows)))] ⟨c10, c11, c12, c13, c14, trivial⟩ ?_
  refine bG [(0, (aF ((((((((((decide (x1.2 = (0 : Int))) && (decide (x4.2 = (0 : Int)))) && (decide (x7.2 = (0 : Int)))) && (decide ((lN x1.1) = (3 : Int)))) && (decide (x4.1 = (5 : Int)))) && (decide ((lN x7.1) = (2 : Int)))) && ((decide ((((gD x7.1 (0 : Int)).Span).From) = ((cS.mk (2 : Int) (6 : Int)).From))) && ((decide ((((gD x7.1 (0 : Int)).Span).To) = ((cS.mk (2 : Int) (6 : Int)).To))) && true))) && (decide ((lN ((gD x7.1 (0 : Int)).Rows)) = (2 : Int)))) && (decide ((lN ((gD x7.1 (1 : Int)).Rows)) = (1 : Int)))) && (decide (((gD ((gD x7.1 (1 : Int)).Rows) (0 : Int)).N) = (2 : Int))))))] ?_
  refine bH ?_
  obtain rfl := oI h0
  exact aI (Q_r hO)

theorem BY (a0 : (List aC)) (b1 : (List aC)) (r : Bool) (h0 : pN a0 b1 = some r) : dH Try.prog 42 [(eL aK a0), (eL aK b1)] (aF r) := by
  intro H0
  refine dD Try.func42 ?_
  have hO := aL.start H0
  unfold pN at h0
  refine aU aD 1 [] [] ?_
  refine aO ?_
  refine aU aD 5 [] [(10, (aF (!decide ((lN a0) = (lN b1)))))] ?_
  refine bM h0 (fun h0 => ?_) (fun h0 => ?_)
  · refine cH aD 1 [(4, (aF false))] ?_
    refine bH ?_
    obtain rfl := oI h0
    exact aI (aT (Q_r hO))
  refine bL ?_
  refine bG [(0, (eL aK a0)), (1, (eL aK b1))] ?_
  refine gM (fun T H => Has T [] ∧ aL ⟨H0, [], []⟩ H [] ∧ qO  = some r) ?_ ?_
  · clear hO h0
    rintro T H ⟨hT, hO, h0⟩
    refine bF hT ?_
    clear hT
    unfold qO at h0
    refine cH aD 1 [(4, (aF true))] ?_
    refine bH ?_
    obtain rfl := oI h0
    exact aI (Q_r hO)
  refine aU aD 1 [] [(5, (eI (0 : Int)))] ?_
  refine cG 0 ?_
  refine fW [(0, (eL aK a0)), (1, (eL aK b1)), (5, (eI (0 : Int)))] ?_
  refine eS (fun T H => ∃ i5 : Int, Has T [(0, (eL aK a0)), (1, (eL aK b1)), (5, (eI i5))] ∧ aL ⟨H0, [], []⟩ H [] ∧ tH a0 b1 i5 = some r) ?_ ⟨(0 : Int), .eq (by kernel_rfl), hO, h0⟩
  clear hO h0
  rintro T H ⟨i5, hT, hO, h0⟩
  refine bF hT ?_
  clear hT
  unfold tH at h0
  obtain ⟨rr0, hl0, h0⟩ := aY h0
  refine dF (by kernel_rfl) (fun (s : Int) T H => Has T [(0, (eL aK a0)), (1, (eL aK b1)), (5, (eI s))] ∧ aL ⟨H0, [], []⟩ H []) hl0 ⟨.eq (by kernel_rfl), hO⟩ ?_
  clear hO
  rintro k0 s out1 T H ⟨hT, hO⟩ h1 ho0
  obtain ⟨i5, rfl⟩ : ∃ x, x = s := ⟨_, rfl⟩
  replace h1 : oJ a0 b1 i5 = some out1 := h1
  refine bF hT ?_
  clear hT
  unfold oJ at h1
  refine aO ?_
  refine aU aD 4 [] [(14, (aF (decide (i5 < (lN a0)))))] ?_
  refine bM h1 (fun h1 => ?_) (fun h1 => ?_)
  · refine bL ?_
    refine bG [(0, (eL aK a0)), (1, (eL aK b1)), (5, (eI i5))] ?_
    refine aO ?_
    refine cG 1 ?_
    refine aO ?_
    refine fG (fH [20, 24]) aD 9 ?_
    obtain ⟨c3, h1⟩ := aW h1
    obtain ⟨c4, h1⟩ := aW h1
    refine JT (Ds := [0 ≤ i5 ∧ i5 < (lN a0), 0 ≤ i5 ∧ i5 < (lN b1)]) (by kernel_rfl) ⟨c3, c4, trivial⟩ ?_
    refine bS [] [(25, (aF (!((decide (((gD a0 i5).Kind) = ((gD b1 i5).Kind))) && ((decide (((gD a0 i5).Num) = ((gD b1 i5).Num))) && ((nH ((gD a0 i5).Text) ((gD b1 i5).Text)) && true))))))] ?_
    refine bM h1 (fun h1 => ?_) (fun h1 => ?_)
    · refine cH aD 1 [(4, (aF false))] ?_
      refine bH ?_
      obtain rfl := oI h1
      obtain rfl : _ = rr0 := ho0
      replace h0 : some false = some r := h0
      obtain rfl := oI h0
      exact aI (bN (aT (aT (bN (aT (Q_r hO))))))
    refine bL ?_
    refine fV [(0, (eL aK a0)), (1, (eL aK b1)), (5, (eI i5))] ?_
    refine aI (aZ (aH (?_)))
    refine aV aD 3 ?_
    refine bD ?_
    exact aI (aH (⟨rfl, _, (oI h1).symm, .eq (by kernel_rfl), hO⟩))
  refine gZ 0 ?_
  obtain rfl := oI h1
  obtain rfl : _ = rr0 := ho0
  replace h0 : qO  = some r := h0
  exact aI (aX (aX (bX (aH (⟨rfl, .eq (by kernel_rfl), hO, h0⟩)))))

end Go.Abs
namespace Go.Abs
open Go Go.RowKit Go.Proofs
theorem AV (a0 : (List bU)) (b1 : (List bU)) (r : Bool) (h0 : mQ a0 b1 = some r) : dH Try.prog 17 [(eL bT a0), (eL bT b1)] (aF r) := by
  intro H0
  refine dD Try.func17 ?_
  have hO := aL.start H0
  unfold mQ at h0
  refine aU aD 1 [] [] ?_
  refine aO ?_
  refine aU aD 5 [] [(10, (aF (!decide ((lN a0) = (lN b1)))))] ?_
  refine bM h0 (fun h0 => ?_) (fun h0 => ?_)
  · refine cH aD 1 [(4, (aF false))] ?_
    refine bH ?_
    obtain rfl := oI h0
    exact aI (aT (Q_r hO))
  refine bL ?_
  refine bG [(0, (eL bT a0)), (1, (eL bT b1))] ?_
  refine gM (fun T H => Has T [] ∧ aL ⟨H0, [], []⟩ H [] ∧ lY  = some r) ?_ ?_
  · clear hO h0
    rintro T H ⟨hT, hO, h0⟩
    refine bF hT ?_
    clear hT
    unfold lY at h0
    refine cH aD 1 [(4, (aF true))] ?_
    refine bH ?_
    obtain rfl := oI h0
    exact aI (Q_r hO)
  refine aU aD 1 [] [(5, (eI (0 : Int)))] ?_
  refine cG 0 ?_
  refine fW [(0, (eL bT a0)), (1, (eL bT b1)), (5, (eI (0 : Int)))] ?_
  refine eS (fun T H => ∃ i5 : Int, Has T [(0, (eL bT a0)), (1, (eL bT b1)), (5, (eI i5))] ∧ aL ⟨H0, [], []⟩ H [] ∧ oC a0 b1 i5 = some r) ?_ ⟨(0 : Int), .eq (by kernel_rfl), hO, h0⟩
  clear hO h0
  rintro T H ⟨i5, hT, hO, h0⟩
  refine bF hT ?_
  clear hT
  unfold oC at h0
  obtain ⟨rr0, hl0, h0⟩ := aY h0
  refine dF (by kernel_rfl) (fun (s : Int) T H => Has T [(0, (eL bT a0)), (1, (eL bT b1)), (5, (eI s))] ∧ aL ⟨H0, [], []⟩ H []) hl0 ⟨.eq (by kernel_rfl), hO⟩ ?_
  clear hO
  rintro k0 s out1 T H ⟨hT, hO⟩ h1 ho0
  obtain ⟨i5, rfl⟩ : ∃ x, x = s := ⟨_, rfl⟩
  replace h1 : kQ a0 b1 i5 = some out1 := h1
  refine bF hT ?_
  clear hT
  unfold kQ at h1
  refine aO ?_
  refine aU aD 4 [] [(14, (aF (decide (i5 < (lN a0)))))] ?_
  refine bM h1 (fun h1 => ?_) (fun h1 => ?_)
  · refine bL ?_
    refine bG [(0, (eL bT a0)), (1, (eL bT b1)), (5, (eI i5))] ?_
    refine aO ?_
    refine cG 1 ?_
    refine aO ?_
    obtain ⟨c3, h1⟩ := aW h1
    obtain ⟨c4, h1⟩ := aW h1
    obtain ⟨c5, h1⟩ := aW h1
    obtain ⟨c6, h1⟩ := aW h1
    obtain ⟨x7, hx8, h1⟩ := aY h1
    refine fG (fH [21, 26, 33, 38]) aD 25 ?_
    refine nV (K := fun T H => Has (lift T) [(0, (eL bT a0)), (1, (eL bT b1)), (5, (eI i5)), (41, (aF ((!decide (((gD a0 i5).N) = ((gD b1 i5).N))) || (!x7))))] ∧ aL ⟨H0, [], []⟩ H []) ?_ ?_
    · refine cA 12 [0 ≤ i5 ∧ i5 < (lN a0), 0 ≤ i5 ∧ i5 < (lN b1)] ⟨c3, c4, trivial⟩ ?_
      refine mH (t := 28) (e := !decide (((gD a0 i5).N) = ((gD b1 i5).N))) (by kernel_rfl) (fun hg9 => ?_) (fun hg9 => ?_)
      · refine jC ?_
        exact ⟨⟨[(0, (eL bT a0)), (1, (eL bT b1)), (5, (eI i5)), (41, (aF true))], by kernel_rfl, rfl, ⟨aN.refl _, aN.refl _, aN.refl _, aN.eq (congrArg aF (vC hg9 rfl).symm), trivial⟩⟩, hO⟩
      refine cA 22 [0 ≤ i5 ∧ i5 < (lN a0), 0 ≤ i5 ∧ i5 < (lN b1)] ⟨(c5 (tW hg9)), (c6 (tW hg9)), trivial⟩ ?_
      refine mV 42 [(eL aK ((gD a0 i5).Row)), (eL aK ((gD b1 i5).Row))] (aF x7) (by kernel_rfl) (by kernel_rfl) (BY ((gD a0 i5).Row) ((gD b1 i5).Row) _ (iZ hx8 (tW hg9))) hO ?_
      intro H hO
      refine jC ?_
      exact ⟨⟨[(0, (eL bT a0)), (1, (eL bT b1)), (5, (eI i5)), (41, (aF (!x7)))], by kernel_rfl, rfl, ⟨aN.refl _, aN.refl _, aN.refl _, aN.eq (congrArg aF (vC hg9 rfl).symm), trivial⟩⟩, hO⟩
    · rintro T H ⟨hT, hO⟩
      refine cW hT ?_
      clear hT
      refine aI (aH ?_)
      refine bM h1 (fun h1 => ?_) (fun h1 => ?_)
      · refine cH aD 1 [(4, (aF false))] ?_
        refine bH ?_
        obtain rfl := oI h1
        obtain rfl : _ = rr0 := ho0
        replace h0 : some false = some r := h0
        obtain rfl := oI h0
        exact aI (bN (aT (aT (bN (aT (Q_r hO))))))
      refine bL ?_
      refine fV [(0, (eL bT a0)), (1, (eL bT b1)), (5, (eI i5))] ?_
      refine aI (aZ (aH (?_)))
      refine aV aD 3 ?_
      refine bD ?_
      exact aI (aH (⟨rfl, _, (oI h1).symm, .eq (by kernel_rfl), hO⟩))
  refine gZ 0 ?_
  obtain rfl := oI h1
  obtain rfl : _ = rr0 := ho0
  replace h0 : lY  = some r := h0
  exact aI (aX (aX (bX (aH (⟨rfl, .eq (by kernel_rfl), hO, h0⟩)))))

theorem KW (a0 : (List aR)) (b1 : (List aR)) (r : Bool) (h0 : rZ a0 b1 = some r) : dH Try.prog 16 [(eL aS a0), (eL aS b1)] (aF r) := by
  intro H0
  refine dD Try.func16 ?_
  have hO := aL.start H0
  unfold rZ at h0
  refine aU aD 1 [] [] ?_
  refine aO ?_
  refine aU aD 5 [] [(10, (aF (!decide ((lN a0) = (lN b1)))))] ?_
  refine bM h0 (fun h0 => ?_) (fun h0 => ?_)
  · refine cH aD 1 [(4, (aF false))] ?_
    refine bH ?_
    obtain rfl := oI h0
    exact aI (aT (Q_r hO))
  refine bL ?_
  refine bG [(0, (eL aS a0)), (1, (eL aS b1))] ?_
  refine gM (fun T H => Has T [] ∧ aL ⟨H0, [], []⟩ H [] ∧ qF  = some r) ?_ ?_
  · clear hO h0
    rintro T H ⟨hT, hO, h0⟩
    refine bF hT ?_
    clear hT
    unfold qF at h0
    refine cH aD 1 [(4, (aF true))] ?_
    refine bH ?_
    obtain rfl := oI h0
    exact aI (Q_r hO)
  refine aU aD 1 [] [(5, (eI (0 : Int)))] ?_
  refine cG 0 ?_
  refine fW [(0, (eL aS a0)), (1, (eL aS b1)), (5, (eI (0 : Int)))] ?_
  refine eS (fun T H => ∃ i5 : Int, Has T [(0, (eL aS a0)), (1, (eL aS b1)), (5, (eI i5))] ∧ aL ⟨H0, [], []⟩ H [] ∧ tI a0 b1 i5 = some r) ?_ ⟨(0 : Int), .eq (by kernel_rfl), hO, h0⟩
  clear hO h0
  rintro T H ⟨i5, hT, hO, h0⟩
  refine bF hT ?_
  clear hT
  unfold tI at h0
  obtain ⟨rr0, hl0, h0⟩ := aY h0
  refine dF (by kernel_rfl) (fun (s : Int) T H => Has T [(0, (eL aS a0)), (1, (eL aS b1)), (5, (eI s))] ∧ aL ⟨H0, [], []⟩ H []) hl0 ⟨.eq (by kernel_rfl), hO⟩ ?_
  clear hO
  rintro k0 s out1 T H ⟨hT, hO⟩ h1 ho0
  obtain ⟨i5, rfl⟩ : ∃ x, x = s := ⟨_, rfl⟩
  replace h1 : oG a0 b1 i5 = some out1 := h1
  refine bF hT ?_
  clear hT
  unfold oG at h1
  refine aO ?_
  refine aU aD 4 [] [(14, (aF (decide (i5 < (lN a0)))))] ?_
  refine bM h1 (fun h1 => ?_) (fun h1 => ?_)
  · refine bL ?_
    refine bG [(0, (eL aS a0)), (1, (eL aS b1)), (5, (eI i5))] ?_
    refine aO ?_
    refine cG 1 ?_
    refine aO ?_
    obtain ⟨c3, h1⟩ := aW h1
    obtain ⟨c4, h1⟩ := aW h1
    obtain ⟨c5, h1⟩ := aW h1
    obtain ⟨c6, h1⟩ := aW h1
    obtain ⟨x7, hx8, h1⟩ := aY h1
    refine fG (fH [21, 26, 33, 38]) aD 25 ?_
    refine nV (K := fun T H => Has (lift T) [(0, (eL aS a0)), (1, (eL aS b1)), (5, (eI i5)), (41, (aF ((!((decide ((((gD a0 i5).Span).From) = (((gD b1 i5).Span).From))) && ((decide ((((gD a0 i5).Span).To) = (((gD b1 i5).Span).To))) && true))) || (!x7))))] ∧ aL ⟨H0, [], []⟩ H []) ?_ ?_
    · refine cA 12 [0 ≤ i5 ∧ i5 < (lN a0), 0 ≤ i5 ∧ i5 < (lN b1)] ⟨c3, c4, trivial⟩ ?_
      refine mH (t := 28) (e := !((decide ((((gD a0 i5).Span).From) = (((gD b1 i5).Span).From))) && ((decide ((((gD a0 i5).Span).To) = (((gD b1 i5).Span).To))) && true))) (by kernel_rfl) (fun hg9 => ?_) (fun hg9 => ?_)
      · refine jC ?_
        exact ⟨⟨[(0, (eL aS a0)), (1, (eL aS b1)), (5, (eI i5)), (41, (aF true))], by kernel_rfl, rfl, ⟨aN.refl _, aN.refl _, aN.refl _, aN.eq (congrArg aF (vC hg9 rfl).symm), trivial⟩⟩, hO⟩
      refine cA 22 [0 ≤ i5 ∧ i5 < (lN a0), 0 ≤ i5 ∧ i5 < (lN b1)] ⟨(c5 (tW hg9)), (c6 (tW hg9)), trivial⟩ ?_
      refine mV 17 [(eL bT ((gD a0 i5).Rows)), (eL bT ((gD b1 i5).Rows))] (aF x7) (by kernel_rfl) (by kernel_rfl) (AV ((gD a0 i5).Rows) ((gD b1 i5).Rows) _ (iZ hx8 (tW hg9))) hO ?_
      intro H hO
      refine jC ?_
      exact ⟨⟨[(0, (eL aS a0)), (1, (eL aS b1)), (5, (eI i5)), (41, (aF (!x7)))], by kernel_rfl, rfl, ⟨aN.refl _, aN.refl _, aN.refl _, aN.eq (congrArg aF (vC hg9 rfl).symm), trivial⟩⟩, hO⟩
    · rintro T H ⟨hT, hO⟩
      refine cW hT ?_
      clear hT
      refine aI (aH ?_)
      refine bM h1 (fun h1 => ?_) (fun h1 => ?_)
      · refine cH aD 1 [(4, (aF false))] ?_
        refine bH ?_
        obtain rfl := oI h1
        obtain rfl : _ = rr0 := ho0
        replace h0 : some false = some r := h0
        obtain rfl := oI h0
        exact aI (bN (aT (aT (bN (aT (Q_r hO))))))
      refine bL ?_
      refine fV [(0, (eL aS a0)), (1, (eL aS b1)), (5, (eI i5))] ?_
      refine aI (aZ (aH (?_)))
      refine aV aD 3 ?_
      refine bD ?_
      exact aI (aH (⟨rfl, _, (oI h1).symm, .eq (by kernel_rfl), hO⟩))
  refine gZ 0 ?_
  obtain rfl := oI h1
  obtain rfl : _ = rr0 := ho0
  replace h0 : qF  = some r := h0
  exact aI (aX (aX (bX (aH (⟨rfl, .eq (by kernel_rfl), hO, h0⟩)))))

theorem PY (lo0p : Nat) (l0 : (List aE)) (r1 : (List aC)) (f2 : (List aB)) (r : (List aE)) (h0 : uL l0 r1 f2 = some r) : yJ Try.prog 96 lo0p 3 (List.map aG l0) [(.msl 3 lo0p 0 (List.length l0)), (eL aK r1), (eL aP f2)] (fun lo => .msl 3 lo 0 (List.length r)) (List.map aG r) := by
  intro H0 hl0
  refine dD Try.func96 ?_
  have hO := aL.pI hl0
  clear hl0
  unfold uL at h0
  refine aU aD 1 [] [] ?_
  refine gM (fun T H => ∃ l0 : List aE, ∃ lo1 : Nat, Has T [(0, (.msl 3 lo1 0 (List.length l0)))] ∧ aL ⟨H0, [lo0p], []⟩ H [(lo1, 3, List.map aG l0)] ∧ vO l0 = some r) ?_ ?_
  · clear hO h0
    rintro T H ⟨l0, lo1, hT, hO, h0⟩
    refine bF hT ?_
    clear hT
    unfold vO at h0
    refine cH aD 2 [(6, (.msl 3 lo1 0 (List.length l0)))] ?_
    refine bH ?_
    obtain rfl := oI h0
    exact aI (jZ (x := (.msl 3 lo1 0 (List.length l0))) (by kernel_rfl) (aN.refl _) ⟨lo1, rfl, hO⟩)
  refine aU aD 3 [2] [(9, (eL aP f2)), (10, (eI (lN f2))), (11, (eI (0 : Int)))] ?_
  refine cG 0 ?_
  refine fW [(0, (.msl 3 lo0p 0 (List.length l0))), (1, (eL aK r1)), (9, (eL aP f2)), (10, (eI (lN f2))), (11, (eI (0 : Int)))] ?_
  refine eS (fun T H => ∃ l0 : List aE, ∃ t9 : (List aB), ∃ t10 : Int, ∃ t11 : Int, ∃ lo3 : Nat, Has T [(0, (.msl 3 lo3 0 (List.length l0))), (1, (eL aK r1)), (9, (eL aP t9)), (10, (eI t10)), (11, (eI t11))] ∧ aL ⟨H0, [lo0p], []⟩ H [(lo3, 3, List.map aG l0)] ∧ vK l0 r1 t9 t10 t11 = some r) ?_ ⟨l0, f2, (lN f2), (0 : Int), lo0p, .eq (by kernel_rfl), hO, h0⟩
  clear hO h0
  rintro T H ⟨l0, t9, t10, t11, lo3, hT, hO, h0⟩
  refine bF hT ?_
  clear hT
  unfold vK at h0
  obtain ⟨rr0, hl0, h0⟩ := aY h0
  refine dF (by kernel_rfl) (fun (s : List aE × Int) T H => ∃ lo3 : Nat, Has T [(0, (.msl 3 lo3 0 (List.length s.1))), (1, (eL aK r1)), (9, (eL aP t9)), (10, (eI t10)), (11, (eI s.2))] ∧ aL ⟨H0, [lo0p], []⟩ H [(lo3, 3, List.map aG s.1)]) hl0 ⟨lo3, .eq (by kernel_rfl), hO⟩ ?_
  clear hO
  rintro k0 s out1 T H ⟨lo3, hT, hO⟩ h1 ho0
  obtain ⟨l0, t11⟩ := s
  replace h1 : nJ r1 t9 t10 l0 t11 = some out1 := h1
  try dsimp only at hT
  refine bF hT ?_
  clear hT
  unfold nJ at h1
  refine aU aD 1 [] [(12, (aF (decide (t11 < t10))))] ?_
  refine aO ?_
  refine bM h1 (fun h1 => ?_) (fun h1 => ?_)
  · refine bL ?_
    refine bG [(0, (.msl 3 lo3 0 (List.length l0))), (1, (eL aK r1)), (9, (eL aP t9)), (10, (eI t10)), (11, (eI t11))] ?_
    refine aO ?_
    refine cG 1 ?_
    refine aO ?_
    refine aV aD 4 ?_
    obtain ⟨c5, h1⟩ := aW h1
    refine uB 2 [0 ≤ t11 ∧ t11 < (lN t9)] ⟨c5, trivial⟩ ?_
    refine oV 2 (aP (aB.mk 0 0)) (by kernel_rfl) (by kernel_rfl) hO ?_
    intro lo6 H hO
    refine lO 1 lo6 2 0 (aP (aB.mk 0 0)) (aP (gD t9 t11)) [(aP (aB.mk 0 0))] [(lo3, 3, List.map aG l0), (lo6, 2, [(aP (gD t9 t11))])] hO rfl (by kernel_rfl) ?_
    intro H hO
    refine fI ?_
    refine bS [] [(8, (.lp lo6 0 0))] ?_
    refine fW [(0, (.msl 3 lo3 0 (List.length l0))), (1, (eL aK r1)), (8, (.lp lo6 0 0)), (9, (eL aP t9)), (10, (eI t10)), (11, (eI t11))] ?_
    refine IV 2 1 8 2 lo6 (aP (gD t9 t11)) [(lo3, 3, List.map aG l0)] hO (by kernel_rfl) (by kernel_rfl) (by kernel_rfl) ?_
    intro H hO
    refine fG (fH [19, 21, 23]) aD 11 ?_
    refine lK 2 ?_
    obtain ⟨x7, hx8, h1⟩ := aY h1
    refine DQ (GM r1 _ hx8) hO ?_
    intro H hO
    refine lK 8 ?_
    refine QB (xs := [(aG (aE.mk x7 ((gD t9 t11).At) ((gD t9 t11).Net)))]) (k := 3) (by kernel_rfl) (by kernel_rfl) ?_
    obtain ⟨c11, h1⟩ := aW h1
    refine HL (e := aG) l0 ([aE.mk x7 ((gD t9 t11).At) ((gD t9 t11).Net)]) 0 lo3 3 40 (kN [(aG (aE.mk x7 ((gD t9 t11).At) ((gD t9 t11).Net)))]) (fun lo10 => [(lo10, 3, List.map aG (l0 ++ ([aE.mk x7 ((gD t9 t11).At) ((gD t9 t11).Net)])))]) (by kernel_rfl) (by kernel_rfl) hO (by kernel_rfl) (by kernel_rfl) c11 (fun _ => by kernel_rfl) ?_
    intro lo10 H hO
    refine jC ?_
    refine fV [(0, (.msl 3 lo10 0 (List.length (l0 ++ ([aE.mk x7 ((gD t9 t11).At) ((gD t9 t11).Net)]))))), (1, (eL aK r1)), (9, (eL aP t9)), (10, (eI t10)), (11, (eI t11))] ?_
    refine aI (aZ (aH (?_)))
    refine aV aD 2 ?_
    refine bD ?_
    exact aI (aH (⟨rfl, _, (oI h1).symm, _, .eq (by kernel_rfl), hO⟩))
  refine gZ 0 ?_
  obtain rfl := oI h1
  obtain rfl : _ = rr0 := ho0
  replace h0 : vO l0 = some r := h0
  exact aI (aX (aX (bX (aH (⟨rfl, _, _, .eq (by kernel_rfl), hO, h0⟩)))))

theorem JK (l0 : (List aE)) (by1_f : Nat) (by1_a by1_c : List V) (by1 : (List aB) → Option ((List aB) × Int)) (by1_h : ∀ a0 r, by1 a0 = some r → dH Try.prog by1_f (by1_a ++ [(eL aP a0)] ++ by1_c) (.tup [(eL aP r.1), (eI r.2)])) (r : ((List aE) × Int)) (h0 : qJ l0 by1 = some r) : dH Try.prog 73 [(eL aG l0), (.fn (.func by1_f) by1_a by1_c)] (.tup [(eL aG r.1), (eI r.2)]) := by
  intro H0
  refine CL aD Try.func73 (by kernel_rfl) (by kernel_rfl) (by kernel_rfl) ?_
  have hO := aL.start H0
  unfold qJ at h0
  refine aO ?_
  refine aV aD 3 ?_
  refine qM 1 (.fn (.func by1_f) by1_a by1_c) (by kernel_rfl) (by kernel_rfl) ?_
  refine rY 1 (.sl true 0 (fun _ => .bad)) (eL aG ([])) (by kernel_rfl) (by kernel_rfl) (by kernel_rfl) (kR) (by kernel_rfl) (by kernel_rfl) hO ?_
  intro lo1 H hO
  refine oV 1 (eI 0) (by kernel_rfl) (by kernel_rfl) hO ?_
  intro lo2 H hO
  refine fI ?_
  refine bS [1] [(3, (.rp (.fn (.func by1_f) by1_a by1_c))), (4, (.lp lo1 0 0)), (5, (.lp lo2 0 0))] ?_
  refine aO ?_
  refine aV aD 3 ?_
  refine oZ (xs := []) (k := 3) (by kernel_rfl) (by kernel_rfl) ?_
  refine rY 1 (.sl true 0 (fun _ => .bad)) (eL aG ([])) (by kernel_rfl) (by kernel_rfl) (by kernel_rfl) (kR) (by kernel_rfl) (by kernel_rfl) hO ?_
  intro lo3 H hO
  refine RZ 11 3 (fun _ => .bad) (by kernel_rfl) hO (by kernel_rfl) ?_
  intro lo4 H hO
  refine lO 2 lo3 1 0 (eL aG ([])) (.msl 3 lo4 0 (List.length ([] : List aE))) [(eL aG ([]))] [(lo1, 1, [(eL aG ([]))]), (lo2, 1, [(eI 0)]), (lo3, 1, [(.msl 3 lo4 0 (List.length ([] : List aE)))]), (lo4, 3, List.map aG ([] : List aE))] hO rfl (by kernel_rfl) ?_
  intro H hO
  refine fI ?_
  refine bS [] [(6, (.lp lo3 0 0))] ?_
  refine aO ?_
  refine aO ?_
  refine aV aD 2 ?_
  refine bO 1 ?_
  obtain ⟨x5, hx6, h0⟩ := aY h0
  refine dO (DA l0 _ hx6) hO ?_
  intro H hO
  refine fI ?_
  refine bS [0] [(13, (.fn (.func 91) [] [(.rp (eL aG x5))]))] ?_
  refine cG 0 ?_
  refine fW [(3, (.rp (.fn (.func by1_f) by1_a by1_c))), (4, (.lp lo1 0 0)), (5, (.lp lo2 0 0)), (6, (.lp lo3 0 0)), (13, (.fn (.func 91) [] [(.rp (eL aG x5))]))] ?_
  refine eS (fun T H => ∃ t4 : (List aE), ∃ t5 : Int, ∃ out6 : List aE, ∃ kJ : (List aE), ∃ lo7 : Nat, Has T [(3, (.rp (.fn (.func by1_f) by1_a by1_c))), (4, (.lp lo1 0 0)), (5, (.lp lo2 0 0)), (6, (.lp lo3 0 0)), (13, (.fn (.func 91) [] [(.rp (eL aG kJ))]))] ∧ aL ⟨H0, [], []⟩ H [(lo1, 1, [(eL aG t4)]), (lo2, 1, [(eI t5)]), (lo3, 1, [(.msl 3 lo7 0 (List.length out6))]), (lo7, 3, List.map aG out6)] ∧ sE by1 t4 t5 out6 kJ = some r) ?_ ⟨[], 0, ([] : List aE), x5, lo4, .eq (by kernel_rfl), hO, h0⟩
  clear hO h0
  rintro T H ⟨t4, t5, out6, kJ, lo7, hT, hO, h0⟩
  refine bF (l := [(3, (.rp (.fn (.func by1_f) by1_a by1_c))), (4, (.lp lo1 0 0)), (5, (.lp lo2 0 0)), (6, (.lp lo3 0 0)), (13, (.fn (.func 91) [] [(.rp (eL aG kJ))]))]) hT ?_
  clear hT
  unfold sE at h0
  obtain ⟨o0, hl0, h0⟩ := aY h0
  refine AM (fid := 91) (ys := []) (cs := [(.rp (eL aG kJ))]) #[14, 15] (fun (A : wT) (b lL : Nat) (st : ((List aE) × Int × List aE) ⊕ ((List aE) × Int × List aE)) (G' : Gs) => Sum.elim (fun (s : (List aE) × Int × List aE) => ∃ lo7 : Nat, G' = (lL, .raw (kX b A .ready none)) :: (up [(lo1, 1, [(eL aG s.1)]), (lo2, 1, [(eI s.2.1)]), (lo3, 1, [(.msl 3 lo7 0 (List.length s.2.2))]), (lo7, 3, List.map aG s.2.2)] ++ [])) (fun (s : (List aE) × Int × List aE) => ∃ lo7 : Nat, G' = (lL, .raw (kX b A .done (some .ret))) :: (up [(lo1, 1, [(eL aG s.1)]), (lo2, 1, [(eI s.2.1)]), (lo3, 1, [(.msl 3 lo7 0 (List.length s.2.2))]), (lo7, 3, List.map aG s.2.2)] ++ [])) st) (.inl (t4, t5, out6)) o0 (.tup []) (by kernel_rfl) (by kernel_rfl) (by kernel_rfl) hO (fun _ _ => ⟨lo7, rfl⟩) ?_ ?_
  · intro b lL
    clear hO h0
    refine yH _ b (fun st t14 t15 => rnd (fun (s : (List aE) × Int × List aE) => mI by1 kJ s.1 s.2.1 s.2.2 t14 t15) st) ?_ kJ _ _ hl0
    intro st t14 t15 out1 rr hr
    obtain ⟨s, rfl, h1, rfl⟩ := QM hr
    clear hr
    intro Hr Gr hi hg
    obtain ⟨t4, t5, out6⟩ := s
    dsimp only [Sum.elim_inl] at hi
    obtain ⟨lo7, rfl⟩ := hi
    replace h1 : mI by1 kJ t4 t5 out6 t14 t15 = some out1 := h1
    unfold mI at h1
    obtain ⟨E1, hE, hO⟩ := vP hg
    refine vQ (zL (hO.gm 0 _ rfl).2 (by kernel_rfl) (by kernel_rfl) ?_)
    refine fW [(3, (.rp (.fn (.func by1_f) by1_a by1_c))), (4, (.lp lo1 0 0)), (5, (.lp lo2 0 0)), (6, (.lp lo3 0 0)), (13, (.fn (.func 91) [] [(.rp (eL aG kJ))])), (14, (eL aK t14)), (15, (eL aP t15))] ?_
    refine aU aD 1 [13, 14] [(7, (eL aK t14))] ?_
    refine aV aD 1 ?_
    refine bD ?_
    refine fV [(3, (.rp (.fn (.func by1_f) by1_a by1_c))), (4, (.lp lo1 0 0)), (5, (.lp lo2 0 0)), (6, (.lp lo3 0 0)), (7, (eL aK t14)), (8, (eL aP t15))] ?_
    refine aI (⟨rfl, rfl, (hO.gm 0 _ rfl).2, ?_⟩)
    intro o1 ho1
    replace hO := hO.wG o1
    refine cG 1 ?_
    refine aO ?_
    refine aV aD 8 ?_
    refine bO 2 ?_
    obtain ⟨x8, hx9, h1⟩ := aY h1
    refine dO (by1_h t15 _ hx9) hO ?_
    intro H hO
    refine bD ?_
    refine bS [3, 8] [(9, (eL aP x8.1)), (10, (eI x8.2))] ?_
    refine aO ?_
    refine aU aD 2 [] [(23, (aF (!decide (x8.2 = (0 : Int)))))] ?_
    refine bM h1 (fun h1 => ?_) (fun h1 => ?_)
    · refine aO ?_
      refine aV aD 3 ?_
      refine bO 1 ?_
      refine lO 0 lo1 1 0 (eL aG t4) (.sl true 0 (fun _ => .bad)) [(eL aG t4)] [(lo1, 1, [(.sl true 0 (fun _ => .bad))]), (lo2, 1, [(eI t5)]), (lo3, 1, [(.msl 3 lo7 0 (List.length out6))]), (lo7, 3, List.map aG out6)] hO rfl (by kernel_rfl) ?_
      intro H hO
      refine lO 1 lo2 1 0 (eI t5) (eI x8.2) [(eI t5)] [(lo1, 1, [(.sl true 0 (fun _ => .bad))]), (lo2, 1, [(eI x8.2)]), (lo3, 1, [(.msl 3 lo7 0 (List.length out6))]), (lo7, 3, List.map aG out6)] hO rfl (by kernel_rfl) ?_
      intro H hO
      refine fI ?_
      refine KV 0 lo1 1 (.sl true 0 (fun _ => .bad)) (eL aG ([])) [(lo1, 1, [(eL aG ([]))]), (lo2, 1, [(eI x8.2)]), (lo3, 1, [(.msl 3 lo7 0 (List.length out6))]), (lo7, 3, List.map aG out6)] hO (by kernel_rfl) (by kernel_rfl) kR (by kernel_rfl) ?_
      intro H hO
      refine bG [(4, (.lp lo1 0 0)), (5, (.lp lo2 0 0)), (6, (.lp lo3 0 0))] ?_
      refine bH ?_
      refine fV [(4, (.lp lo1 0 0)), (5, (.lp lo2 0 0)), (6, (.lp lo3 0 0))] ?_
      obtain rfl := oI h1
      exact aI (aT (bN (⟨(iO hO hE ho1 .dead).1, rfl, _, ⟨lo7, rfl⟩, (iO hO hE ho1 _).2⟩)))
    refine bL ?_
    refine bG [(4, (.lp lo1 0 0)), (5, (.lp lo2 0 0)), (6, (.lp lo3 0 0)), (7, (eL aK t14)), (9, (eL aP x8.1))] ?_
    refine aO ?_
    refine aV aD 5 ?_
    refine nR 2 lo3 1 0 (.msl 3 lo7 0 (List.length out6)) (.msl 3 lo7 0 (List.length out6)) [(.msl 3 lo7 0 (List.length out6))] hO rfl ?_
    refine bO 3 ?_
    obtain ⟨x12, hx13, h1⟩ := aY h1
    refine PI (L' := fun lo14 => [(lo1, 1, [(eL aG t4)]), (lo2, 1, [(eI t5)]), (lo3, 1, [(.msl 3 lo7 0 (List.length out6))]), (lo14, 3, List.map aG x12)]) 3 lo7 3 (List.map aG out6) (List.map aG x12) 96 [(.msl 3 lo7 0 (List.length out6)), (eL aK t14), (eL aP x8.1)] (fun lo14 => (.msl 3 lo14 0 (List.length x12))) (by kernel_rfl) (by kernel_rfl) (PY lo7 out6 t14 x8.1 _ hx13) hO (by kernel_rfl) (fun _ => by kernel_rfl) ?_
    intro lo14 H hO
    refine lO 2 lo3 1 0 (.msl 3 lo7 0 (List.length out6)) (.msl 3 lo14 0 (List.length x12)) [(.msl 3 lo7 0 (List.length out6))] [(lo1, 1, [(eL aG t4)]), (lo2, 1, [(eI t5)]), (lo3, 1, [(.msl 3 lo14 0 (List.length x12))]), (lo14, 3, List.map aG x12)] hO rfl (by kernel_rfl) ?_
    intro H hO
    refine fI ?_
    refine bS [7, 9] [] ?_
    refine aO ?_
    refine aV aD 3 ?_
    refine nR 2 lo3 1 0 (.msl 3 lo14 0 (List.length x12)) (.msl 3 lo14 0 (List.length x12)) [(.msl 3 lo14 0 (List.length x12))] hO rfl ?_
    refine bD ?_
    refine bS [] [(31, (aF (decide ((4096 : Int) < (lN x12)))))] ?_
    refine bM h1 (fun h1 => ?_) (fun h1 => ?_)
    · refine aO ?_
      refine aV aD 2 ?_
      refine lO 0 lo1 1 0 (eL aG t4) (.sl true 0 (fun _ => .bad)) [(eL aG t4)] [(lo1, 1, [(.sl true 0 (fun _ => .bad))]), (lo2, 1, [(eI t5)]), (lo3, 1, [(.msl 3 lo14 0 (List.length x12))]), (lo14, 3, List.map aG x12)] hO rfl (by kernel_rfl) ?_
      intro H hO
      refine lO 1 lo2 1 0 (eI t5) (eI (7 : Int)) [(eI t5)] [(lo1, 1, [(.sl true 0 (fun _ => .bad))]), (lo2, 1, [(eI (7 : Int))]), (lo3, 1, [(.msl 3 lo14 0 (List.length x12))]), (lo14, 3, List.map aG x12)] hO rfl (by kernel_rfl) ?_
      intro H hO
      refine fI ?_
      refine KV 0 lo1 1 (.sl true 0 (fun _ => .bad)) (eL aG ([])) [(lo1, 1, [(eL aG ([]))]), (lo2, 1, [(eI (7 : Int))]), (lo3, 1, [(.msl 3 lo14 0 (List.length x12))]), (lo14, 3, List.map aG x12)] hO (by kernel_rfl) (by kernel_rfl) kR (by kernel_rfl) ?_
      intro H hO
      refine bG [(4, (.lp lo1 0 0)), (5, (.lp lo2 0 0)), (6, (.lp lo3 0 0))] ?_
      refine bH ?_
      refine fV [(4, (.lp lo1 0 0)), (5, (.lp lo2 0 0)), (6, (.lp lo3 0 0))] ?_
      obtain rfl := oI h1
      exact aI (bN (⟨(iO hO hE ho1 .dead).1, rfl, _, ⟨lo14, rfl⟩, (iO hO hE ho1 _).2⟩))
    refine bL ?_
    refine fV [(4, (.lp lo1 0 0)), (5, (.lp lo2 0 0)), (6, (.lp lo3 0 0))] ?_
    obtain rfl := oI h1
    exact aI (aZ (⟨(iO hO hE ho1 .dead).1, rfl, _, ⟨lo14, rfl⟩, (iO hO hE ho1 _).2⟩))
  · intro b lD16 lL H' G' hi hO
    rcases o0 with s | s
    · dsimp only [Sum.elim_inl] at hi
      obtain ⟨lo7, rfl⟩ := hi
      replace h0 : (some (s.2.2, (0 : Int))) = some r := h0
      obtain ⟨hlL, hO⟩ := sK hO
      refine ⟨_, _, hlL, (by intro e; cases e), ?_⟩
      refine fV [(4, (.lp lo1 0 0)), (5, (.lp lo2 0 0)), (6, (.lp lo3 0 0))] ?_
      refine aI (aZ (aH (?_)))
      refine aO ?_
      refine RN (e := aG) s.2.2 2 3 1 3 lo3 lo7 (List.length s.2.2) [(lo1, 1, [(eL aG s.1)]), (lo2, 1, [(eI s.2.1)]), (lo3, 1, [(eL aG s.2.2)])] hO (by kernel_rfl) (by kernel_rfl) (by kernel_rfl) (.inr (by decide)) (by kernel_rfl) ?_
      intro H hO
      refine aV aD 3 ?_
      refine nR 2 lo3 1 0 (eL aG s.2.2) (eL aG s.2.2) [(eL aG s.2.2)] hO rfl ?_
      refine lO 0 lo1 1 0 (eL aG s.1) (eL aG s.2.2) [(eL aG s.1)] [(lo1, 1, [(eL aG s.2.2)]), (lo2, 1, [(eI s.2.1)]), (lo3, 1, [(eL aG s.2.2)])] hO rfl (by kernel_rfl) ?_
      intro H hO
      refine lO 1 lo2 1 0 (eI s.2.1) (eI (0 : Int)) [(eI s.2.1)] [(lo1, 1, [(eL aG s.2.2)]), (lo2, 1, [(eI (0 : Int))]), (lo3, 1, [(eL aG s.2.2)])] hO rfl (by kernel_rfl) ?_
      intro H hO
      refine fI ?_
      replace hO := hO.pick (L' := [(lo1, 1, [(eL aG s.2.2)]), (lo2, 1, [(eI (0 : Int))])]) [0, 1] (by decide) (by kernel_rfl)
      refine bS [6] [] ?_
      refine bH ?_
      obtain rfl := oI h0
      have hD := (hO.gm 0 _ rfl).2
      replace hO := (hO.wG .dead).wV
      exact aI (QM1 (.inr rfl) hD (rs := [.cell 4 22, .cell 5 26]) (xs := [(eL aG s.2.2), (eI (0 : Int))]) (x := (.tup [(eL aG s.2.2), (eI (0 : Int))])) (by kernel_rfl) (tU (lo := lo1) (k := 1) (y := (eL aG s.2.2)) (x := (eL aG s.2.2)) 0 hO (by kernel_rfl) (by kernel_rfl) (by kernel_rfl) (by kernel_rfl) (tU (lo := lo2) (k := 1) (y := (eI (0 : Int))) (x := (eI (0 : Int))) 1 hO (by kernel_rfl) (by kernel_rfl) (by kernel_rfl) (by kernel_rfl) xH)) (by kernel_rfl) ⟨rfl, hO.out⟩)
    · dsimp only [Sum.elim_inr] at hi
      obtain ⟨lo7, rfl⟩ := hi
      replace h0 : (some (s.1, s.2.1)) = some r := h0
      obtain ⟨hlL, hO⟩ := sK hO
      refine ⟨_, _, hlL, (by intro e; cases e), ?_⟩
      refine bH ?_
      replace hO := hO.pick (L' := [(lo1, 1, [(eL aG s.1)]), (lo2, 1, [(eI s.2.1)])]) [0, 1] (by decide) (by kernel_rfl)
      obtain rfl := oI h0
      have hD := (hO.gm 0 _ rfl).2
      replace hO := (hO.wG .dead).wV
      exact aI (bN (aT (QM1 (.inr rfl) hD (rs := [.cell 4 22, .cell 5 26]) (xs := [(eL aG s.1), (eI s.2.1)]) (x := (.tup [(eL aG s.1), (eI s.2.1)])) (by kernel_rfl) (tU (lo := lo1) (k := 1) (y := (eL aG s.1)) (x := (eL aG s.1)) 0 hO (by kernel_rfl) (by kernel_rfl) (by kernel_rfl) (by kernel_rfl) (tU (lo := lo2) (k := 1) (y := (eI s.2.1)) (x := (eI s.2.1)) 1 hO (by kernel_rfl) (by kernel_rfl) (by kernel_rfl) (by kernel_rfl) xH)) (by kernel_rfl) ⟨rfl, hO.out⟩)))

theorem QW (l0 : (List aE)) (by1_f : Nat) (by1_a by1_c : List V) (by1 : (List aB) → Option ((List aB) × Int)) (by1_h : ∀ a0 r, by1 a0 = some r → dH Try.prog by1_f (by1_a ++ [(eL aP a0)] ++ by1_c) (.tup [(eL aP r.1), (eI r.2)])) (r : ((List aE) × Int)) (h0 : uO l0 by1 = some r) : dH Try.prog 51 [(eL aG l0), (.fn (.func by1_f) by1_a by1_c)] (.tup [(eL aG r.1), (eI r.2)]) := by
  intro H0
  refine dD Try.func51 ?_
  have hO := aL.start H0
  unfold uO at h0
  refine aU aD 2 [] [] ?_
  refine aO ?_
  refine aO ?_
  refine aV aD 3 ?_
  refine bO 1 ?_
  obtain ⟨x1, hx2, h0⟩ := aY h0
  refine dO (GL l0 _ hx2) hO ?_
  intro H hO
  refine bD ?_
  refine bS [] [(8, (aF (!x1)))] ?_
  refine bM h0 (fun h0 => ?_) (fun h0 => ?_)
  · refine cH aD 2 [(4, (.sl true 0 (fun _ => .bad))), (5, (eI (2 : Int)))] ?_
    refine bH ?_
    refine cW (l := [(4, (eL aG ([]))), (5, (eI (2 : Int)))]) ⟨[(4, (.sl true 0 (fun _ => .bad))), (5, (eI (2 : Int)))], by kernel_rfl, rfl, ⟨kR, aN.refl _, trivial⟩⟩ ?_
    obtain rfl := oI h0
    exact aI (aT (Q_r hO))
  refine bL ?_
  refine bG [(0, (eL aG l0)), (1, (.fn (.func by1_f) by1_a by1_c))] ?_
  refine aO ?_
  refine aV aD 7 ?_
  refine bO 2 ?_
  obtain ⟨x5, hx6, h0⟩ := aY h0
  refine dO (JK l0 by1_f by1_a by1_c by1 by1_h _ hx6) hO ?_
  intro H hO
  refine bD ?_
  refine bG [(4, (eL aG x5.1)), (5, (eI x5.2))] ?_
  refine bH ?_
  obtain rfl := oI h0
  exact aI (Q_r hO)

theorem tR (s0 : (List aB)) (r : (List aB)) (h0 : gP s0 = some r) : tJ Try.prog 74 [(eL aP s0)] (fun lo => (.msl 2 lo 0 (List.length r))) 2 (List.map aP r) := by
  intro H0
  refine dD Try.func74 ?_
  have hO := aL.start H0
  unfold gP at h0
  refine aU aD 1 [] [] ?_
  refine aO ?_
  refine aO ?_
  refine aV aD 2 ?_
  refine bO 1 ?_
  refine XB false (List.length s0) (fun i => aP (List.getD s0 i default)) (by kernel_rfl) (by kernel_rfl) ?_
  intro b1 hn2
  refine fI ?_
  refine bS [] [(4, (aF b1))] ?_
  refine mR (b1) (fun hc3 => ?_) (fun hc3 => ?_)
  · replace h0 : some ([] : List aB) = some r := by
      have hl := List.eq_nil_of_length_eq_zero (hn2 hc3)
      rw [hl] at h0
      exact (aW h0).2
    refine cH aD 1 [(2, (.sl true 0 (fun _ => .bad)))] ?_
    refine bH ?_
    refine fV [(2, (.sl true 0 (fun _ => .bad)))] ?_
    refine RT (el := (fun _ => .bad)) 0 2 2 hO (by kernel_rfl) ?_
    intro lo4 H5 hO
    obtain rfl := oI h0
    exact aI (aT (jZ (x := (.msl 2 lo4 0 (List.length ([] : List aB)))) (by kernel_rfl) (aN.refl _) ⟨lo4, rfl, hO⟩))
  · refine bL ?_
    refine bG [(0, (eL aP s0))] ?_
    refine aO ?_
    refine aV aD 4 ?_
    refine oZ (xs := []) (k := 2) (by kernel_rfl) (by kernel_rfl) ?_
    refine bO 2 ?_
    obtain ⟨c7, h0⟩ := aW h0
    refine OF (e := aP) s0 (fun _ => .bad) 2 16 (eL aP s0) (fun lo6 => [(lo6, 2, List.map aP s0)]) (by kernel_rfl) (by kernel_rfl) hO (GX (fun _ => by kernel_rfl)) c7 (fun _ => by kernel_rfl) ?_
    intro lo6 H hO
    refine bD ?_
    refine bG [(2, (.msl 2 lo6 0 (List.length s0)))] ?_
    refine bH ?_
    obtain rfl := oI h0
    exact aI (jZ (x := (.msl 2 lo6 0 (List.length s0))) (by kernel_rfl) (aN.refl _) ⟨lo6, rfl, hO⟩)

theorem NK (f0 : (List aB)) (r : ((List aB) × Int)) (h0 : qW f0 = some r) : dH Try.prog 75 [(eL aP f0)] (.tup [(eL aP r.1), (eI r.2)]) := by
  intro H0
  refine dD Try.func75 ?_
  have hO := aL.start H0
  unfold qW at h0
  refine aU aD 2 [] [] ?_
  refine aO ?_
  refine aO ?_
  refine aV aD 3 ?_
  refine bO 1 ?_
  obtain ⟨x1, hx2, h0⟩ := aY h0
  refine dO (uM f0 _ hx2) hO ?_
  intro H hO
  refine bD ?_
  refine bS [] [(6, (aF (!x1)))] ?_
  refine bM h0 (fun h0 => ?_) (fun h0 => ?_)
  · refine cH aD 2 [(2, (.sl true 0 (fun _ => .bad))), (3, (eI (7 : Int)))] ?_
    refine bH ?_
    refine cW (l := [(2, (eL aP ([]))), (3, (eI (7 : Int)))]) ⟨[(2, (.sl true 0 (fun _ => .bad))), (3, (eI (7 : Int)))], by kernel_rfl, rfl, ⟨kR, aN.refl _, trivial⟩⟩ ?_
    obtain rfl := oI h0
    exact aI (aT (Q_r hO))
  refine bL ?_
  refine bG [(0, (eL aP f0))] ?_
  refine cH aD 3 [(2, (eL aP f0)), (3, (eI (0 : Int)))] ?_
  refine bH ?_
  obtain rfl := oI h0
  exact aI (Q_r hO)

theorem MM (f0 : (List aB)) (t1 : Int) (r : ((List aB) × Int)) (h0 : sD f0 t1 = some r) : dH Try.prog 53 [(eL aP f0), (eI t1)] (.tup [(eL aP r.1), (eI r.2)]) := by
  intro H0
  refine dD Try.func53 ?_
  have hO := aL.start H0
  unfold sD at h0
  refine aU aD 2 [] [] ?_
  refine aO ?_
  refine aO ?_
  refine aV aD 3 ?_
  refine bO 1 ?_
  obtain ⟨x1, hx2, h0⟩ := aY h0
  refine dO (uM f0 _ hx2) hO ?_
  intro H hO
  refine bD ?_
  refine bS [] [(12, (aF (!x1)))] ?_
  refine bM h0 (fun h0 => ?_) (fun h0 => ?_)
  · refine cH aD 2 [(4, (.sl true 0 (fun _ => .bad))), (5, (eI (2 : Int)))] ?_
    refine bH ?_
    refine cW (l := [(4, (eL aP ([]))), (5, (eI (2 : Int)))]) ⟨[(4, (.sl true 0 (fun _ => .bad))), (5, (eI (2 : Int)))], by kernel_rfl, rfl, ⟨kR, aN.refl _, trivial⟩⟩ ?_
    obtain rfl := oI h0
    exact aI (aT (Q_r hO))
  refine bL ?_
  refine bG [(0, (eL aP f0)), (1, (eI t1))] ?_
  refine aO ?_
  refine aU aD 2 [] [(14, (aF (decide ((1125899906842624 : Int) ≤ t1))))] ?_
  refine bM h0 (fun h0 => ?_) (fun h0 => ?_)
  · refine aO ?_
    refine aV aD 4 ?_
    refine bO 1 ?_
    obtain ⟨x6, hx7, h0⟩ := aY h0
    refine YF (L' := fun lo8 => [(lo8, 2, List.map aP x6)]) 2 (List.map aP x6) 74 [(eL aP f0)] (fun lo8 => (.msl 2 lo8 0 (List.length x6))) (by kernel_rfl) (by kernel_rfl) (tR f0 _ hx7) hO (fun _ => by kernel_rfl) ?_
    intro lo8 H hO
    refine bD ?_
    refine bG [(4, (.msl 2 lo8 0 (List.length x6))), (5, (eI (0 : Int)))] ?_
    refine bH ?_
    refine fV [(4, (.msl 2 lo8 0 (List.length x6))), (5, (eI (0 : Int)))] ?_
    refine wA (en := aP) x6 0 0 4 2 lo8 (List.length x6) hO (by kernel_rfl) (by kernel_rfl) (by kernel_rfl) (L' := []) (by kernel_rfl) ?_
    intro H9 hO
    obtain rfl := oI h0
    exact aI (aT (Q_r hO))
  refine bL ?_
  refine bG [(0, (eL aP f0)), (1, (eI t1))] ?_
  refine aO ?_
  refine aV aD 3 ?_
  refine oZ (xs := []) (k := 2) (by kernel_rfl) (by kernel_rfl) ?_
  refine bD ?_
  refine bS [] [(6, (.sl true 0 (fun _ => .bad))), (7, (eI (0 : Int)))] ?_
  refine gM (fun T H => ∃ out6 : List aB, ∃ v7 : Int, ∃ lo10 : Nat, Has T [(1, (eI t1)), (6, (.msl 2 lo10 0 (List.length out6))), (7, (eI v7))] ∧ aL ⟨H0, [], []⟩ H [(lo10, 2, List.map aP out6)] ∧ oM t1 out6 v7 = some r) ?_ ?_
  · clear hO h0
    rintro T H ⟨out6, v7, lo10, hT, hO, h0⟩
    refine bF hT ?_
    clear hT
    unfold oM at h0
    refine gM (fun T H => ∃ out6 : List aB, ∃ lo11 : Nat, Has T [(6, (.msl 2 lo11 0 (List.length out6)))] ∧ aL ⟨H0, [], []⟩ H [(lo11, 2, List.map aP out6)] ∧ qN out6 = some r) ?_ ?_
    · clear hO h0
      rintro T H ⟨out6, lo11, hT, hO, h0⟩
      refine bF hT ?_
      clear hT
      unfold qN at h0
      refine aO ?_
      refine aV aD 6 ?_
      refine IG (e := aP) out6 0 6 2 lo11 (List.length out6) [] (by kernel_rfl) hO (by kernel_rfl) (by kernel_rfl) (by kernel_rfl) (by kernel_rfl) ?_
      intro H hO
      refine bO 1 ?_
      obtain ⟨x12, hx13, h0⟩ := aY h0
      refine dO (NK out6 _ hx13) hO ?_
      intro H hO
      refine bD ?_
      refine bG [(4, (eL aP x12.1)), (5, (eI x12.2))] ?_
      refine bH ?_
      obtain rfl := oI h0
      exact aI (Q_r hO)
    refine aU aD 2 [] [(38, (aF (!decide (v7 = (0 : Int)))))] ?_
    refine bM h0 (fun h0 => ?_) (fun h0 => ?_)
    · refine aV aD 8 ?_
      refine bO 5 ?_
      refine oZ (xs := [(aP (aB.mk t1 (wR (0 - v7))))]) (k := 2) (by kernel_rfl) (by kernel_rfl) ?_
      obtain ⟨c17, h0⟩ := aW h0
      refine wZ (e := aP) out6 ([aB.mk t1 (wR (0 - v7))]) 0 lo10 2 16 (kN [(aP (aB.mk t1 (wR (0 - v7))))]) (fun lo16 => [(lo16, 2, List.map aP (out6 ++ ([aB.mk t1 (wR (0 - v7))])))]) (by kernel_rfl) (by kernel_rfl) hO (by kernel_rfl) (by kernel_rfl) c17 (fun _ => by kernel_rfl) ?_
      intro lo16 H hO
      refine bD ?_
      exact aI (aH (⟨rfl, _, _, .eq (by kernel_rfl), hO, h0⟩))
    refine bL ?_
    exact aI (aH (⟨rfl, _, _, .eq (by kernel_rfl), hO, h0⟩))
  refine aU aD 3 [0] [(18, (eL aP f0)), (19, (eI (lN f0))), (20, (eI (0 : Int)))] ?_
  refine cG 0 ?_
  refine fW [(1, (eI t1)), (6, (.sl true 0 (fun _ => .bad))), (7, (eI (0 : Int))), (18, (eL aP f0)), (19, (eI (lN f0))), (20, (eI (0 : Int)))] ?_
  refine ES (el := (fun _ => .bad)) 1 6 2 hO (by kernel_rfl) ?_
  intro lo26 H27 hO
  refine eS (fun T H => ∃ out6 : List aB, ∃ v7 : Int, ∃ t18 : (List aB), ∃ t19 : Int, ∃ t20 : Int, ∃ lo19 : Nat, Has T [(1, (eI t1)), (6, (.msl 2 lo19 0 (List.length out6))), (7, (eI v7)), (18, (eL aP t18)), (19, (eI t19)), (20, (eI t20))] ∧ aL ⟨H0, [], []⟩ H [(lo19, 2, List.map aP out6)] ∧ tE t1 out6 v7 t18 t19 t20 = some r) ?_ ⟨([] : List aB), (0 : Int), f0, (lN f0), (0 : Int), lo26, .eq (by kernel_rfl), hO, h0⟩
  clear hO h0
  rintro T H ⟨out6, v7, t18, t19, t20, lo19, hT, hO, h0⟩
  refine bF hT ?_
  clear hT
  unfold tE at h0
  obtain ⟨rr0, hl0, h0⟩ := aY h0
  refine dF (by kernel_rfl) (fun (s : List aB × Int × Int) T H => ∃ lo19 : Nat, Has T [(1, (eI t1)), (6, (.msl 2 lo19 0 (List.length s.1))), (7, (eI s.2.1)), (18, (eL aP t18)), (19, (eI t19)), (20, (eI s.2.2))] ∧ aL ⟨H0, [], []⟩ H [(lo19, 2, List.map aP s.1)]) hl0 ⟨lo19, .eq (by kernel_rfl), hO⟩ ?_
  clear hO
  rintro k0 s out1 T H ⟨lo19, hT, hO⟩ h1 ho0
  obtain ⟨out6, v7, t20⟩ := s
  replace h1 : kI t1 t18 t19 out6 v7 t20 = some out1 := h1
  try dsimp only at hT
  refine bF hT ?_
  clear hT
  unfold kI at h1
  refine aU aD 1 [] [(21, (aF (decide (t20 < t19))))] ?_
  refine aO ?_
  refine bM h1 (fun h1 => ?_) (fun h1 => ?_)
  · refine bL ?_
    refine bG [(1, (eI t1)), (6, (.msl 2 lo19 0 (List.length out6))), (7, (eI v7)), (18, (eL aP t18)), (19, (eI t19)), (20, (eI t20))] ?_
    refine aO ?_
    refine cG 1 ?_
    refine aO ?_
    refine aV aD 4 ?_
    obtain ⟨c21, h1⟩ := aW h1
    refine uB 2 [0 ≤ t20 ∧ t20 < (lN t18)] ⟨c21, trivial⟩ ?_
    refine oV 2 (aP (aB.mk 0 0)) (by kernel_rfl) (by kernel_rfl) hO ?_
    intro lo22 H hO
    refine lO 1 lo22 2 0 (aP (aB.mk 0 0)) (aP (gD t18 t20)) [(aP (aB.mk 0 0))] [(lo19, 2, List.map aP out6), (lo22, 2, [(aP (gD t18 t20))])] hO rfl (by kernel_rfl) ?_
    intro H hO
    refine fI ?_
    refine bS [] [(9, (.lp lo22 0 0))] ?_
    refine aO ?_
    refine aO ?_
    refine aV aD 4 ?_
    refine bO 1 ?_
    refine nR 1 lo22 2 0 (aP (gD t18 t20)) (eI ((gD t18 t20).At)) [(aP (gD t18 t20))] hO rfl ?_
    refine bD ?_
    refine bS [] [(27, (aF (decide (t1 ≤ ((gD t18 t20).At)))))] ?_
    refine bM h1 (fun h1 => ?_) (fun h1 => ?_)
    · refine gZ 0 ?_
      replace hO := hO.pick (L' := [(lo19, 2, List.map aP out6)]) [0] (by decide) (by kernel_rfl)
      obtain rfl := oI h1
      obtain rfl : _ = rr0 := ho0
      replace h0 : oM t1 out6 v7 = some r := h0
      exact aI (aX (qZ (by kernel_rfl) (aX (aX (bX (aH (⟨rfl, _, _, _, .eq (by kernel_rfl), hO, h0⟩)))))))
    refine bL ?_
    refine bG [(1, (eI t1)), (6, (.msl 2 lo19 0 (List.length out6))), (7, (eI v7)), (9, (.lp lo22 0 0)), (18, (eL aP t18)), (19, (eI t19)), (20, (eI t20))] ?_
    refine aO ?_
    refine aV aD 5 ?_
    refine bO 1 ?_
    refine nR 1 lo22 2 0 (aP (gD t18 t20)) (aP (gD t18 t20)) [(aP (gD t18 t20))] hO rfl ?_
    refine oZ (xs := [(aP (gD t18 t20))]) (k := 2) (by kernel_rfl) (by kernel_rfl) ?_
    obtain ⟨c25, h1⟩ := aW h1
    refine wZ (e := aP) out6 ([gD t18 t20]) 0 lo19 2 16 (kN [(aP (gD t18 t20))]) (fun lo24 => [(lo24, 2, List.map aP (out6 ++ ([gD t18 t20]))), (lo22, 2, [(aP (gD t18 t20))])]) (by kernel_rfl) (by kernel_rfl) hO (by kernel_rfl) (by kernel_rfl) c25 (fun _ => by kernel_rfl) ?_
    intro lo24 H hO
    refine bD ?_
    refine bS [6] [(6, (.msl 2 lo24 0 (List.length (out6 ++ ([gD t18 t20])))))] ?_
    refine aV aD 5 ?_
    refine bO 2 ?_
    refine nR 1 lo22 2 0 (aP (gD t18 t20)) (eI ((gD t18 t20).Net)) [(aP (gD t18 t20))] hO rfl ?_
    refine bD ?_
    refine fV [(1, (eI t1)), (6, (.msl 2 lo24 0 (List.length (out6 ++ ([gD t18 t20]))))), (7, (eI (wR (v7 + ((gD t18 t20).Net))))), (18, (eL aP t18)), (19, (eI t19)), (20, (eI t20))] ?_
    replace hO := hO.pick (L' := [(lo24, 2, List.map aP (out6 ++ ([gD t18 t20])))]) [0] (by decide) (by kernel_rfl)
    refine aI (aZ (aH (?_)))
    refine aV aD 2 ?_
    refine bD ?_
    exact aI (aH (⟨rfl, _, (oI h1).symm, _, .eq (by kernel_rfl), hO⟩))
  refine gZ 0 ?_
  obtain rfl := oI h1
  obtain rfl : _ = rr0 := ho0
  replace h0 : oM t1 out6 v7 = some r := h0
  exact aI (aX (aX (bX (aH (⟨rfl, _, _, _, .eq (by kernel_rfl), hO, h0⟩)))))

theorem HC (f0 : (List aB)) (t1 : Int) (r : ((List aB) × Int)) (h0 : nL f0 t1 = some r) : dH Try.prog 52 [(eL aP f0), (.rp (eI t1))] (.tup [(eL aP r.1), (eI r.2)]) := by
  intro H0
  refine dD Try.func52 ?_
  have hO := aL.start H0
  unfold nL at h0
  refine aU aD 2 [] [] ?_
  refine aO ?_
  refine aV aD 7 ?_
  refine bO 2 ?_
  obtain ⟨x1, hx2, h0⟩ := aY h0
  refine dO (MM f0 t1 _ hx2) hO ?_
  intro H hO
  refine bD ?_
  refine bG [(3, (eL aP x1.1)), (4, (eI x1.2))] ?_
  refine bH ?_
  obtain rfl := oI h0
  exact aI (Q_r hO)

theorem BR (l0 : (List aE)) (t1 : Int) (r : ((List aE) × Int)) (h0 : pJ l0 t1 = some r) : dH Try.prog 27 [(eL aG l0), (eI t1)] (.tup [(eL aG r.1), (eI r.2)]) := by
  intro H0
  refine dD Try.func27 ?_
  have hO := aL.start H0
  unfold pJ at h0
  refine aO ?_
  refine aV aD 3 ?_
  refine qM 1 (eI t1) (by kernel_rfl) (by kernel_rfl) ?_
  refine bD ?_
  refine bS [1] [(3, (.rp (eI t1)))] ?_
  refine aO ?_
  refine aV aD 7 ?_
  refine bO 2 ?_
  obtain ⟨x1, hx2, h0⟩ := aY h0
  refine dO (QW l0 52 [] [(.rp (eI t1))] (fun y0 => nL y0 t1) (fun y0 r h => HC y0 t1 r h) _ hx2) hO ?_
  intro H hO
  refine bD ?_
  refine bG [(4, (eL aG x1.1)), (5, (eI x1.2))] ?_
  refine bH ?_
  obtain rfl := oI h0
  exact aI (Q_r hO)

theorem MT (a0 : (List aE)) (b1 : (List aE)) (r : Bool) (h0 : rP a0 b1 = some r) : dH Try.prog 28 [(eL aG a0), (eL aG b1)] (aF r) := by
  intro H0
  refine dD Try.func28 ?_
  have hO := aL.start H0
  unfold rP at h0
  refine aU aD 1 [] [] ?_
  refine aO ?_
  refine aU aD 5 [] [(10, (aF (!decide ((lN a0) = (lN b1)))))] ?_
  refine bM h0 (fun h0 => ?_) (fun h0 => ?_)
  · refine cH aD 1 [(4, (aF false))] ?_
    refine bH ?_
    obtain rfl := oI h0
    exact aI (aT (Q_r hO))
  refine bL ?_
  refine bG [(0, (eL aG a0)), (1, (eL aG b1))] ?_
  refine gM (fun T H => Has T [] ∧ aL ⟨H0, [], []⟩ H [] ∧ qK  = some r) ?_ ?_
  · clear hO h0
    rintro T H ⟨hT, hO, h0⟩
    refine bF hT ?_
    clear hT
    unfold qK at h0
    refine cH aD 1 [(4, (aF true))] ?_
    refine bH ?_
    obtain rfl := oI h0
    exact aI (Q_r hO)
  refine aU aD 1 [] [(5, (eI (0 : Int)))] ?_
  refine cG 0 ?_
  refine fW [(0, (eL aG a0)), (1, (eL aG b1)), (5, (eI (0 : Int)))] ?_
  refine eS (fun T H => ∃ i5 : Int, Has T [(0, (eL aG a0)), (1, (eL aG b1)), (5, (eI i5))] ∧ aL ⟨H0, [], []⟩ H [] ∧ tD a0 b1 i5 = some r) ?_ ⟨(0 : Int), .eq (by kernel_rfl), hO, h0⟩
  clear hO h0
  rintro T H ⟨i5, hT, hO, h0⟩
  refine bF hT ?_
  clear hT
  unfold tD at h0
  obtain ⟨rr0, hl0, h0⟩ := aY h0
  refine dF (by kernel_rfl) (fun (s : Int) T H => Has T [(0, (eL aG a0)), (1, (eL aG b1)), (5, (eI s))] ∧ aL ⟨H0, [], []⟩ H []) hl0 ⟨.eq (by kernel_rfl), hO⟩ ?_
  clear hO
  rintro k0 s out1 T H ⟨hT, hO⟩ h1 ho0
  obtain ⟨i5, rfl⟩ : ∃ x, x = s := ⟨_, rfl⟩
  replace h1 : oL a0 b1 i5 = some out1 := h1
  refine bF hT ?_
  clear hT
  unfold oL at h1
  refine aO ?_
  refine aU aD 4 [] [(14, (aF (decide (i5 < (lN a0)))))] ?_
  refine bM h1 (fun h1 => ?_) (fun h1 => ?_)
  · refine bL ?_
    refine bG [(0, (eL aG a0)), (1, (eL aG b1)), (5, (eI i5))] ?_
    refine aO ?_
    refine cG 1 ?_
    refine aO ?_
    obtain ⟨c3, h1⟩ := aW h1
    obtain ⟨c4, h1⟩ := aW h1
    obtain ⟨c5, h1⟩ := aW h1
    obtain ⟨c6, h1⟩ := aW h1
    obtain ⟨c7, h1⟩ := aW h1
    obtain ⟨c8, h1⟩ := aW h1
    obtain ⟨x9, hx10, h1⟩ := aY h1
    refine fG (fH [21, 26, 33, 38, 46, 51]) aD 38 ?_
    refine nV (K := fun T H => Has (lift T) [(0, (eL aG a0)), (1, (eL aG b1)), (5, (eI i5)), (54, (aF (((!decide (((gD a0 i5).At) = ((gD b1 i5).At))) || (!decide (((gD a0 i5).Net) = ((gD b1 i5).Net)))) || (!x9))))] ∧ aL ⟨H0, [], []⟩ H []) ?_ ?_
    · refine cA 12 [0 ≤ i5 ∧ i5 < (lN a0), 0 ≤ i5 ∧ i5 < (lN b1)] ⟨c3, c4, trivial⟩ ?_
      refine mH (t := 28) (e := !decide (((gD a0 i5).At) = ((gD b1 i5).At))) (by kernel_rfl) (fun hg11 => ?_) (fun hg11 => ?_)
      · refine jC ?_
        exact ⟨⟨[(0, (eL aG a0)), (1, (eL aG b1)), (5, (eI i5)), (54, (aF true))], by kernel_rfl, rfl, ⟨aN.refl _, aN.refl _, aN.refl _, aN.eq (congrArg aF (vC (vC hg11 rfl) rfl).symm), trivial⟩⟩, hO⟩
      refine cA 25 [0 ≤ i5 ∧ i5 < (lN a0), 0 ≤ i5 ∧ i5 < (lN b1)] ⟨(c5 (tW hg11)), (c6 (tW hg11)), trivial⟩ ?_
      refine mH (t := 41) (e := !decide (((gD a0 i5).Net) = ((gD b1 i5).Net))) (by kernel_rfl) (fun hg12 => ?_) (fun hg12 => ?_)
      · refine jC ?_
        exact ⟨⟨[(0, (eL aG a0)), (1, (eL aG b1)), (5, (eI i5)), (54, (aF true))], by kernel_rfl, rfl, ⟨aN.refl _, aN.refl _, aN.refl _, aN.eq (congrArg aF (vC (vC hg11 hg12) rfl).symm), trivial⟩⟩, hO⟩
      refine cA 35 [0 ≤ i5 ∧ i5 < (lN a0), 0 ≤ i5 ∧ i5 < (lN b1)] ⟨(c7 (tW (vC hg11 hg12))), (c8 (tW (vC hg11 hg12))), trivial⟩ ?_
      refine mV 42 [(eL aK ((gD a0 i5).Row)), (eL aK ((gD b1 i5).Row))] (aF x9) (by kernel_rfl) (by kernel_rfl) (BY ((gD a0 i5).Row) ((gD b1 i5).Row) _ (iZ hx10 (tW (vC hg11 hg12)))) hO ?_
      intro H hO
      refine jC ?_
      exact ⟨⟨[(0, (eL aG a0)), (1, (eL aG b1)), (5, (eI i5)), (54, (aF (!x9)))], by kernel_rfl, rfl, ⟨aN.refl _, aN.refl _, aN.refl _, aN.eq (congrArg aF (vC (vC hg11 hg12) rfl).symm), trivial⟩⟩, hO⟩
    · rintro T H ⟨hT, hO⟩
      refine cW hT ?_
      clear hT
      refine aI (aH ?_)
      refine bM h1 (fun h1 => ?_) (fun h1 => ?_)
      · refine cH aD 1 [(4, (aF false))] ?_
        refine bH ?_
        obtain rfl := oI h1
        obtain rfl : _ = rr0 := ho0
        replace h0 : some false = some r := h0
        obtain rfl := oI h0
        exact aI (bN (aT (aT (bN (aT (Q_r hO))))))
      refine bL ?_
      refine fV [(0, (eL aG a0)), (1, (eL aG b1)), (5, (eI i5))] ?_
      refine aI (aZ (aH (?_)))
      refine aV aD 3 ?_
      refine bD ?_
      exact aI (aH (⟨rfl, _, (oI h1).symm, .eq (by kernel_rfl), hO⟩))
  refine gZ 0 ?_
  obtain rfl := oI h1
  obtain rfl : _ = rr0 := ho0
  replace h0 : qK  = some r := h0
  exact aI (aX (aX (bX (aH (⟨rfl, .eq (by kernel_rfl), hO, h0⟩)))))

theorem AN (l0 : (List aR)) (t1 : Int) (r : (List aR)) (h0 : oK l0 t1 = some r) : dH Try.prog 29 [(eL aS l0), (eI t1)] (eL aS r) := by
  intro H0
  refine dD Try.func29 ?_
  have hO := aL.start H0
  unfold oK at h0
  refine aU aD 1 [] [] ?_
  refine aO ?_
  refine aV aD 2 ?_
  refine oZ (xs := []) (k := 3) (by kernel_rfl) (by kernel_rfl) ?_
  refine bD ?_
  refine bS [] [(5, (.sl true 0 (fun _ => .bad)))] ?_
  refine gM (fun T H => ∃ out5 : List aR, ∃ lo1 : Nat, Has T [(5, (.msl 3 lo1 0 (List.length out5)))] ∧ aL ⟨H0, [], []⟩ H [(lo1, 3, List.map aS out5)] ∧ pO out5 = some r) ?_ ?_
  · clear hO h0
    rintro T H ⟨out5, lo1, hT, hO, h0⟩
    refine bF hT ?_
    clear hT
    unfold pO at h0
    refine cH aD 2 [(4, (.msl 3 lo1 0 (List.length out5)))] ?_
    refine bH ?_
    refine fV [(4, (.msl 3 lo1 0 (List.length out5)))] ?_
    refine wA (en := aS) out5 0 0 4 3 lo1 (List.length out5) hO (by kernel_rfl) (by kernel_rfl) (by kernel_rfl) (L' := []) (by kernel_rfl) ?_
    intro H2 hO
    obtain rfl := oI h0
    exact aI (Q_r hO)
  refine aU aD 1 [] [(6, (eI (0 : Int)))] ?_
  refine cG 0 ?_
  refine fW [(0, (eL aS l0)), (1, (eI t1)), (5, (.sl true 0 (fun _ => .bad))), (6, (eI (0 : Int)))] ?_
  refine ES (el := (fun _ => .bad)) 2 5 3 hO (by kernel_rfl) ?_
  intro lo12 H13 hO
  refine eS (fun T H => ∃ out5 : List aR, ∃ i6 : Int, ∃ lo4 : Nat, Has T [(0, (eL aS l0)), (1, (eI t1)), (5, (.msl 3 lo4 0 (List.length out5))), (6, (eI i6))] ∧ aL ⟨H0, [], []⟩ H [(lo4, 3, List.map aS out5)] ∧ sO l0 t1 out5 i6 = some r) ?_ ⟨([] : List aR), (0 : Int), lo12, .eq (by kernel_rfl), hO, h0⟩
  clear hO h0
  rintro T H ⟨out5, i6, lo4, hT, hO, h0⟩
  refine bF hT ?_
  clear hT
  unfold sO at h0
  obtain ⟨rr0, hl0, h0⟩ := aY h0
  refine dF (by kernel_rfl) (fun (s : List aR × Int) T H => ∃ lo4 : Nat, Has T [(0, (eL aS l0)), (1, (eI t1)), (5, (.msl 3 lo4 0 (List.length s.1))), (6, (eI s.2))] ∧ aL ⟨H0, [], []⟩ H [(lo4, 3, List.map aS s.1)]) hl0 ⟨lo4, .eq (by kernel_rfl), hO⟩ ?_
  clear hO
  rintro k0 s out1 T H ⟨lo4, hT, hO⟩ h1 ho0
  obtain ⟨out5, i6⟩ := s
  replace h1 : mB l0 t1 out5 i6 = some out1 := h1
  try dsimp only at hT
  refine bF hT ?_
  clear hT
  unfold mB at h1
  refine aO ?_
  refine aU aD 4 [] [(11, (aF (decide (i6 < (lN l0)))))] ?_
  refine bM h1 (fun h1 => ?_) (fun h1 => ?_)
  · refine bL ?_
    refine bG [(0, (eL aS l0)), (1, (eI t1)), (5, (.msl 3 lo4 0 (List.length out5))), (6, (eI i6))] ?_
    refine gM (fun T H => ∃ out5 : List aR, ∃ lo6 : Nat, Has T [(0, (eL aS l0)), (1, (eI t1)), (5, (.msl 3 lo6 0 (List.length out5))), (6, (eI i6))] ∧ aL ⟨H0, [], []⟩ H [(lo6, 3, List.map aS out5)] ∧ nO l0 t1 out5 i6 = some out1) ?_ ?_
    · clear hO h1
      rintro T H ⟨out5, lo6, hT, hO, h1⟩
      refine bF hT ?_
      clear hT
      unfold nO at h1
      refine aV aD 3 ?_
      refine bD ?_
      exact aI (aH (⟨rfl, _, (oI h1).symm, _, .eq (by kernel_rfl), hO⟩))
    refine cG 1 ?_
    refine aO ?_
    refine aV aD 8 ?_
    obtain ⟨c7, h1⟩ := aW h1
    refine nG [0 ≤ i6 ∧ i6 < (lN l0)] ⟨c7, trivial⟩ ?_
    refine bS [] [(21, (aF (decide ((((gD l0 i6).Span).From) < t1))))] ?_
    refine bM h1 (fun h1 => ?_) (fun h1 => ?_)
    · refine aV aD 8 ?_
      obtain ⟨c9, h1⟩ := aW h1
      refine uB 5 [0 ≤ i6 ∧ i6 < (lN l0)] ⟨c9, trivial⟩ ?_
      refine oZ (xs := [(aS (gD l0 i6))]) (k := 3) (by kernel_rfl) (by kernel_rfl) ?_
      obtain ⟨c11, h1⟩ := aW h1
      refine wZ (e := aS) out5 ([gD l0 i6]) 0 lo4 3 40 (kN [(aS (gD l0 i6))]) (fun lo10 => [(lo10, 3, List.map aS (out5 ++ ([gD l0 i6])))]) (by kernel_rfl) (by kernel_rfl) hO (by kernel_rfl) (by kernel_rfl) c11 (fun _ => by kernel_rfl) ?_
      intro lo10 H hO
      refine bD ?_
      exact aI (aZ (aH (⟨rfl, _, _, .eq (by kernel_rfl), hO, h1⟩)))
    refine bL ?_
    exact aI (aZ (aH (⟨rfl, _, _, .eq (by kernel_rfl), hO, h1⟩)))
  refine gZ 0 ?_
  obtain rfl := oI h1
  obtain rfl : _ = rr0 := ho0
  replace h0 : pO out5 = some r := h0
  exact aI (aX (aX (bX (aH (⟨rfl, _, _, .eq (by kernel_rfl), hO, h0⟩)))))

theorem zC (l0 : (List aE)) (m1 : (List aE)) (n2 : Int) (t3 : Int) (r : Bool) (h0 : nA l0 m1 n2 t3 = some r) : dH Try.prog 8 [(eL aG l0), (eL aG m1), (eI n2), (eI t3)] (aF r) := by
  intro H0
  refine dD Try.func8 ?_
  have hO := aL.start H0
  unfold nA at h0
  refine aU aD 1 [] [] ?_
  refine aO ?_
  refine aV aD 8 ?_
  refine bO 2 ?_
  obtain ⟨x1, hx2, h0⟩ := aY h0
  refine dO (BR l0 t3 _ hx2) hO ?_
  intro H hO
  refine bD ?_
  refine bS [] [(9, (eL aG x1.1)), (10, (eI x1.2))] ?_
  refine aO ?_
  refine aV aD 8 ?_
  refine bO 2 ?_
  obtain ⟨x4, hx5, h0⟩ := aY h0
  refine dO (BR m1 t3 _ hx5) hO ?_
  intro H hO
  refine bD ?_
  refine bS [] [(11, (eL aG x4.1)), (12, (eI x4.2))] ?_
  refine aO ?_
  refine aO ?_
  refine aV aD 16 ?_
  refine bO 9 ?_
  obtain ⟨x7, hx8, h0⟩ := aY h0
  refine mW [(41, false)] 28 [(eL aG x1.1), (eL aG x4.1)] (aF x7) (!((!decide (x1.2 = (0 : Int))) || (!decide (x4.2 = (0 : Int))))) (by kernel_rfl) (by kernel_rfl) (by kernel_rfl) (fun hb9 => (MT x1.1 x4.1 _ (iZ hx8 hb9))) hO ?_
  intro H hO
  refine bD ?_
  refine bS [9, 10, 11, 12] [(50, (aF ((((!decide (x1.2 = (0 : Int))) || (!decide (x4.2 = (0 : Int)))) || (!x7)) || (decide ((1125899906842624 : Int) ≤ t3)))))] ?_
  refine bM h0 (fun h0 => ?_) (fun h0 => ?_)
  · refine aO ?_
    refine aV aD 2 ?_
    obtain ⟨x11, hx12, h0⟩ := aY h0
    refine dO (uI  _ hx12) hO ?_
    intro H hO
    refine bD ?_
    refine bG [(8, (aF x11))] ?_
    refine bH ?_
    obtain rfl := oI h0
    exact aI (aT (Q_r hO))
  refine bL ?_
  refine bG [(0, (eL aG l0)), (1, (eL aG m1)), (2, (eI n2)), (3, (eI t3))] ?_
  refine aO ?_
  refine aV aD 9 ?_
  refine bO 3 ?_
  obtain ⟨x14, hx15, h0⟩ := aY h0
  refine dO (wD l0 n2 t3 _ hx15) hO ?_
  intro H hO
  refine bD ?_
  refine bS [] [(13, (eI x14.1)), (14, (eI x14.2))] ?_
  refine aO ?_
  refine aV aD 9 ?_
  refine bO 3 ?_
  obtain ⟨x17, hx18, h0⟩ := aY h0
  refine dO (wD m1 n2 t3 _ hx18) hO ?_
  intro H hO
  refine bD ?_
  refine bS [] [(15, (eI x17.1)), (16, (eI x17.2))] ?_
  refine aO ?_
  refine aU aD 6 [14, 16] [(71, (aF ((!decide (x14.2 = (0 : Int))) || (!decide (x17.2 = (0 : Int))))))] ?_
  refine bM h0 (fun h0 => ?_) (fun h0 => ?_)
  · refine aO ?_
    refine aV aD 2 ?_
    obtain ⟨x21, hx22, h0⟩ := aY h0
    refine dO (uI  _ hx22) hO ?_
    intro H hO
    refine bD ?_
    refine bG [(8, (aF x21))] ?_
    refine bH ?_
    obtain rfl := oI h0
    exact aI (aT (Q_r hO))
  refine bL ?_
  refine bG [(0, (eL aG l0)), (1, (eL aG m1)), (2, (eI n2)), (3, (eI t3)), (13, (eI x14.1)), (15, (eI x17.1))] ?_
  refine aO ?_
  refine aV aD 8 ?_
  refine bO 2 ?_
  obtain ⟨x24, hx25, h0⟩ := aY h0
  refine dO (uS l0 n2 (0 : Int) _ hx25) hO ?_
  intro H hO
  refine bD ?_
  refine bS [0] [(17, (eL aS x24.1)), (18, (eI x24.2))] ?_
  refine aO ?_
  refine aV aD 8 ?_
  refine bO 2 ?_
  obtain ⟨x27, hx28, h0⟩ := aY h0
  refine dO (uS m1 n2 (0 : Int) _ hx28) hO ?_
  intro H hO
  refine bD ?_
  refine bS [1, 2] [(19, (eL aS x27.1)), (20, (eI x27.2))] ?_
  refine aO ?_
  refine aU aD 8 [15] [(92, (aF ((!decide (x14.1 = x17.1)) || (decide (t3 < x14.1)))))] ?_
  refine bM h0 (fun h0 => ?_) (fun h0 => ?_)
  · refine cH aD 1 [(8, (aF false))] ?_
    refine bH ?_
    obtain rfl := oI h0
    exact aI (aT (Q_r hO))
  refine bL ?_
  refine bG [(3, (eI t3)), (13, (eI x14.1)), (17, (eL aS x24.1)), (18, (eI x24.2)), (19, (eL aS x27.1)), (20, (eI x27.2))] ?_
  refine aO ?_
  refine aU aD 6 [18, 20] [(98, (aF ((!decide (x24.2 = (0 : Int))) || (!decide (x27.2 = (0 : Int))))))] ?_
  refine bM h0 (fun h0 => ?_) (fun h0 => ?_)
  · refine aO ?_
    refine aV aD 2 ?_
    obtain ⟨x32, hx33, h0⟩ := aY h0
    refine dO (uI  _ hx33) hO ?_
    intro H hO
    refine bD ?_
    refine bG [(8, (aF x32))] ?_
    refine bH ?_
    obtain rfl := oI h0
    exact aI (aT (Q_r hO))
  refine bL ?_
  refine bG [(3, (eI t3)), (13, (eI x14.1)), (17, (eL aS x24.1)), (19, (eL aS x27.1))] ?_
  refine aO ?_
  refine aV aD 4 ?_
  refine bO 2 ?_
  obtain ⟨x35, hx36, h0⟩ := aY h0
  refine dO (AN x24.1 x14.1 _ hx36) hO ?_
  intro H hO
  refine bD ?_
  refine bS [17] [(21, (eL aS x35))] ?_
  refine gM (fun T H => ∃ a13 : Int, ∃ q19 : (List aR), ∃ gU : (List aR), Has T [(13, (eI a13)), (19, (eL aS q19)), (21, (eL aS gU))] ∧ aL ⟨H0, [], []⟩ H [] ∧ kT a13 q19 gU = some r) ?_ ?_
  · clear hO h0
    rintro T H ⟨a13, q19, gU, hT, hO, h0⟩
    refine bF hT ?_
    clear hT
    unfold kT at h0
    refine aO ?_
    refine aV aD 9 ?_
    obtain ⟨x38, hx39, h0⟩ := aY h0
    refine dO (uI  _ hx39) hO ?_
    intro H hO
    refine bO 5 ?_
    obtain ⟨x41, hx42, h0⟩ := aY h0
    refine mW [(118, true)] 29 [(eL aS q19), (eI a13)] (eL aS x41) x38 (by kernel_rfl) (by kernel_rfl) (by kernel_rfl) (fun hb43 => (AN q19 a13 _ (iZ hx42 hb43))) hO ?_
    intro H hO
    obtain ⟨x44, hx45, h0⟩ := aY h0
    refine mW [(118, true)] 16 [(eL aS gU), (eL aS x41)] (aF x44) x38 (by kernel_rfl) (by kernel_rfl) (by kernel_rfl) (fun hb46 => (KW gU x41 _ (iZ hx45 hb46))) hO ?_
    intro H hO
    refine bD ?_
    refine bG [(8, (aF (x38 && x44)))] ?_
    refine bH ?_
    obtain rfl := oI h0
    exact aI (Q_r hO)
  refine aU aD 1 [] [(22, (eI (0 : Int)))] ?_
  refine cG 0 ?_
  refine fW [(3, (eI t3)), (13, (eI x14.1)), (19, (eL aS x27.1)), (21, (eL aS x35)), (22, (eI (0 : Int)))] ?_
  refine eS (fun T H => ∃ a13 : Int, ∃ q19 : (List aR), ∃ gU : (List aR), ∃ k22 : Int, Has T [(3, (eI t3)), (13, (eI a13)), (19, (eL aS q19)), (21, (eL aS gU)), (22, (eI k22))] ∧ aL ⟨H0, [], []⟩ H [] ∧ mO t3 a13 q19 gU k22 = some r) ?_ ⟨x14.1, x27.1, x35, (0 : Int), .eq (by kernel_rfl), hO, h0⟩
  clear hO h0
  rintro T H ⟨a13, q19, gU, k22, hT, hO, h0⟩
  refine bF hT ?_
  clear hT
  unfold mO at h0
  obtain ⟨rr0, hl0, h0⟩ := aY h0
  refine dF (by kernel_rfl) (fun (s : Int) T H => Has T [(3, (eI t3)), (13, (eI a13)), (19, (eL aS q19)), (21, (eL aS gU)), (22, (eI s))] ∧ aL ⟨H0, [], []⟩ H []) hl0 ⟨.eq (by kernel_rfl), hO⟩ ?_
  clear hO
  rintro k0 s out1 T H ⟨hT, hO⟩ h1 ho0
  obtain ⟨k22, rfl⟩ : ∃ x, x = s := ⟨_, rfl⟩
  replace h1 : jH t3 a13 q19 gU k22 = some out1 := h1
  refine bF hT ?_
  clear hT
  unfold jH at h1
  refine aO ?_
  refine aU aD 4 [] [(106, (aF (decide (k22 < (lN gU)))))] ?_
  refine bM h1 (fun h1 => ?_) (fun h1 => ?_)
  · refine bL ?_
    refine bG [(3, (eI t3)), (13, (eI a13)), (19, (eL aS q19)), (21, (eL aS gU)), (22, (eI k22))] ?_
    refine aO ?_
    refine cG 1 ?_
    refine aO ?_
    refine aV aD 8 ?_
    obtain ⟨c48, h1⟩ := aW h1
    refine nG [0 ≤ k22 ∧ k22 < (lN gU)] ⟨c48, trivial⟩ ?_
    refine bS [] [(116, (aF (decide (t3 < (((gD gU k22).Span).To)))))] ?_
    refine bM h1 (fun h1 => ?_) (fun h1 => ?_)
    · refine cH aD 1 [(8, (aF false))] ?_
      refine bH ?_
      obtain rfl := oI h1
      obtain rfl : _ = rr0 := ho0
      replace h0 : some false = some r := h0
      obtain rfl := oI h0
      exact aI (bN (aT (aT (bN (aT (Q_r hO))))))
    refine bL ?_
    refine fV [(3, (eI t3)), (13, (eI a13)), (19, (eL aS q19)), (21, (eL aS gU)), (22, (eI k22))] ?_
    refine aI (aZ (aH (?_)))
    refine aV aD 3 ?_
    refine bD ?_
    exact aI (aH (⟨rfl, _, (oI h1).symm, .eq (by kernel_rfl), hO⟩))
  refine gZ 0 ?_
  obtain rfl := oI h1
  obtain rfl : _ = rr0 := ho0
  replace h0 : kT a13 q19 gU = some r := h0
  exact aI (aX (aX (bX (aH (⟨rfl, _, _, _, .eq (by kernel_rfl), hO, h0⟩)))))

end Go.Abs
namespace Go.Abs
open Go Go.RowKit Go.Proofs
theorem BU {H : Type} {enc : TypeId × Value → H} {w : World} : uG enc Try.prog w 53 aK xK :=
  BN Try.underlying53 (by kernel_rfl) (qT (c' := DF) (ok' := xK) (fun (a : Int) (b : Int × ByteArray × Unit) => (aC.mk a b.1 b.2.1 : aC)) (by kernel_rfl) (yD Try.underlying51) (qT (c' := fun (b : Int × ByteArray × Unit) => (V.cells (cP .i64 b.1) ++ (V.cells (uX b.2.1) ++ []))) (ok' := fun b => (uY b.1 ∧ ((fun s => s.size ≤ maxLen) b.2.1 ∧ True))) (fun a b => (a, b)) (by kernel_rfl) (yD Try.underlying3) (qT (c' := fun (b : ByteArray × Unit) => (V.cells (uX b.1) ++ [])) (ok' := fun b => ((fun s => s.size ≤ maxLen) b.1 ∧ True)) (fun a b => (a, b)) (by kernel_rfl) (MH Try.underlying9) (FX ()) (fun _ _ => rfl) (fun _ _ h1 h2 => ⟨h1, h2⟩)) (fun _ _ => rfl) (fun _ _ h1 h2 => ⟨h1, h2⟩)) (fun _ _ => rfl) (fun _ _ h1 h2 => ⟨h1, h2⟩))

theorem wI {H : Type} {enc : TypeId × Value → H} {w : World} : uG enc Try.prog w 57 aG oW :=
  BN Try.underlying57 (by kernel_rfl) (qT (c' := GH) (ok' := oW) (fun (a : (List aC)) (b : Int × Int × Unit) => (aE.mk a b.1 b.2.1 : aE)) (by kernel_rfl) (NN Try.underlying55 (by decide +kernel) (fun _ => by kernel_rfl) (fun _ => rfl) BU (by kernel_rfl)) (qT (c' := fun (b : Int × Int × Unit) => (V.cells (cP .i64 b.1) ++ (V.cells (cP .i64 b.2.1) ++ []))) (ok' := fun b => (uY b.1 ∧ (uY b.2.1 ∧ True))) (fun a b => (a, b)) (by kernel_rfl) (yD Try.underlying3) (qT (c' := fun (b : Int × Unit) => (V.cells (cP .i64 b.1) ++ [])) (ok' := fun b => (uY b.1 ∧ True)) (fun a b => (a, b)) (by kernel_rfl) (yD Try.underlying3) (FX ()) (fun _ _ => rfl) (fun _ _ h1 h2 => ⟨h1, h2⟩)) (fun _ _ => rfl) (fun _ _ h1 h2 => ⟨h1, h2⟩)) (fun _ _ => rfl) (fun _ _ h1 h2 => ⟨h1, h2⟩))

end Go.Abs
namespace Go.Abs
open Go
theorem dP {n : Int} (h1 : -9223372036854775808 ≤ n) (h2 : n ≤ 9223372036854775807) : IntKind.i64.wrap n = n := by
  simp only [IntKind.wrap, IntKind.bits, IntKind.signed]
  simp
  split <;> omega

def oB {α st R : Type} (step : st → α → Option (st ⊕ R)) (fin : st → R) : st → List α → Option R
  | s, [] => some (fin s)
  | s, a :: r => match step s a with
    | some (.inl s') => oB step fin s' r
    | some (.inr x) => some x
    | none => none

theorem GO {α st R : Type} {step : st → α → Option (st ⊕ R)} {fin : st → R} {s s' : st} {a : α} {r : List α} (h : step s a = some (.inl s')) : oB step fin s (a :: r) = oB step fin s' r := by
  simp only [oB, h]

theorem EO {α st R : Type} {step : st → α → Option (st ⊕ R)} {fin : st → R} {s : st} {x : R} {a : α} {r : List α} (h : step s a = some (.inr x)) : oB step fin s (a :: r) = some x := by
  simp only [oB, h]

theorem NX {α S st R : Type} {body : S → Option (S ⊕ R)} {l : List α} (mk : st → Int → S) (step : st → α → Option (st ⊕ R)) (fin : st → R)
    (hn : ∀ (i : Nat) a s, l[i]? = some a → (∀ s', step s a = some (.inl s') → body (mk s i) = some (.inl (mk s' ((i + 1 : Nat) : Int)))) ∧ (∀ x, step s a = some (.inr x) → body (mk s i) = some (.inr x)))
    (he : ∀ s, body (mk s (l.length : Nat)) = some (.inr (fin s))) : ∀ (m k : Nat) (s : st) (r : R), l.length - k = m → k ≤ l.length → oB step fin s (l.drop k) = some r → lp body (mk s k) = some r
  | 0, k, s, r, hm, hk, h => by
    have : k = l.length := by omega
    subst this
    rw [List.drop_length] at h
    simp only [oB, Option.some.injEq] at h
    subst h
    exact cV (he s)
  | m + 1, k, s, r, hm, hk, h => by
    have hlt : k < l.length := by omega
    have hd : l.drop k = l[k] :: l.drop (k + 1) := List.drop_eq_getElem_cons hlt
    rw [hd] at h
    simp only [oB] at h
    obtain ⟨h1, h2⟩ := hn k l[k] s (List.getElem?_eq_getElem hlt)
    split at h
    · rename_i s' hs
      rw [gF (h1 s' hs)]
      exact NX mk step fin hn he m (k + 1) s' r (by omega) (by omega) h
    · rename_i x hs
      simp at h; subst h
      exact cV (h2 x hs)
    · cases h

theorem VE {α S st R : Type} {body : S → Option (S ⊕ R)} {l : List α} (mk : st → Int → S) (step : st → α → Option (st ⊕ R)) (fin : st → R)
    (hn : ∀ (i : Nat) a s, l[i]? = some a → (∀ s', step s a = some (.inl s') → body (mk s i) = some (.inl (mk s' ((i + 1 : Nat) : Int)))) ∧ (∀ x, step s a = some (.inr x) → body (mk s i) = some (.inr x)))
    (he : ∀ s, body (mk s (l.length : Nat)) = some (.inr (fin s))) {s : st} {r : R} (h : oB step fin s l = some r) : lp body (mk s 0) = some r :=
  NX mk step fin hn he _ 0 s r rfl (Nat.zero_le _) (by simpa using h)

theorem LN {α S st R : Type} {body : S → Option (S ⊕ R)} {l : List α} (mk : st → Int → S) (step : st → α → Option (st ⊕ R)) (fin : st → R) (Inv : Nat → st → Prop)
    (hn : ∀ (i : Nat) a s, Inv i s → l[i]? = some a → (∀ s', step s a = some (.inl s') → Inv (i + 1) s' ∧ body (mk s i) = some (.inl (mk s' ((i + 1 : Nat) : Int)))) ∧ (∀ x, step s a = some (.inr x) → body (mk s i) = some (.inr x)))
    (he : ∀ s, Inv l.length s → body (mk s (l.length : Nat)) = some (.inr (fin s))) : ∀ (m k : Nat) (s : st) (r : R), l.length - k = m → k ≤ l.length → Inv k s → oB step fin s (l.drop k) = some r → lp body (mk s k) = some r
  | 0, k, s, r, hm, hk, hi, h => by
    have : k = l.length := by omega
    subst this
    rw [List.drop_length] at h
    simp only [oB, Option.some.injEq] at h
    subst h
    exact cV (he s hi)
  | m + 1, k, s, r, hm, hk, hi, h => by
    have hlt : k < l.length := by omega
    have hd : l.drop k = l[k] :: l.drop (k + 1) := List.drop_eq_getElem_cons hlt
    rw [hd] at h
    simp only [oB] at h
    obtain ⟨h1, h2⟩ := hn k l[k] s hi (List.getElem?_eq_getElem hlt)
    split at h
    · rename_i s' hs
      obtain ⟨hi', hb⟩ := h1 s' hs
      rw [gF hb]
      exact LN mk step fin Inv hn he m (k + 1) s' r (by omega) (by omega) hi' h
    · rename_i x hs
      simp at h; subst h
      exact cV (h2 x hs)
    · cases h

theorem TM {α S st R : Type} {body : S → Option (S ⊕ R)} {l : List α} (mk : st → Int → S) (step : st → α → Option (st ⊕ R)) (fin : st → R) (Inv : Nat → st → Prop)
    (hn : ∀ (i : Nat) a s, Inv i s → l[i]? = some a → (∀ s', step s a = some (.inl s') → Inv (i + 1) s' ∧ body (mk s i) = some (.inl (mk s' ((i + 1 : Nat) : Int)))) ∧ (∀ x, step s a = some (.inr x) → body (mk s i) = some (.inr x)))
    (he : ∀ s, Inv l.length s → body (mk s (l.length : Nat)) = some (.inr (fin s))) {s : st} {r : R} (hi : Inv 0 s) (h : oB step fin s l = some r) : lp body (mk s 0) = some r :=
  LN mk step fin Inv hn he _ 0 s r rfl (Nat.zero_le _) hi (by simpa using h)

theorem idx {α : Type} [Inhabited α] {l : List α} {i : Nat} {a : α} (h : l[i]? = some a) (hl : l.length < 4611686018427387904) :
    decide ((i : Int) < ((l.length : Nat) : Int)) = true ∧ (0 ≤ (i : Int) ∧ (i : Int) < ((l.length : Nat) : Int)) ∧ l.getD (Int.toNat (i : Int)) default = a ∧ IntKind.i64.wrap ((i : Int) + 1) = ((i + 1 : Nat) : Int) := by
  have hlt : i < l.length := (List.getElem?_eq_some_iff.1 h).1
  refine ⟨by simpa using hlt, ⟨by omega, by omega⟩, ?_, ?_⟩
  · rw [Int.toNat_natCast, List.getD_eq_getElem?_getD, h]; rfl
  · rw [dP (by omega) (by omega)]; omega

theorem lC {n : Nat} : decide (((n : Nat) : Int) < ((n : Nat) : Int)) = false := by simp

theorem aAz {α : Type} {j : α} {r : List α} : (0 : Int) ≤ 0 ∧ (0 : Int) < ((List.length (j :: r) : Nat) : Int) := ⟨by omega, by simp⟩

theorem ZN {α : Type} [Inhabited α] {j : α} {r : List α} : List.getD (j :: r) (Int.toNat (0 : Int)) default = j := rfl

end Go.Abs
namespace Go.Abs
open Go
theorem drop_cons {α : Type} {l r : List α} {a : α} {k : Nat} (h : l.drop k = a :: r) : l[k]? = some a ∧ l.drop (k + 1) = r := by
  have hk : k < l.length := by
    apply Classical.byContradiction; intro hn
    rw [List.drop_eq_nil_of_le (by omega)] at h; cases h
  rw [List.drop_eq_getElem_cons hk] at h
  obtain ⟨h1, h2⟩ := List.cons.inj h
  exact ⟨by rw [List.getElem?_eq_getElem hk, h1], h2⟩

theorem TH {α S st R : Type} {body : S → Option (S ⊕ R)} {l : List α} (mk : st → Int → S) (G : st → List α → R) (Inv : st → List α → Prop)
    (hn : ∀ (i : Nat) a r s, l[i]? = some a → Inv s (a :: r) → (∃ s', body (mk s i) = some (.inl (mk s' ((i + 1 : Nat) : Int))) ∧ Inv s' r ∧ G s' r = G s (a :: r)) ∨ body (mk s i) = some (.inr (G s (a :: r))))
    (he : ∀ s, Inv s [] → body (mk s (l.length : Nat)) = some (.inr (G s []))) : ∀ (r : List α) (k : Nat) (s : st), l.drop k = r → k ≤ l.length → Inv s r → lp body (mk s k) = some (G s r)
  | [], k, s, hd, hk, hi => by
    have : k = l.length := by
      have := congrArg List.length hd
      simp only [List.length_drop, List.length_nil] at this; omega
    subst this
    exact cV (he s hi)
  | a :: r, k, s, hd, hk, hi => by
    obtain ⟨h1, h2⟩ := drop_cons hd
    have hlt : k < l.length := (List.getElem?_eq_some_iff.1 h1).1
    rcases hn k a r s h1 hi with ⟨s', hb, hi', hg⟩ | hb
    · rw [gF hb, TH mk G Inv hn he r (k + 1) s' h2 (by omega) hi', hg]
    · exact cV hb

theorem yY {α S st R : Type} {body : S → Option (S ⊕ R)} {l : List α} (mk : st → Int → S) (G : st → List α → R) (Inv : st → List α → Prop) (s : st)
    (hn : ∀ (i : Nat) a r s, l[i]? = some a → Inv s (a :: r) → (∃ s', body (mk s i) = some (.inl (mk s' ((i + 1 : Nat) : Int))) ∧ Inv s' r ∧ G s' r = G s (a :: r)) ∨ body (mk s i) = some (.inr (G s (a :: r))))
    (he : ∀ s, Inv s [] → body (mk s (l.length : Nat)) = some (.inr (G s []))) (hi : Inv s l) : lp body (mk s 0) = some (G s l) :=
  TH mk G Inv hn he l 0 s rfl (Nat.zero_le _) hi

theorem KN {α S R : Type} {body : S → Option (S ⊕ R)} {l : List α} (mk : Int → S) (bad : α → Bool) (x y : R)
    (hn : ∀ (i : Nat) a, l[i]? = some a → body (mk i) = some (if bad a then .inr x else .inl (mk ((i + 1 : Nat) : Int))))
    (he : body (mk (l.length : Nat)) = some (.inr y)) : lp body (mk 0) = some (if l.any bad then x else y) := by
  refine yY (st := Unit) (fun _ i => mk i) (fun _ r => if r.any bad then x else y) (fun _ _ => True) () ?_ ?_ trivial
  · intro i a r s ha _
    have hb := hn i a ha
    cases h : bad a
    · left; refine ⟨(), ?_, trivial, ?_⟩
      · simpa [h] using hb
      · simp [List.any_cons, h]
    · right; simpa [h, List.any_cons] using hb
  · intro _ _; simpa using he

end Go.Abs
namespace Go.Abs
open Go
variable {α : Type} [Inhabited α]
structure Cmp {β : Type} (ok : β → Prop) (le : β → β → Prop) (cmp : β → β → Option Int) : Prop where
  ans : ∀ x y, ok x → ok y → ∃ v, cmp x y = some v ∧ (v < 0 ↔ ¬ le y x)
  trans : ∀ x y z, ok x → ok y → ok z → le x y → le y z → le x z
  total : ∀ x y, ok x → ok y → le x y ∨ le y x

abbrev Srt {β : Type} (le : β → β → Prop) (l : List β) : Prop := l.Pairwise le

abbrev Oks {β : Type} (ok : β → Prop) (l : List β) : Prop := ∀ x ∈ l, ok x

theorem wr {n : Int} (h1 : -1099511627776 ≤ n) (h2 : n ≤ 8796093022208) : IntKind.i64.wrap n = n := dP (by omega) (by omega)

section ins
variable {ok : α → Prop} {le : α → α → Prop} {cmp : α → α → Option Int}
end ins
end Go.Abs
namespace Go.Abs
open Go
variable {α : Type} [Inhabited α]
theorem half {s : Nat} (h : s ≤ 4398046511104) : IntKind.i64.wrap (Int.fdiv (IntKind.u64.wrap (IntKind.i64.wrap (s : Int))) (2 ^ (min (Int.toNat (1 : Int)) 64))) = ((s / 2 : Nat) : Int) := by
  rw [wr (n := (s : Int)) (by omega) (by omega)]
  have hu : IntKind.u64.wrap (s : Int) = (s : Int) := by
    simp only [IntKind.wrap, IntKind.bits, IntKind.signed]
    simp
    omega
  have hp : (2 : Int) ^ (min (Int.toNat (1 : Int)) 64) = 2 := by decide
  rw [hu, hp, Int.fdiv_eq_ediv_of_nonneg _ (by omega), wr (by omega) (by omega)]
  omega

section sym
variable {ok : α → Prop} {le : α → α → Prop} {cmp : α → α → Option Int}
theorem Cmp.refl {β : Type} {ok : β → Prop} {le : β → β → Prop} {cmp : β → β → Option Int} (C : Cmp ok le cmp) {x : β} (h : ok x) : le x x := by rcases C.total x x h h with h | h <;> exact h

end sym
end Go.Abs
namespace Go.Abs
open Go
variable {α : Type} [Inhabited α] {ok : α → Prop} {le : α → α → Prop} {cmp : α → α → Option Int}
inductive HJ {β : Type} (le : β → β → Prop) (n : Nat) : List β → Prop
  | last {l : List β} : l.length ≤ n → Srt le l → HJ le n l
  | cons {x l : List β} : x.length = n → Srt le x → HJ le n l → HJ le n (x ++ l)

theorem HJ.split {β : Type} {le : β → β → Prop} {n : Nat} {l : List β} (h : HJ le n l) (hl : n < l.length) : ∃ x r, l = x ++ r ∧ x.length = n ∧ Srt le x ∧ HJ le n r := by
  cases h with
  | last h' _ => omega
  | cons hx hs hr => exact ⟨_, _, rfl, hx, hs, hr⟩

theorem Oks.perm {β : Type} {ok : β → Prop} {l l' : List β} (h : Oks ok l) (hp : l'.Perm l) : Oks ok l' := fun x hx => h x (hp.mem_iff.1 hx)

end Go.Abs
namespace Go.Abs
open Go
structure aAt where
  Row : (List aC)
  Span : cS
  deriving Inhabited, DecidableEq

structure aAv where
  Kind : Int
  Input : Int
  Edges : (List aE)
  At : Int
  deriving Inhabited, DecidableEq

structure aAu where
  row : (List aC)
  jumps : (List aB)
  deriving Inhabited, DecidableEq

end Go.Abs
namespace Go.Abs
open Go
def KC (n : Int) : Bool := decide (n ≤ 1048576) && decide (-1048576 ≤ n)

theorem YL (n : Int) : vM n = some (KC n) := rfl

def EI (last : Int) (j : aB) : Bool := decide (j.At ≤ last) || decide (1125899906842624 ≤ j.At) || decide (j.Net = 0) || !KC j.Net

def chk (last : Int) : List aB → Bool
  | [] => true
  | j :: r => !EI last j && chk j.At r

def jW (f : List aB) : Bool := decide (f.length ≤ 1024) && chk (-2) f

theorem MR {f : List aB} {i : Nat} {a : aB} {last : Int} (ha : f[i]? = some a) (hl : f.length < 4611686018427387904) :
    lI f (f.length : Nat) last i = some (if EI last a then .inr (.inr false) else .inl (a.At, ((i + 1 : Nat) : Int))) := by
  obtain ⟨d1, d2, d3, d4⟩ := idx ha hl
  simp only [lI, d1, cond_true, aM d2, d3, d4, YL]
  unfold EI
  cases h : (decide (a.At ≤ last) || decide (1125899906842624 ≤ a.At) || decide (a.Net = 0)) <;> cases h2 : KC a.Net <;> simp [cX]

theorem KX : ∀ (f : List aB) (last : Int), oB (fun last (j : aB) => some (if EI last j then .inr (.inr false) else .inl j.At)) (fun _ => (.inl () : Unit ⊕ Bool)) last f = some (if chk last f then .inl () else .inr false)
  | [], last => by simp [oB, chk]
  | j :: r, last => by
    cases h : EI last j
    · rw [GO (s' := j.At) (by simp [h])]
      rw [KX r j.At]
      simp [chk, h]
    · rw [EO (x := .inr false) (by simp [h])]
      simp [chk, h]

theorem CE (f : List aB) : mN f = some (jW f) := by
  unfold mN jW
  by_cases hl : f.length ≤ 1024
  · have h1 : decide ((1024 : Int) < ((f.length : Nat) : Int)) = false := by simp; omega
    rw [h1, cond_false]
    unfold vI
    have key := VE (l := f) (body := fun s : Int × Int => lI f (f.length : Nat) s.1 s.2) (fun last i => (last, i)) _ _
      (fun i a s ha => by
        constructor
        · intro s' hs
          show lI f (f.length : Nat) s i = _
          rw [MR ha (by omega)]
          split at hs <;> simp_all
        · intro x hs
          show lI f (f.length : Nat) s i = _
          rw [MR ha (by omega)]
          split at hs <;> simp_all)
      (fun s => by show lI f (f.length : Nat) s (f.length : Nat) = _; simp only [lI, lC, cond_false]) (KX f (-2))
    rw [key]
    cases h : chk (-2) f <;> simp [tB, hl]
  · have h1 : decide ((1024 : Int) < ((f.length : Nat) : Int)) = true := by simp; omega
    rw [h1, cond_true]
    simp [hl]

theorem QJ {last : Int} {j : aB} : EI last j = false ↔ last < j.At ∧ j.At < 1125899906842624 ∧ j.Net ≠ 0 ∧ j.Net ≤ 1048576 ∧ -1048576 ≤ j.Net := by
  simp [EI, KC]
  omega

def rC (last : Int) : List aB → Prop
  | [] => True
  | j :: r => (last < j.At ∧ j.At < 1125899906842624 ∧ j.Net ≠ 0 ∧ j.Net ≤ 1048576 ∧ -1048576 ≤ j.Net) ∧ rC j.At r

theorem PF : ∀ {f : List aB} {last : Int}, chk last f = true ↔ rC last f
  | [], last => by simp [chk, rC]
  | j :: r, last => by simp [chk, rC, QJ, PF]

theorem oN {f : List aB} : jW f = true ↔ f.length ≤ 1024 ∧ rC (-2) f := by simp [jW, PF]

theorem rC.above : ∀ {f : List aB} {last : Int}, rC last f → ∀ j ∈ f, last < j.At ∧ j.At < 1125899906842624 ∧ j.Net ≠ 0 ∧ j.Net ≤ 1048576 ∧ -1048576 ≤ j.Net
  | [], _, _, j, hj => by simp at hj
  | a :: r, last, h, j, hj => by
    rcases List.mem_cons.1 hj with rfl | hj
    · exact h.1
    · have := h.2.above j hj
      have h1 := h.1.1
      exact ⟨by omega, this.2⟩

def val (f : List aB) (t : Int) : Int := (f.map fun j => if j.At ≤ t then j.Net else 0).sum

theorem PA (t : Int) : val [] t = 0 := rfl

theorem lR (j : aB) (r : List aB) (t : Int) : val (j :: r) t = (if j.At ≤ t then j.Net else 0) + val r t := by simp [val]

theorem RC (f g : List aB) (t : Int) : val (f ++ g) t = val f t + val g t := by simp [val]

theorem IU : ∀ {f : List aB} {b : Int} (t : Int), 0 ≤ b → (∀ j ∈ f, j.Net ≤ b ∧ -b ≤ j.Net) → val f t ≤ b * f.length ∧ -(b * f.length) ≤ val f t
  | [], b, t, _, _ => by simp [val]
  | j :: r, b, t, hb, h => by
    obtain ⟨h1, h2⟩ := IU t hb (fun k hk => h k (List.mem_cons_of_mem _ hk))
    have h3 := h j (List.mem_cons_self ..)
    rw [lR]
    simp only [List.length_cons, Int.natCast_add, Int.natCast_one, Int.mul_add, Int.mul_one]
    split <;> omega

theorem xY {f : List aB} {t : Int} (h : ∀ j ∈ f, t < j.At) : val f t = 0 := by
  induction f with
  | nil => rfl
  | cons j r ih =>
    rw [lR, ih (fun k hk => h k (List.mem_cons_of_mem _ hk))]
    have := h j (List.mem_cons_self ..)
    rw [if_neg (by omega)]; rfl

theorem YD (f : List aB) : qW f = some (if jW f then (f, 0) else ([], 7)) := by
  unfold qW
  rw [CE]
  cases h : jW f <;> simp

end Go.Abs
namespace Go.Abs
open Go
section both
variable {op : Int → Int → Option Int} {f g r : List aB} {out : List aB} {a b was t : Int} {j : aB}
end both
def emit (p v was : Int) : List aB := if v = was then [] else [⟨p, v - was⟩]

def XI (was : Int) : List (Int × Int) → List aB
  | [] => []
  | x :: r => emit x.1 x.2 was ++ XI x.2 r

def merge (f g : List aB) (a b : Int) : List (Int × Int × Int) :=
  match f, g with
  | [], [] => []
  | j :: f, [] => (j.At, a + j.Net, b) :: merge f [] (a + j.Net) b
  | [], k :: g => (k.At, a, b + k.Net) :: merge [] g a (b + k.Net)
  | j :: f, k :: g =>
    if j.At < k.At then (j.At, a + j.Net, b) :: merge f (k :: g) (a + j.Net) b
    else if k.At < j.At then (k.At, a, b + k.Net) :: merge (j :: f) g a (b + k.Net)
    else (j.At, a + j.Net, b + k.Net) :: merge f g (a + j.Net) (b + k.Net)

termination_by f.length + g.length
end Go.Abs
namespace Go.Abs
open Go
def comb (OP : Int → Int → Int) (f g : List aB) : List aB := XI 0 ((merge f g 0 0).map fun x => (x.1, OP x.2.1 x.2.2))

def told (f : List aB) : List aB × Int := if jW f then (f, 0) else ([], 7)

theorem WN (f : List aB) : qW f = some (told f) := YD f

def two (OP : Int → Int → Int) (f g : List aB) : List aB × Int := if jW f && jW g then told (comb OP f g) else ([], 2)

end Go.Abs
namespace Go.Abs
open Go
theorem rC.yT {l t : Int} {f : List aB} (h : rC l f) (ht : t ≤ l) : val f t = 0 := xY fun j hj => by have := (h.above j hj).1; omega

theorem JM {f : List aB} (hf : jW f = true) (t : Int) : val f t ≤ 1073741824 ∧ -1073741824 ≤ val f t := by
  obtain ⟨h1, h2⟩ := oN.1 hf
  have := IU t (b := 1048576) (by omega) (fun j hj => by have := h2.above j hj; omega) (f := f)
  omega

end Go.Abs
namespace Go.Abs
open Go
def rN (f : List aB) : Int := (f.map aB.Net).sum

theorem IM (j : aB) (f : List aB) : rN (j :: f) = j.Net + rN f := by simp [rN]

def iG (t : Int) : List aB → List aB
  | [] => []
  | j :: r => if t ≤ j.At then [] else j :: iG t r

def aft (t : Int) : List aB → List aB
  | [] => []
  | j :: r => if t ≤ j.At then j :: r else aft t r

theorem xU (t : Int) : ∀ f : List aB, iG t f ++ aft t f = f
  | [] => rfl
  | j :: r => by
    unfold iG aft
    split
    · rfl
    · simp [xU t r]

theorem HE {t : Int} : ∀ {f : List aB}, ∀ j ∈ iG t f, j.At < t
  | [], j, h => by simp [iG] at h
  | k :: r, j, h => by
    unfold iG at h
    split at h
    · simp at h
    · rcases List.mem_cons.1 h with rfl | h
      · omega
      · exact HE j h

theorem FB {t l : Int} : ∀ {f : List aB}, rC l f → ∀ j ∈ aft t f, t ≤ j.At
  | [], _, j, h => by simp [aft] at h
  | k :: r, hr, j, h => by
    unfold aft at h
    split at h
    · rcases List.mem_cons.1 h with rfl | h
      · assumption
      · have := (hr.2.above j h).1; omega
    · exact FB hr.2 j h

theorem XO {f : List aB} {t : Int} (h : ∀ j ∈ f, j.At ≤ t) : val f t = rN f := by
  induction f with
  | nil => rfl
  | cons j r ih => rw [lR, IM, if_pos (h j (List.mem_cons_self ..)), ih fun k hk => h k (List.mem_cons_of_mem _ hk)]

theorem LU (t : Int) : ∀ f : List aB, (iG t f).length ≤ f.length
  | [] => by simp [iG]
  | j :: r => by
    unfold iG
    split
    · simp
    · simpa using LU t r

theorem WU {l t p : Int} {f : List aB} (hf : rC l f) (hp : p < t) : val f p = val (iG t f) p := by
  conv => lhs; rw [← xU t f]
  rw [RC, xY (f := aft t f) (fun j hj => by have := FB hf j hj; omega)]
  omega

theorem RU {l t : Int} {f : List aB} (hf : rC l f) : rN (iG t f) = val f (t - 1) := by
  rw [WU hf (p := t - 1) (t := t) (by omega), XO (fun j hj => by have := HE j hj; omega)]

theorem RI {t : Int} (f : List aB) : ∀ (l v : Int) (out : List aB), rC l f → v ≤ 1048576 * (2048 - f.length) → -(1048576 * (2048 - f.length)) ≤ v → f.length ≤ 1024 →
    oB (fun (s : List aB × Int) (j : aB) => some (if t ≤ j.At then .inr s else .inl (s.1 ++ [j], IntKind.i64.wrap (s.2 + j.Net)))) (fun s => s) (out, v) f = some (out ++ iG t f, v + rN (iG t f)) := by
  induction f with
  | nil => intro l v out _ _ _ _; simp [oB, iG, rN]
  | cons j r ih =>
    intro l v out h h1 h2 hl
    simp only [List.length_cons] at h1 h2 hl
    have hj1 := h.1
    by_cases hj : t ≤ j.At
    · rw [EO (x := (out, v)) (by simp [hj])]
      simp [iG, hj, rN]
    · have hw : IntKind.i64.wrap (v + j.Net) = v + j.Net := dP (by omega) (by omega)
      rw [GO (s' := (out ++ [j], v + j.Net)) (by simp [hj, hw])]
      rw [ih j.At (v + j.Net) (out ++ [j]) h.2 (by omega) (by omega) (by omega)]
      have : iG t (j :: r) = j :: iG t r := by simp [iG, hj]
      rw [this, IM]
      simp [Int.add_assoc]

def zA (t : Int) (f : List aB) : List aB := iG t f ++ (if rN (iG t f) = 0 then [] else [⟨t, -rN (iG t f)⟩])

def ahead (f : List aB) (t : Int) : List aB × Int :=
  if jW f then (if 1125899906842624 ≤ t then (f, 0) else told (zA t f)) else ([], 2)

theorem VG {f : List aB} (hl : f.length ≤ 1024) : gP f = some f := by
  unfold gP
  exact aM ⟨by omega, by omega⟩

theorem QN {f : List aB} (hf : jW f = true) (t : Int) : rN (iG t f) ≤ 1073741824 ∧ -1073741824 ≤ rN (iG t f) := by
  rw [RU (oN.1 hf).2]
  exact JM hf _

theorem WC (f : List aB) (t : Int) : sD f t = some (ahead f t) := by
  unfold sD ahead
  rw [CE]
  simp only [Option.bind_some]
  cases h : jW f
  · simp
  · obtain ⟨hl, hr⟩ := oN.1 h
    simp only [Bool.not_true, cond_false, if_true]
    by_cases ht : 1125899906842624 ≤ t
    · simp [ht, VG hl]
    · rw [decide_eq_false ht, cond_false, if_neg ht]
      unfold tE
      have key := TM (l := f) (body := fun s : List aB × Int × Int => kI t f (f.length : Nat) s.1 s.2.1 s.2.2) (fun (s : List aB × Int) i => (s.1, s.2, i)) _ _ (fun i s => s.1.length = i)
        (fun i a s hi ha => by
          obtain ⟨d1, d2, d3, d4⟩ := idx ha (by omega)
          have hlt : i < f.length := (List.getElem?_eq_some_iff.1 ha).1
          have hb : kI t f (f.length : Nat) s.1 s.2 i = some (if t ≤ a.At then .inr s else .inl (s.1 ++ [a], IntKind.i64.wrap (s.2 + a.Net), ((i + 1 : Nat) : Int))) := by
            simp only [kI, d1, cond_true, aM d2, d3, d4]
            rw [aM (by simp only [List.length_cons, List.length_nil]; omega)]
            by_cases h : t ≤ a.At <;> simp [h]
          by_cases hh : t ≤ a.At
          · refine ⟨fun s' hs => by simp [hh] at hs, fun x hs => ?_⟩
            simp [hh] at hs; subst hs
            show kI t f (f.length : Nat) s.1 s.2 i = _
            rw [hb, if_pos hh]
          · refine ⟨fun s' hs => ?_, fun x hs => by simp [hh] at hs⟩
            simp [hh] at hs; subst hs
            refine ⟨by simp [hi], ?_⟩
            show kI t f (f.length : Nat) s.1 s.2 i = _
            rw [hb, if_neg hh])
        (fun s _ => by show kI t f (f.length : Nat) s.1 s.2 (f.length : Nat) = _; simp only [kI, lC, cond_false]) (s := ([], 0)) rfl (RI (t := t) f (-2) 0 [] hr (by omega) (by omega) hl)
      rw [key]
      have hb := QN h t
      have hlen := LU t f
      have hw : IntKind.i64.wrap (0 - rN (iG t f)) = -rN (iG t f) := by rw [dP (by omega) (by omega)]; omega
      simp only [Option.bind_some, List.nil_append, Int.zero_add, oM, qN, zA, hw, WN]
      by_cases hv : rN (iG t f) = 0
      · simp [hv]
      · rw [aM (by simp only [List.length_cons, List.length_nil]; omega)]
        simp [hv]

end Go.Abs
namespace Go.Abs
open Go
def aAn (t : Int) (f : List aB) : List aB := (if rN (iG t f) = 0 then [] else [⟨-1, rN (iG t f)⟩]) ++ aft t f

def rest (f : List aB) (t : Int) : List aB × Int :=
  if jW f then (if 1125899906842624 ≤ t then ([], 0) else if t ≤ -1 then (f, 0) else told (aAn t f)) else ([], 2)

end Go.Abs
namespace Go.Abs
open Go
def Up (last : Int) : List aB → Prop
  | [] => True
  | j :: r => (last < j.At ∧ j.At < 1125899906842624 ∧ j.Net ≠ 0) ∧ Up j.At r

theorem Up.above : ∀ {f : List aB} {last : Int}, Up last f → ∀ j ∈ f, last < j.At ∧ j.At < 1125899906842624 ∧ j.Net ≠ 0
  | [], _, _, j, hj => by simp at hj
  | a :: r, last, h, j, hj => by
    rcases List.mem_cons.1 hj with rfl | hj
    · exact h.1
    · have := h.2.above j hj
      have h1 := h.1.1
      exact ⟨by omega, this.2⟩

theorem Up.yT {l t : Int} {f : List aB} (h : Up l f) (ht : t ≤ l) : val f t = 0 := xY fun j hj => by have := (h.above j hj).1; omega

theorem Up.weaken {a b : Int} {f : List aB} (h : Up b f) (hab : a ≤ b) : Up a f := by
  cases f with
  | nil => trivial
  | cons j r => exact ⟨⟨by have := h.1.1; omega, h.1.2⟩, h.2⟩

theorem rC.up : ∀ {f : List aB} {last : Int}, rC last f → Up last f
  | [], _, _ => trivial
  | _ :: _, _, h => ⟨⟨h.1.1, h.1.2.1, h.1.2.2.1⟩, h.2.up⟩

theorem Up.ext : ∀ {f g : List aB} {last : Int}, Up last f → Up last g → (∀ t, last < t → t < 1125899906842624 → val f t = val g t) → f = g
  | [], [], _, _, _, _ => rfl
  | j :: r, [], last, hf, _, h => by
    have := h j.At hf.1.1 hf.1.2.1
    rw [lR, if_pos (Int.le_refl _), hf.2.yT (Int.le_refl _), PA] at this
    exact absurd (by omega) hf.1.2.2
  | [], k :: s, last, _, hg, h => by
    have := h k.At hg.1.1 hg.1.2.1
    rw [lR, if_pos (Int.le_refl _), hg.2.yT (Int.le_refl _), PA] at this
    exact absurd (by omega) hg.1.2.2
  | j :: r, k :: s, last, hf, hg, h => by
    have h1 := h j.At hf.1.1 hf.1.2.1
    have h2 := h k.At hg.1.1 hg.1.2.1
    rw [lR, if_pos (Int.le_refl _), hf.2.yT (Int.le_refl _), lR] at h1
    rw [lR, lR k, if_pos (Int.le_refl _), hg.2.yT (Int.le_refl _)] at h2
    have n1 := hf.1.2.2
    have n2 := hg.1.2.2
    have he : j.At = k.At := by
      rcases Int.lt_trichotomy j.At k.At with h3 | h3 | h3
      · rw [if_neg (by omega), hg.2.yT (by omega)] at h1; omega
      · exact h3
      · rw [if_neg (by omega), hf.2.yT (by omega)] at h2; omega
    rw [if_pos (by omega), hg.2.yT (by omega)] at h1
    have hj : j = k := by
      obtain ⟨a, b⟩ := j; obtain ⟨c, d⟩ := k
      simp only at he h1
      simp only [Int.add_zero] at h1
      rw [he, h1]
    subst hj
    rw [hf.2.ext hg.2 (fun t ht ht' => by
      have := h t (by have := hf.1.1; omega) ht'
      rw [lR, lR] at this; omega)]

def Inc (last : Int) : List Int → Prop
  | [] => True
  | p :: r => (last < p ∧ p < 1125899906842624) ∧ Inc p r

theorem Inc.above : ∀ {ps : List Int} {last : Int}, Inc last ps → ∀ p ∈ ps, last < p ∧ p < 1125899906842624
  | [], _, _, j, hj => by simp at hj
  | a :: r, last, h, j, hj => by
    rcases List.mem_cons.1 hj with rfl | hj
    · exact h.1
    · have := h.2.above j hj
      have h1 := h.1.1
      exact ⟨by omega, this.2⟩

end Go.Abs
namespace Go.Abs
open Go
theorem VI {f : List aB} (h : jW f = true) : ∀ j ∈ f, j.Net ≤ 1048576 ∧ -1048576 ≤ j.Net := fun j hj => by have := (oN.1 h).2.above j hj; omega

def pX (t : Int) : List Int → List Int
  | [] => [t]
  | p :: r => if p = t then p :: r else if t < p then t :: p :: r else p :: pX t r

theorem JB {t x : Int} : ∀ {ps : List Int}, x ∈ pX t ps ↔ x = t ∨ x ∈ ps
  | [] => by simp [pX]
  | p :: r => by
    unfold pX
    split
    · rename_i h; subst h; simp
    · split
      · simp
      · simp only [List.mem_cons, JB (ps := r)]; constructor <;> (intro h; rcases h with h | h | h <;> simp [h])

theorem JG {t : Int} : ∀ {ps : List Int} {last : Int}, Inc last ps → last < t → t < 1125899906842624 → Inc last (pX t ps)
  | [], last, _, h1, h2 => ⟨⟨h1, h2⟩, trivial⟩
  | p :: r, last, h, h1, h2 => by
    unfold pX
    split
    · exact h
    · split
      · rename_i h3 h4
        exact ⟨⟨h1, h2⟩, ⟨h4, h.1.2⟩, h.2⟩
      · exact ⟨h.1, JG h.2 (by omega) h2⟩

theorem IX {t : Int} : ∀ {ps : List Int}, (pX t ps).length ≤ ps.length + 1
  | [] => by simp [pX]
  | p :: r => by
    unfold pX
    split
    · simp
    · split
      · simp
      · simp only [List.length_cons]; have := IX (t := t) (ps := r); omega

end Go.Abs
namespace Go.Abs
open Go
def mn (a b : Int) : Int := if b < a then b else a

def parts (v : Int) : List aB → List Int
  | [] => []
  | j :: r => (v + j.Net) :: parts (v + j.Net) r

def GK (f : List aB) : Int := (f.map fun j => val f j.At).foldl mn (val f (-1))

theorem parts_eq : ∀ {f : List aB} {l v : Int}, rC l f → parts v f = f.map fun j => v + val f j.At
  | [], _, _, _ => rfl
  | j :: r, l, v, h => by
    simp only [parts, List.map_cons]
    rw [parts_eq h.2, lR, if_pos (Int.le_refl _), h.2.yT (Int.le_refl _), Int.add_zero]
    congr 1
    apply List.map_congr_left
    intro k hk
    have := (h.2.above k hk).1
    rw [lR, if_pos (by omega)]; omega

theorem UF {j : aB} {r : List aB} (h : rC (-2) (j :: r)) : val (j :: r) (-1) = if j.At = -1 then j.Net else 0 := by
  have := h.1.1
  by_cases e : j.At = -1
  · rw [if_pos e, lR, if_pos (by omega), h.2.yT (by omega)]; omega
  · rw [if_neg e, xY]
    intro k hk
    rcases List.mem_cons.1 hk with rfl | hk
    · omega
    · have := (h.2.above k hk).1; omega

theorem FG {f : List aB} (hf : jW f = true) (m : Int) (hm : -1125899906842624 ≤ m ∧ m ≤ 1125899906842624) : qH 0 m f (f.length : Nat) 0 = some ((f.map fun j => val f j.At).foldl mn m) := by
  obtain ⟨hl, hr⟩ := oN.1 hf
  unfold qH
  rw [yY (l := f) (body := fun s : Int × Int × Int => lU f (f.length : Nat) s.1 s.2.1 s.2.2) (fun (s : Int × Int) i => (s.1, s.2, i)) (fun s r => (parts s.1 r).foldl mn s.2)
    (fun s r => (∀ j ∈ r, j.Net ≤ 1048576 ∧ -1048576 ≤ j.Net) ∧ r.length ≤ 1024 ∧ s.1 ≤ 1048576 * (1024 - r.length) ∧ -(1048576 * (1024 - r.length)) ≤ s.1) (0, m) ?_ ?_ ?_]
  · simp only [Option.bind_some, qC, parts_eq hr, Int.zero_add]
  · rintro i a r ⟨v, m⟩ ha ⟨h1, h2, h3, h4⟩
    obtain ⟨d1, d2, d3, d4⟩ := idx ha (by omega)
    have hj := h1 a (List.mem_cons_self ..)
    simp only [List.length_cons] at h2 h3 h4
    have hw : IntKind.i64.wrap (v + a.Net) = v + a.Net := dP (by omega) (by omega)
    left
    refine ⟨(v + a.Net, mn m (v + a.Net)), ?_, ⟨fun j hj => h1 j (List.mem_cons_of_mem _ hj), by omega, by simp only; omega, by simp only; omega⟩, rfl⟩
    show lU f (f.length : Nat) v m i = _
    simp only [lU, d1, cond_true, aM d2, d3, d4, hw, mn]
  · rintro ⟨v, m⟩ _
    show lU f (f.length : Nat) v m (f.length : Nat) = _
    simp only [lU, lC, cond_false, parts, List.foldl_nil]
  · exact ⟨VI hf, hl, by simp only; omega, by simp only; omega⟩

theorem WE (f : List aB) : rW f = some (if jW f then GK f else 0) := by
  unfold rW
  rw [CE]
  cases h : jW f
  · simp
  · cases f with
    | nil => simp [GK, val]
    | cons j r =>
      obtain ⟨hl, hr⟩ := oN.1 h
      have hne : decide (((List.length (j :: r) : Nat) : Int) = 0) = false := by simp; omega
      simp only [Option.bind_some, Bool.not_true, Bool.false_or, hne, cond_false, aM aAz, ZN, if_true]
      have hj := hr.1
      unfold GK
      rw [UF hr]
      by_cases e : j.At = -1
      · simp only [e, decide_true, cond_true, if_true, oH]
        exact FG h j.Net (by omega)
      · simp only [e, decide_false, cond_false, if_false, oH]
        exact FG h 0 (by omega)

theorem PD : jW [] = true := by decide

end Go.Abs
namespace Go.Abs
open Go
theorem w1 : IntKind.i64.wrap (0 + 1) = 1 := by rw [dP] <;> omega

theorem w2 : IntKind.i64.wrap (1 + 1) = 2 := by rw [dP] <;> omega

theorem w3 : IntKind.i64.wrap (1 - 1) = 0 := by rw [dP] <;> omega

theorem v0 : IntKind.i64.wrap 0 = 0 := by rw [dP] <;> omega

theorem v1 : IntKind.i64.wrap 1 = 1 := by rw [dP] <;> omega

theorem v2 : IntKind.i64.wrap 2 = 2 := by rw [dP] <;> omega

theorem v3 : IntKind.i64.wrap (-1) = -1 := by rw [dP] <;> omega

end Go.Abs
namespace Go.Abs
open Go
theorem UP (f : List aB) : (told f).1.length ≤ 1024 := by
  unfold told
  cases h : jW f
  · simp
  · simpa using (oN.1 h).1

theorem TO (f : List aB) (t : Int) : (ahead f t).1.length ≤ 1024 := by
  unfold ahead
  split
  · split
    · exact (oN.1 (by assumption)).1
    · exact UP _
  · simp

end Go.Abs
namespace Go.Abs
open Go
variable {α : Type} [Inhabited α]
noncomputable def nN (f1 : α → Option Bool) (s0 : (List α)) (t7 : Int) (t8 : Int) : Option ((Int) ⊕ (Unit ⊕ Int)) :=
  cond (decide (t8 < t7))
  (bA (0 ≤ t8 ∧ t8 < ((List.length s0 : Nat) : Int)) <|
  (f1 (List.getD s0 (Int.toNat t8) default)).bind fun x2 =>
  cond x2
  (some (.inr (.inr t8)))
  (some (.inl (IntKind.i64.wrap (t8 + (1 : Int))))))
  (some (.inr (.inl ())))

theorem MK {l : List α} {f : α → Option Bool} {g : α → Bool} (hl : l.length ≤ 1099511627776) (hf : ∀ x ∈ l, f x = some (g x)) : ∀ (r : List α) (k : Nat), l.drop k = r → k ≤ l.length →
    ∃ x, lp (fun s => nN f l (l.length : Nat) s) (k : Int) = some x ∧ ((x = .inl () ∧ r.any g = false) ∨ (∃ i : Nat, x = .inr (i : Int) ∧ k ≤ i ∧ i < l.length ∧ r.any g = true ∧ g (l.getD i default) = true ∧ ∀ j, k ≤ j → j < i → g (l.getD j default) = false))
  | [], k, hd, hk => by
    have : k = l.length := by
      have := congrArg List.length hd
      simp only [List.length_drop, List.length_nil] at this; omega
    subst this
    refine ⟨.inl (), cV ?_, Or.inl ⟨rfl, rfl⟩⟩
    show nN f l _ _ = _
    simp only [nN, lC, cond_false]
  | a :: r, k, hd, hk => by
    obtain ⟨h1, h2⟩ := drop_cons hd
    have hlt : k < l.length := (List.getElem?_eq_some_iff.1 h1).1
    obtain ⟨d1, d2, d3, d4⟩ := idx h1 (by omega)
    have hga : l.getD k default = a := by rw [Int.toNat_natCast] at d3; exact d3
    have hb : (fun s => nN f l (l.length : Nat) s) (k : Int) = some (if g a then .inr (.inr (k : Int)) else .inl ((k + 1 : Nat) : Int)) := by
      show nN f l _ _ = _
      simp only [nN, d1, cond_true, aM d2, d3, d4, hf a (List.mem_of_getElem? h1), Option.bind_some]
      cases g a <;> simp
    cases hg : g a
    · rw [hg] at hb
      obtain ⟨x, e, hx⟩ := MK hl hf r (k + 1) h2 (by omega)
      refine ⟨x, by rw [gF hb]; exact e, ?_⟩
      rcases hx with ⟨rfl, h⟩ | ⟨i, rfl, h3, h4, h5, h6, h7⟩
      · exact Or.inl ⟨rfl, by simp [hg, h]⟩
      · refine Or.inr ⟨i, rfl, by omega, h4, by simp [h5], h6, fun j hj hj' => ?_⟩
        by_cases e : j = k
        · subst e; rw [hga, hg]
        · exact h7 j (by omega) hj'
    · rw [hg] at hb
      exact ⟨.inr (k : Int), cV hb, Or.inr ⟨k, rfl, Nat.le_refl _, hlt, by simp [hg], by rw [hga, hg], fun j h h' => by omega⟩⟩

end Go.Abs
namespace Go.Abs
open Go
theorem IS (x y : ByteArray) : nH x y = decide (x = y) := by
  unfold nH
  rw [ByteArray.toList_eq, ByteArray.toList_eq]
  by_cases h : x = y
  · simp [h]
  · have : x.data.toList ≠ y.data.toList := by
      intro he
      apply h
      cases x; cases y
      congr 1
      exact Array.toList_inj.1 he
    have h2 : (x.data.toList == y.data.toList) = false := by simpa using this
    rw [h2]; simp [h]

theorem veq (a b : aC) : ((decide (a.Kind = b.Kind)) && ((decide (a.Num = b.Num)) && ((nH a.Text b.Text) && true))) = decide (a = b) := by
  rw [IS]
  obtain ⟨a1, a2, a3⟩ := a
  obtain ⟨b1, b2, b3⟩ := b
  by_cases h1 : a1 = b1 <;> by_cases h2 : a2 = b2 <;> by_cases h3 : a3 = b3 <;> simp [h1, h2, h3]

def zW (v : aC) : Bool := decide (v.Kind = 1) && nH v.Text (⟨#[]⟩ : ByteArray)

def AI (v : aC) : Bool := ((decide (v.Kind = 2)) && (decide (v.Num = 0))) && (decide (((ByteArray.size v.Text : Nat) : Int) ≤ 64))

def AD (v : aC) : Bool := zW v || AI v

def rB (r : List aC) : Bool := decide (r.length ≤ 8) && r.all AD

theorem of_eq (v : aC) : kY v = some (if zW v then (.k_number v.Num, true) else if AI v then (.k_words v.Text, true) else (.none_, false)) := by
  unfold kY zW AI
  cases (decide (v.Kind = 1) && nH v.Text (⟨#[]⟩ : ByteArray)) <;> cases (((decide (v.Kind = 2)) && (decide (v.Num = 0))) && (decide (((ByteArray.size v.Text : Nat) : Int) ≤ 64))) <;> rfl

theorem XS (v : aC) : tC v = some (AD v) := by
  unfold tC AD
  rw [of_eq]
  cases zW v <;> cases AI v <;> rfl

theorem LR {l : List aC} {f : aC → Option Bool} {g : aC → Bool} (hl : l.length ≤ 1099511627776) (hf : ∀ x ∈ l, f x = some (g x)) : eO l f = some (l.any g) := by
  unfold eO iA gX
  obtain ⟨x, e, hx⟩ := MK hl hf l 0 rfl (Nat.zero_le _)
  have e' : lp (fun s => gY f l (l.length : Nat) s) 0 = some x := e
  rw [e']
  rcases hx with ⟨rfl, h⟩ | ⟨i, rfl, _, _, h, _⟩
  · simp [fA, h]
  · simp [h]

theorem GR (r : List aC) : rT r = some (rB r) := by
  unfold rT rB
  by_cases h : r.length ≤ 8
  · have h1 : decide ((8 : Int) < ((r.length : Nat) : Int)) = false := by simp; omega
    rw [h1, cond_false, LR (g := fun v => !AD v) (by omega) (fun x _ => by simp [sZ, XS])]
    simp only [Option.bind_some, h, decide_true, Bool.true_and]
    congr 1
    rw [List.all_eq_not_any_not]
  · have h1 : decide ((8 : Int) < ((r.length : Nat) : Int)) = true := by simp; omega
    rw [h1, cond_true]
    simp [h]

theorem JU {α : Type} [DecidableEq α] {f g : List α} {body : Int → Option (Int ⊕ (Unit ⊕ Bool))} (he : f.length = g.length)
    (hb : ∀ (i : Nat) a b, f[i]? = some a → g[i]? = some b → body i = some (if a = b then .inl ((i + 1 : Nat) : Int) else .inr (.inr false)))
    (hend : body (f.length : Nat) = some (.inr (.inl ()))) : ∀ (m k : Nat), f.length - k = m → k ≤ f.length → lp body (k : Int) = some (if f.drop k = g.drop k then .inl () else .inr false)
  | 0, k, hm, hk => by
    have : k = f.length := by omega
    subst this
    rw [List.drop_length, he, List.drop_length, if_pos rfl]
    rw [← he]
    exact cV hend
  | m + 1, k, hm, hk => by
    have h1 : k < f.length := by omega
    have h2 : k < g.length := by omega
    have hbk := hb k _ _ (List.getElem?_eq_getElem h1) (List.getElem?_eq_getElem h2)
    have e1 : f.drop k = f[k] :: f.drop (k + 1) := List.drop_eq_getElem_cons h1
    have e2 : g.drop k = g[k] :: g.drop (k + 1) := List.drop_eq_getElem_cons h2
    have hiff : (f.drop k = g.drop k) ↔ (f[k] = g[k] ∧ f.drop (k + 1) = g.drop (k + 1)) := by rw [e1, e2, List.cons.injEq]
    by_cases h : f[k] = g[k]
    · rw [if_pos h] at hbk
      rw [gF hbk, JU he hb hend m (k + 1) (by omega) (by omega)]
      simp only [hiff, h, true_and]
    · rw [if_neg h] at hbk
      rw [cV hbk]
      simp only [hiff, h, false_and, if_false]

theorem KK {α : Type} {f g : List α} (h : f.length ≠ g.length) : (!decide (((f.length : Nat) : Int) = ((g.length : Nat) : Int))) = true := by simp; omega

theorem AZ {α : Type} {f g : List α} (h : f.length = g.length) : (!decide (((f.length : Nat) : Int) = ((g.length : Nat) : Int))) = false := by simp [h]

theorem FQ (a b : List aC) (hl : a.length ≤ 17592186044416) : sI a b = some (decide (a = b)) := by
  unfold sI eV
  by_cases he : a.length = b.length
  · rw [AZ he, cond_false]
    unfold iX
    have := JU (f := a) (g := b) (body := fun s => eR a b (a.length : Nat) s) he ?_ ?_ a.length 0 rfl (Nat.zero_le _)
    · simp only [Int.natCast_zero, List.drop_zero] at this
      rw [this]
      by_cases h : a = b <;> simp [h, gC]
    · intro i x y hx hy
      obtain ⟨d1, d2, d3, d4⟩ := idx hx (by omega)
      obtain ⟨_, e2, e3, _⟩ := idx hy (by omega)
      simp only [eR, d1, cond_true, aM d2, aM e2, d3, e3, d4, veq]
      by_cases h : x = y <;> simp [h]
    · simp only [eR, lC, cond_false]
  · rw [KK he, cond_true]
    have : a ≠ b := fun h => he (by rw [h])
    simp [this]

theorem AO (a b : List aC) (hl : a.length ≤ 17592186044416) : pN a b = some (decide (a = b)) := by
  unfold pN
  by_cases he : a.length = b.length
  · rw [AZ he, cond_false]
    unfold tH
    have := JU (f := a) (g := b) (body := fun s => oJ a b s) he ?_ ?_ a.length 0 rfl (Nat.zero_le _)
    · simp only [Int.natCast_zero, List.drop_zero] at this
      rw [this]
      by_cases h : a = b <;> simp [h, qO]
    · intro i x y hx hy
      obtain ⟨d1, d2, d3, d4⟩ := idx hx (by omega)
      obtain ⟨_, e2, e3, _⟩ := idx hy (by omega)
      simp only [oJ, d1, cond_true, aM d2, aM e2, d3, e3, d4, veq]
      by_cases h : x = y <;> simp [h]
    · simp only [oJ, lC, cond_false]
  · rw [KK he, cond_true]
    have : a ≠ b := fun h => he (by rw [h])
    simp [this]

structure BX {α : Type} (c : α → α → Int) : Prop where
  eq : ∀ a b, c a b = 0 ↔ a = b
  anti : ∀ a b, c a b < 0 ↔ 0 < c b a
  trans : ∀ a b d, c a b < 0 → c b d < 0 → c a d < 0

def pW (x y : Int) : Int := if x < y then -1 else if y < x then 1 else 0

theorem xV : BX pW where
  eq a b := by unfold pW; (repeat' split) <;> omega
  anti a b := by unfold pW; (repeat' split) <;> omega
  trans a b d := by unfold pW; (repeat' split) <;> omega

def kS {α : Type} [DecidableEq α] (c : α → α → Int) : List α → List α → Int
  | [], [] => 0
  | [], _ :: _ => -1
  | _ :: _, [] => 1
  | a :: r, b :: s => if a = b then kS c r s else c a b

theorem BX.list {α : Type} [DecidableEq α] {c : α → α → Int} (h : BX c) : BX (kS c) where
  eq := by
    intro a
    induction a with
    | nil => intro b; cases b <;> simp [kS]
    | cons x r ih =>
      intro b
      cases b with
      | nil => simp [kS]
      | cons y s =>
        unfold kS
        split
        · rename_i e; subst e; rw [ih]; simp
        · rename_i e
          have := h.eq x y
          constructor
          · intro h0; exact absurd (this.1 h0) e
          · intro h0; cases h0; exact absurd rfl e
  anti := by
    intro a
    induction a with
    | nil => intro b; cases b <;> simp [kS]
    | cons x r ih =>
      intro b
      cases b with
      | nil => simp [kS]
      | cons y s =>
        unfold kS
        by_cases e : x = y
        · subst e; simp only [if_true]; exact ih s
        · rw [if_neg e, if_neg (fun e' => e e'.symm)]; exact h.anti x y
  trans := by
    intro a
    induction a with
    | nil =>
      intro b d
      cases b <;> cases d <;> simp [kS]
    | cons x r ih =>
      intro b d
      cases b with
      | nil => simp [kS]
      | cons y s =>
        cases d with
        | nil => simp [kS]
        | cons z t =>
          unfold kS
          by_cases e1 : x = y
          · subst e1
            rw [if_pos rfl]
            by_cases e2 : x = z
            · subst e2; rw [if_pos rfl, if_pos rfl]; exact ih s t
            · rw [if_neg e2, if_neg e2]; exact fun _ h => h
          · rw [if_neg e1]
            by_cases e2 : y = z
            · have hz : ¬ x = z := fun e => e1 (e.trans e2.symm)
              intro h _
              rw [if_neg hz, ← e2]; exact h
            · rw [if_neg e2]
              intro h1 h2
              by_cases e3 : x = z
              · subst e3
                have h3 := (h.anti x y).1 h1
                omega
              · rw [if_neg e3]; exact h.trans x y z h1 h2

def DX (a b : UInt8) : Int := if a < b then -1 else if b < a then 1 else 0

theorem DV : BX DX where
  eq a b := by
    unfold DX
    constructor
    · intro h
      split at h
      · cases h
      · split at h
        · cases h
        · rename_i h1 h2
          rw [UInt8.lt_iff_toNat_lt] at h1 h2
          exact UInt8.toNat_inj.1 (by omega)
    · rintro rfl
      have : ¬ a < a := by rw [UInt8.lt_iff_toNat_lt]; omega
      simp [this]
  anti a b := by
    unfold DX
    simp only [UInt8.lt_iff_toNat_lt]
    (repeat' split) <;> omega
  trans a b d := by
    unfold DX
    simp only [UInt8.lt_iff_toNat_lt]
    (repeat' split) <;> omega

theorem xZ : ∀ (a b : List UInt8), Go.Lib.compareBytes a b = kS DX a b
  | [], [] => rfl
  | [], _ :: _ => rfl
  | _ :: _, [] => rfl
  | a :: r, b :: s => by
    unfold Go.Lib.compareBytes kS
    rw [xZ r s]
    by_cases e : a = b
    · subst e
      have : ¬ a < a := by rw [UInt8.lt_iff_toNat_lt]; omega
      simp [this]
    · rw [if_neg e]
      unfold DX
      have : ¬ (¬ a < b ∧ ¬ b < a) := by
        rintro ⟨h1, h2⟩
        rw [UInt8.lt_iff_toNat_lt] at h1 h2
        exact e (UInt8.toNat_inj.1 (by omega))
      by_cases h1 : a < b
      · simp [h1]
      · have h2 : b < a := Classical.byContradiction fun h2 => this ⟨h1, h2⟩
        simp [h1, h2]

def LP (a b : ByteArray) : Int := kS DX a.data.toList b.data.toList

theorem YT (a b : ByteArray) : GY a b = LP a b := xZ _ _

theorem data_inj {x y : ByteArray} (h : x.data.toList = y.data.toList) : x = y := by
  cases x; cases y
  congr 1
  exact Array.toList_inj.1 h

theorem AB : BX LP where
  eq a b := by unfold LP; rw [(DV.list).eq]; exact ⟨data_inj, fun h => by rw [h]⟩
  anti a b := (DV.list).anti _ _
  trans a b d := (DV.list).trans _ _ _

def xS (a b : aC) : Int := if a.Kind = b.Kind then (if a.Num = b.Num then LP a.Text b.Text else pW a.Num b.Num) else pW a.Kind b.Kind

theorem UX : BX xS where
  eq a b := by
    obtain ⟨a1, a2, a3⟩ := a
    obtain ⟨b1, b2, b3⟩ := b
    unfold xS
    simp only [aC.mk.injEq]
    by_cases h1 : a1 = b1
    · by_cases h2 : a2 = b2
      · simp [h1, h2, AB.eq]
      · simp [h1, h2, xV.eq]
    · simp [h1, xV.eq]
  anti a b := by
    unfold xS
    by_cases h1 : a.Kind = b.Kind
    · rw [if_pos h1, if_pos h1.symm]
      by_cases h2 : a.Num = b.Num
      · rw [if_pos h2, if_pos h2.symm]; exact AB.anti _ _
      · rw [if_neg h2, if_neg (fun h => h2 h.symm)]; exact xV.anti _ _
    · rw [if_neg h1, if_neg (fun h => h1 h.symm)]; exact xV.anti _ _
  trans a b d := by
    unfold xS
    intro h1 h2
    have lt : ∀ {x y : Int}, pW x y < 0 → x < y := fun {x y} h => by unfold pW at h; split at h <;> (try split at h) <;> omega
    have mk : ∀ {x y : Int}, x < y → pW x y < 0 := fun {x y} h => by unfold pW; rw [if_pos h]; omega
    by_cases e1 : a.Kind = b.Kind
    · rw [if_pos e1] at h1
      by_cases e2 : b.Kind = d.Kind
      · rw [if_pos e2] at h2
        rw [if_pos (e1.trans e2)]
        by_cases f1 : a.Num = b.Num
        · rw [if_pos f1] at h1
          by_cases f2 : b.Num = d.Num
          · rw [if_pos f2] at h2
            rw [if_pos (f1.trans f2)]
            exact AB.trans _ _ _ h1 h2
          · rw [if_neg f2] at h2
            rw [f1, if_neg f2]; exact h2
        · rw [if_neg f1] at h1
          have g1 := lt h1
          by_cases f2 : b.Num = d.Num
          · rw [← f2, if_neg f1]; exact h1
          · rw [if_neg f2] at h2
            have g2 := lt h2
            rw [if_neg (by omega)]
            exact mk (by omega)
      · rw [if_neg e2] at h2
        rw [e1, if_neg e2]; exact h2
    · rw [if_neg e1] at h1
      have g1 := lt h1
      by_cases e2 : b.Kind = d.Kind
      · rw [← e2, if_neg e1]; exact h1
      · rw [if_neg e2] at h2
        have g2 := lt h2
        rw [if_neg (by omega)]
        exact mk (by omega)

def pL (a b : List aC) : Int := kS xS a b

theorem uU : BX pL := UX.list

end Go.Abs
namespace Go.Abs
open Go
theorem UD (x y : Int) : nD x y = some (pW x y) := by
  unfold nD jM pW
  by_cases h1 : x < y
  · simp [h1]
  · by_cases h2 : y < x <;> simp [h1, h2]

theorem TZ (x y : Int) : fO x y = some (pW x y) := by
  unfold fO kE pW
  by_cases h1 : x < y
  · simp [h1]
  · by_cases h2 : y < x <;> simp [h1, h2]

theorem CS {v : aC} (h : zW v = true) : v.Kind = 1 ∧ v.Text = (⟨#[]⟩ : ByteArray) := by
  simp only [zW, IS, Bool.and_eq_true, decide_eq_true_eq] at h; exact h

theorem zT {v : aC} (h : AI v = true) : v.Kind = 2 ∧ v.Num = 0 ∧ v.Text.size ≤ 64 := by
  simp only [AI, Bool.and_eq_true, decide_eq_true_eq] at h; exact ⟨h.1.1, h.1.2, by omega⟩

theorem OR {v : aC} (h : AD v = true) : zW v = true ∨ (zW v = false ∧ AI v = true) := by
  unfold AD at h
  cases hn : zW v
  · rw [hn] at h; exact .inr ⟨rfl, by simpa using h⟩
  · exact .inl rfl

theorem UI (a : ByteArray) : LP a a = 0 := (AB.eq a a).2 rfl

theorem BT (a : Int) : pW a a = 0 := (xV.eq a a).2 rfl

theorem TA {a b : aC} (ha : AD a = true) (hb : AD b = true) : oP a b = some (xS a b) := by
  unfold oP
  simp only [of_eq, Option.bind_some]
  rcases OR ha with h1 | ⟨h1, h1'⟩ <;> rcases OR hb with h2 | ⟨h2, h2'⟩
  · obtain ⟨k1, t1⟩ := CS h1
    obtain ⟨k2, t2⟩ := CS h2
    simp only [h1, h2, if_true, Bool.not_true, Bool.or_self, cond_false, TZ, Option.bind_some]
    unfold xS
    rw [k1, k2, t1, t2, if_pos rfl, UI]
    by_cases hn : a.Num = b.Num
    · rw [if_pos hn, hn, BT]
    · rw [if_neg hn]
  · obtain ⟨k1, t1⟩ := CS h1
    obtain ⟨k2, n2, _⟩ := zT h2'
    simp only [h1, h2, h2', if_true, Bool.false_eq_true, if_false, Bool.not_true, Bool.or_self, cond_false]
    unfold xS
    rw [k1, k2]; rfl
  · obtain ⟨k1, n1, _⟩ := zT h1'
    obtain ⟨k2, t2⟩ := CS h2
    simp only [h1, h1', h2, if_true, Bool.false_eq_true, if_false, Bool.not_true, Bool.or_self, cond_false]
    unfold xS
    rw [k1, k2]; rfl
  · obtain ⟨k1, n1, _⟩ := zT h1'
    obtain ⟨k2, n2, _⟩ := zT h2'
    simp only [h1, h1', h2, h2', if_true, Bool.false_eq_true, if_false, Bool.not_true, Bool.or_self, cond_false]
    unfold xS lS jD
    rw [k1, k2, n1, n2, if_pos rfl, if_pos rfl]
    simp [YT]

theorem PC {r : List aC} (h : rB r = true) : r.length ≤ 8 ∧ ∀ v ∈ r, AD v = true := by
  simp only [rB, Bool.and_eq_true, decide_eq_true_eq, List.all_eq_true] at h; exact h

theorem WM {a b : List aC} {k : Nat} (hk : k = a.length ∨ k = b.length) (h1 : k ≤ a.length) (h2 : k ≤ b.length) : pL (a.drop k) (b.drop k) = pW a.length b.length := by
  rcases hk with rfl | rfl
  · rw [List.drop_length]
    by_cases h : a.length = b.length
    · rw [h, List.drop_length, BT]; rfl
    · rw [List.drop_eq_getElem_cons (by omega)]
      show (-1 : Int) = _
      unfold pW; rw [if_pos (by omega)]
  · rw [List.drop_length]
    by_cases h : a.length = b.length
    · rw [← h, List.drop_length, BT]; rfl
    · rw [List.drop_eq_getElem_cons (by omega)]
      show (1 : Int) = _
      unfold pW; rw [if_neg (by omega), if_pos (by omega)]

theorem OZ {a b : List aC} (hl : a.length ≤ 8) (hlb : b.length ≤ 8) (n : Nat) (hn : n = min a.length b.length) : ∀ (m k : Nat), n - k = m → k ≤ n →
    ∃ x, lp (fun s : Int × Int => cB (fun st y0 => (jK y0 st b).bind fun o => some (o.2, o.1)) (a.take n) (n : Nat) s.1 s.2) ((k : Int) - 1, (k : Int)) = some x ∧
      ((∃ sg, x = .inl sg ∧ pL (a.drop k) (b.drop k) = pW a.length b.length) ∨
        (∃ i : Nat, x = .inr ((i : Int), (i : Int)) ∧ i < a.length ∧ i < b.length ∧ pL (a.drop k) (b.drop k) = xS (a.getD i default) (b.getD i default)))
  | 0, k, hm, hk => by
    have : k = n := by omega
    subst this
    refine ⟨.inl ((k : Int) - 1), cV ?_, .inl ⟨_, rfl, WM (by omega) (by omega) (by omega)⟩⟩
    show cB _ _ _ _ _ = _
    simp only [cB, lC, cond_false]
  | m + 1, k, hm, hk => by
    have h1 : k < a.length := by omega
    have h2 : k < b.length := by omega
    have ht : (a.take n)[k]? = some a[k] := by
      rw [List.getElem?_take_of_lt (by omega)]; exact List.getElem?_eq_getElem h1
    obtain ⟨d1, d2, d3, d4⟩ := idx ht (by simp; omega)
    have hlt : (a.take n).length = n := by simp; omega
    rw [hlt] at d1 d2
    obtain ⟨_, e2, e3, _⟩ := idx (List.getElem?_eq_getElem h2) (by omega)
    have hw : IntKind.i64.wrap ((k : Int) - 1 + 1) = (k : Int) := by rw [dP (by omega) (by omega)]; omega
    have hb : (fun s : Int × Int => cB (fun st y0 => (jK y0 st b).bind fun o => some (o.2, o.1)) (a.take n) (n : Nat) s.1 s.2) ((k : Int) - 1, (k : Int)) =
        some (if a[k] = b[k] then .inl ((k : Int), ((k + 1 : Nat) : Int)) else .inr (.inr ((k : Int), (k : Int)))) := by
      show cB _ _ _ _ _ = _
      simp only [cB, d1, cond_true, hlt, aM d2, d3, d4, jK, hw, aM e2, e3, veq, Option.bind_some]
      by_cases h : a[k] = b[k] <;> simp [h]
    have ea : a.drop k = a[k] :: a.drop (k + 1) := List.drop_eq_getElem_cons h1
    have eb : b.drop k = b[k] :: b.drop (k + 1) := List.drop_eq_getElem_cons h2
    by_cases h : a[k] = b[k]
    · rw [if_pos h] at hb
      obtain ⟨x, e, hx⟩ := OZ hl hlb n hn m (k + 1) (by omega) (by omega)
      have hc : pL (a.drop k) (b.drop k) = pL (a.drop (k + 1)) (b.drop (k + 1)) := by
        rw [ea, eb]; unfold pL; rw [kS, if_pos h]
      refine ⟨x, ?_, by rw [hc]; exact hx⟩
      rw [gF hb]
      rw [show ((k + 1 : Nat) : Int) - 1 = (k : Int) by omega] at e
      exact e
    · rw [if_neg h] at hb
      refine ⟨_, cV hb, .inr ⟨k, rfl, h1, h2, ?_⟩⟩
      rw [ea, eb]; unfold pL; rw [kS, if_neg h]
      simp [List.getD_eq_getElem?_getD, h1, h2]

theorem SQ (a b : List aC) : qE a b = some (if rB a && rB b then pL a b else 0) := by
  unfold qE
  rw [GR]
  simp only [Option.bind_some]
  cases ha : rB a
  · simp [cX]
  · simp only [Bool.not_true, Bool.not_false, cX, cond_true, GR, Option.bind_some, Bool.false_or]
    cases hb : rB b
    · simp
    · obtain ⟨la, ma⟩ := PC ha
      obtain ⟨lb, mb⟩ := PC hb
      have hif : (if ((List.length b : Nat) : Int) < ((List.length a : Nat) : Int) then ((List.length b : Nat) : Int) else ((List.length a : Nat) : Int)) = ((min a.length b.length : Nat) : Int) := by split <;> omega
      have hlt : (a.take (min a.length b.length)).length = min a.length b.length := by rw [List.length_take]; omega
      simp only [Bool.not_true, cond_false, hif, Int.toNat_natCast, rH, Option.bind_some, gS, gL, hlt, Bool.and_self, if_true]
      rw [aM ⟨by omega, by omega⟩]
      obtain ⟨x, e, hx⟩ := OZ (a := a) (b := b) la lb _ rfl _ 0 rfl (Nat.zero_le _)
      have e' : lp (fun s : Int × Int => cB (fun st y0 => (jK y0 st b).bind fun o => some (o.2, o.1)) (a.take (min a.length b.length)) (min a.length b.length : Nat) s.1 s.2) ((-1 : Int), (0 : Int)) = some x := e
      rw [e']
      simp only [List.drop_zero] at hx
      rcases hx with ⟨sg, rfl, h⟩ | ⟨i, rfl, h1, h2, h⟩
      · simp [eN, UD, h]
      · have hi : decide ((i : Int) < 0) = false := by simp
        simp only [Option.bind_some, Sum.elim_inr, hi, cond_false, Int.toNat_natCast]
        rw [aM ⟨by omega, by omega⟩, aM ⟨by omega, by omega⟩]
        have g1 : a.getD i default ∈ a := by simp [List.getD_eq_getElem?_getD, h1]
        have g2 : b.getD i default ∈ b := by simp [List.getD_eq_getElem?_getD, h2]
        rw [TA (ma _ g1) (mb _ g2), h]
        simp only [Option.bind_some]

end Go.Abs
namespace Go.Abs
open Go
def jE (e : aE) : aB := ⟨e.At, e.Net⟩

def gA (r : List aC) (f : List aB) : List aE → List (List aC × List aB)
  | [] => [(r, f)]
  | e :: l => if e.Row = r then gA r (f ++ [jE e]) l else (r, f) :: gA e.Row [jE e] l

def groups : List aE → List (List aC × List aB)
  | [] => []
  | e :: l => gA e.Row [jE e] l

def itG {σ : Type} (y : σ → List aC → List aB → Option (σ × Bool)) : List (List aC × List aB) → σ → Option σ
  | [], s => some s
  | g :: gs, s => (y s g.1 g.2).bind fun x => if x.2 then itG y gs x.1 else some x.1

def okL (l : List aE) : Prop := l.length ≤ 3518437208783 ∧ ∀ e ∈ l, e.Row.length ≤ 4398046510976

theorem EV {r : List aC} (h : r.length ≤ 4398046510976) : sN r = some r := by
  unfold sN
  rw [aM ⟨by omega, by omega, by omega⟩, aM (by simp only [List.length_nil, Nat.zero_add]; omega)]
  rfl

theorem EZ {σ : Type} {y : σ → List aC → List aB → Option (σ × Bool)} {l : List aE} (hl : okL l) (row : List aC) (sg : σ) : ∀ (r : List aE) (k : Nat) (f : List aB), l.drop k = r → k ≤ l.length → f.length ≤ k →
    ∃ k' f', k ≤ k' ∧ k' ≤ l.length ∧ f'.length ≤ k' ∧ lp (fun s : σ × Int × List aB => jB y l row s.1 s.2.1 s.2.2) (sg, (k : Int), f) = some (sg, ((k' : Nat) : Int), f') ∧
      gA row f r = (row, f') :: groups (l.drop k') ∧ (∀ e r', r = e :: r' → e.Row = row → k < k')
  | [], k, f, hd, hk, hf => by
    have : k = l.length := by
      have := congrArg List.length hd
      simp only [List.length_drop, List.length_nil] at this; omega
    subst this
    refine ⟨l.length, f, Nat.le_refl _, Nat.le_refl _, hf, cV ?_, by simp [gA, groups], fun e r' h => by cases h⟩
    show jB _ _ _ _ _ _ = _
    simp only [jB, lC, cX, cond_false, Option.bind_some, Bool.false_and]
    exact aM (fun h => by cases h)
  | a :: r, k, f, hd, hk, hf => by
    obtain ⟨h1, h2⟩ := drop_cons hd
    have hlt : k < l.length := (List.getElem?_eq_some_iff.1 h1).1
    obtain ⟨hll, hlr⟩ := hl
    obtain ⟨d1, d2, d3, d4⟩ := idx h1 (by omega)
    have har := hlr a (List.mem_of_getElem? h1)
    have hb : (fun s : σ × Int × List aB => jB y l row s.1 s.2.1 s.2.2) (sg, (k : Int), f) = some (if a.Row = row then .inl (sg, ((k + 1 : Nat) : Int), f ++ [jE a]) else .inr (sg, (k : Int), f)) := by
      show jB _ _ _ _ _ _ = _
      simp only [jB, d1, d3, d4, cX, cond_true, FQ a.Row row (by omega), Option.bind_some, Bool.true_and]
      rw [aM (fun _ => d2)]
      by_cases e : a.Row = row
      · simp only [e, decide_true, cond_true, if_true]
        rw [aM d2, aM d2, aM (by simp only [List.length_cons, List.length_nil]; omega)]
        rfl
      · simp [e]
    by_cases e : a.Row = row
    · rw [if_pos e] at hb
      obtain ⟨k', f', g1, g2, g3, g4, g5, _⟩ := EZ ⟨hll, hlr⟩ row sg r (k + 1) (f ++ [jE a]) h2 (by omega) (by simp; omega) (y := y)
      refine ⟨k', f', by omega, g2, g3, by rw [gF hb]; exact g4, by simp [gA, e, g5], fun _ _ _ _ => by omega⟩
    · rw [if_neg e] at hb
      refine ⟨k, f, Nat.le_refl _, hk, hf, cV hb, ?_, fun b r' h hr => by cases h; exact absurd hr e⟩
      rw [hd]; simp [gA, e, groups]

theorem QY {σ : Type} {y : σ → List aC → List aB → Option (σ × Bool)} {l : List aE} (hl : okL l) : ∀ (m k : Nat) (sg s' : σ), l.length - k ≤ m → k ≤ l.length → itG y (groups (l.drop k)) sg = some s' →
    ∃ x, lp (fun s : σ × Int => iE y l s.1 s.2) (sg, (k : Int)) = some x ∧ Sum.elim id id x = s' := by
  have stop : ∀ (sg s' : σ), itG y (groups (l.drop l.length)) sg = some s' → ∃ x, lp (fun s : σ × Int => iE y l s.1 s.2) (sg, ((l.length : Nat) : Int)) = some x ∧ Sum.elim id id x = s' := by
    intro sg s' h
    rw [List.drop_length] at h
    simp only [groups, itG, Option.some.injEq] at h
    refine ⟨.inl sg, cV ?_, h⟩
    show iE _ _ _ _ = _
    simp only [iE, lC, cond_false]
  intro m
  induction m with
  | zero =>
    intro k sg s' hm hk h
    have : k = l.length := by omega
    subst this; exact stop sg s' h
  | succ m ih =>
    intro k sg s' hm hk h
    by_cases he : k = l.length
    · subst he; exact stop sg s' h
    · have hlt : k < l.length := by omega
      have hd : l.drop k = l[k] :: l.drop (k + 1) := List.drop_eq_getElem_cons hlt
      obtain ⟨d1, d2, d3, d4⟩ := idx (List.getElem?_eq_getElem hlt) (by have := hl.1; omega)
      obtain ⟨k', f', g1, g2, g3, g4, g5, g6⟩ := EZ hl l[k].Row sg (l.drop k) k [] rfl hk (by simp) (y := y)
      have hk' := g6 _ _ hd rfl
      have hg : groups (l.drop k) = (l[k].Row, f') :: groups (l.drop k') := by
        rw [← g5, hd]; simp [groups, gA]
      rw [hg] at h
      simp only [itG] at h
      obtain ⟨x, hx, h⟩ := aY h
      have hrow := hl.2 _ (List.getElem_mem hlt)
      have hb : (fun s : σ × Int => iE y l s.1 s.2) (sg, (k : Int)) = some (if x.2 then .inl (x.1, ((k' : Nat) : Int)) else .inr (.inr x.1)) := by
        show iE _ _ _ _ = _
        simp only [iE, d1, cond_true, aM d2, d3, qA, g4, Option.bind_some, nP, EV hrow, hx]
        cases x.2 <;> simp
      cases hx2 : x.2
      · rw [hx2] at hb h
        simp only [Bool.false_eq_true, if_false, Option.some.injEq] at hb h
        exact ⟨_, cV hb, h⟩
      · rw [hx2] at hb h
        simp only [if_true] at hb h
        obtain ⟨z, hz1, hz2⟩ := ih k' x.1 s' (by omega) g2 h
        exact ⟨z, by rw [gF hb]; exact hz1, hz2⟩

theorem OH {σ : Type} {y : σ → List aC → List aB → Option (σ × Bool)} {l : List aE} (hl : okL l) {s s' : σ} (h : itG y (groups l) s = some s') : mX y l s = some s' := by
  unfold mX pV
  obtain ⟨x, h1, h2⟩ := QY hl l.length 0 s s' (by omega) (Nat.zero_le _) (by simpa using h)
  simp only [Int.natCast_zero] at h1
  rw [h1]
  cases x <;> simpa using h2

def ahd (last : Option (List aC)) (r : List aC) : Bool := match last with
  | none => true
  | some q => decide (pL q r < 0)

def tK (p : List aB → Bool) : Option (List aC) → List (List aC × List aB) → Bool
  | _, [] => true
  | last, g :: gs => (rB g.1 && ahd last g.1 && p g.2) && tK p (some g.1) gs

theorem OT {holds : List aB → Option Bool} {p : List aB → Bool} (hp : ∀ f, holds f = some (p f)) (c : List aE) (t : Bool) : ∀ (gs : List (List aC × List aB)) (last : List aC) (b : Bool), (b = true → rB last = true) →
    ∃ x, itG (fun st r f => rnd (fun (s : Bool × (List aC) × Bool) => nS holds c s.1 s.2.1 s.2.2 r f) st) gs (.inl (t, last, b)) = some x ∧
      (if tK p (if b then some last else none) gs then ∃ u, x = .inl (t, u) else ∃ u, x = .inr (false, u))
  | [], last, b, _ => ⟨_, rfl, by simp [tK]⟩
  | g :: gs, last, b, hb => by
    have hy : nS holds c t last b g.1 g.2 = some (if rB g.1 && ahd (if b then some last else none) g.1 && p g.2 then .inl (t, g.1, true) else .inr (false, last, b)) := by
      unfold nS
      simp only [GR, Option.bind_some, SQ, hp]
      cases hm : rB g.1
      · simp [cX]
      · cases b
        · cases h2 : p g.2 <;> simp [cX, ahd, h2]
        · have hl := hb rfl
          by_cases h1 : pL last g.1 < 0
          · have h1' : ¬ (0 ≤ pL last g.1) := by omega
            cases h2 : p g.2 <;> simp [cX, ahd, h2, hl, h1, h1']
          · have h1' : 0 ≤ pL last g.1 := by omega
            simp [cX, ahd, hl, h1, h1']
    cases hc : (rB g.1 && ahd (if b then some last else none) g.1 && p g.2)
    · rw [hc] at hy
      simp only [itG, rnd, hy, Option.bind_some, tK, hc]
      exact ⟨.inr (false, last, b), by simp, by simp⟩
    · rw [hc] at hy
      simp only [itG, rnd, hy, Option.bind_some, tK, hc]
      have hm : rB g.1 = true := by simp only [Bool.and_eq_true] at hc; exact hc.1.1
      obtain ⟨x, h1, h2⟩ := OT hp c t gs g.1 true (fun _ => hm)
      refine ⟨x, ?_, ?_⟩
      · simpa [rnd] using h1
      · simpa using h2

theorem OX {l : List aE} (hl : okL l) {holds : List aB → Option Bool} {p : List aB → Bool} (hp : ∀ f, holds f = some (p f)) : qU l holds = some (decide (l.length ≤ 4096) && tK p none (groups l)) := by
  unfold qU
  by_cases h : l.length ≤ 4096
  · have h1 : decide ((4096 : Int) < ((l.length : Nat) : Int)) = false := by simp; omega
    rw [h1, cond_false]
    simp only [qS, Option.bind_some, uJ]
    obtain ⟨x, e1, e2⟩ := OT hp l false (groups l) [] false (fun h => by cases h)
    rw [OH hl e1]
    simp only [Bool.false_eq_true, if_false] at e2
    simp only [h, decide_true, Bool.true_and]
    cases hc : tK p none (groups l)
    · rw [hc] at e2
      simp only [Bool.false_eq_true, if_false] at e2
      obtain ⟨u, rfl⟩ := e2
      rfl
    · rw [hc] at e2
      simp only [if_true] at e2
      obtain ⟨u, rfl⟩ := e2
      rfl
  · have h1 : decide ((4096 : Int) < ((l.length : Nat) : Int)) = true := by simp; omega
    rw [h1, cond_true]
    simp [h]

def kV (l : List aE) : Bool := decide (l.length ≤ 4096) && tK jW none (groups l)

theorem OK {l : List aE} (hl : okL l) : sJ l = some (kV l) := by
  unfold sJ
  rw [OX hl (p := jW) (fun f => CE f)]; rfl

def WV (f : List aB) : Bool := jW f && decide (0 ≤ GK f)

def BA (l : List aE) : Bool := decide (l.length ≤ 4096) && tK WV none (groups l)

theorem SI {l : List aE} (hl : okL l) : sA l = some (BA l) := by
  unfold sA
  rw [OX hl (p := WV) (fun f => by
    unfold pG WV
    rw [CE]
    cases h : jW f <;> simp [cX, WE, h])]
  rfl

def gT (r : List aC) (f : List aB) : List aE := f.map fun j => ⟨r, j.At, j.Net⟩

theorem put_eq {out : List aE} {r : List aC} {f : List aB} (hr : r.length ≤ 4398046510976) (hl : out.length + f.length ≤ 1099511627776) : uL out r f = some (out ++ gT r f) := by
  unfold uL vK
  rw [yY (l := f) (body := fun s : List aE × Int => nJ r f (f.length : Nat) s.1 s.2) (fun o i => (o, i)) (fun o t => o ++ gT r t) (fun o t => o.length + t.length ≤ 1099511627776) out ?_ ?_ hl]
  · rfl
  · intro i a t o ha hi
    left
    obtain ⟨d1, d2, d3, d4⟩ := idx ha (by have := (List.getElem?_eq_some_iff.1 ha).1; omega)
    simp only [List.length_cons] at hi
    refine ⟨o ++ [⟨r, a.At, a.Net⟩], ?_, by simp; omega, by simp [gT]⟩
    show nJ _ _ _ _ _ = _
    simp only [nJ, d1, cond_true, aM d2, d3, d4, EV hr, Option.bind_some]
    exact aM (by simp only [List.length_cons, List.length_nil]; omega)
  · intro o _
    show nJ _ _ _ _ _ = _
    simp only [nJ, lC, cond_false]
    simp [gT]

def uD (by1 : List aB → List aB × Int) : List (List aC × List aB) → List aE → List aE × Int
  | [], out => (out, 0)
  | g :: gs, out => if (by1 g.2).2 ≠ 0 then ([], (by1 g.2).2) else if 4096 < (out ++ gT g.1 (by1 g.2).1).length then ([], 7) else uD by1 gs (out ++ gT g.1 (by1 g.2).1)

theorem HX {by0 : List aB → Option (List aB × Int)} {by1 : List aB → List aB × Int} (c : List aE) : ∀ (gs : List (List aC × List aB)) (out : List aE), out.length ≤ 4096 → (∀ g ∈ gs, by0 g.2 = some (by1 g.2) ∧ (by1 g.2).1.length ≤ 1024 ∧ g.1.length ≤ 4398046510976) →
    ∃ x, itG (fun st r f => rnd (fun (s : (List aE) × Int × List aE) => mI by0 c s.1 s.2.1 s.2.2 r f) st) gs (.inl ([], 0, out)) = some x ∧ Sum.elim (fun s : (List aE) × Int × List aE => (s.2.2, (0 : Int))) (fun s => (s.1, s.2.1)) x = uD by1 gs out
  | [], out, _, _ => ⟨_, rfl, rfl⟩
  | g :: gs, out, ho, hg => by
    obtain ⟨h1, h2, h3⟩ := hg g (by simp)
    have hy : mI by0 c [] 0 out g.1 g.2 = some (if (by1 g.2).2 ≠ 0 then .inr ([], (by1 g.2).2, out) else if 4096 < (out ++ gT g.1 (by1 g.2).1).length then .inr ([], 7, out ++ gT g.1 (by1 g.2).1) else .inl ([], 0, out ++ gT g.1 (by1 g.2).1)) := by
      unfold mI
      simp only [h1, Option.bind_some, put_eq h3 (show out.length + (by1 g.2).1.length ≤ 1099511627776 by omega)]
      by_cases e1 : (by1 g.2).2 = 0
      · by_cases e2 : 4096 < (out ++ gT g.1 (by1 g.2).1).length
        · have e2' : (4096 : Int) < (((out ++ gT g.1 (by1 g.2).1).length : Nat) : Int) := by omega
          simp only [e1, e2, e2', decide_true, Bool.not_true, cond_false, cond_true, ne_eq, not_true_eq_false, if_false, if_true]
        · have e2' : ¬ (4096 : Int) < (((out ++ gT g.1 (by1 g.2).1).length : Nat) : Int) := by omega
          simp only [e1, e2, e2', decide_true, decide_false, Bool.not_true, cond_false, ne_eq, not_true_eq_false, if_false]
      · simp only [e1, decide_false, Bool.not_false, cond_true, ne_eq, not_false_eq_true, if_true]
    simp only [itG, rnd, hy, Option.bind_some, uD]
    by_cases e1 : (by1 g.2).2 ≠ 0
    · rw [if_pos e1, if_pos e1]; exact ⟨_, rfl, rfl⟩
    · rw [if_neg e1, if_neg e1]
      by_cases e2 : 4096 < (out ++ gT g.1 (by1 g.2).1).length
      · rw [if_pos e2, if_pos e2]; exact ⟨_, rfl, rfl⟩
      · rw [if_neg e2, if_neg e2]
        exact HX c gs _ (by omega) (fun q hq => hg q (by simp [hq]))

theorem SS {l : List aE} (hl : okL l) {by0 : List aB → Option (List aB × Int)} {by1 : List aB → List aB × Int} (hb : ∀ g ∈ groups l, by0 g.2 = some (by1 g.2) ∧ (by1 g.2).1.length ≤ 1024 ∧ g.1.length ≤ 4398046510976) : qJ l by0 = some (uD by1 (groups l) []) := by
  unfold qJ
  simp only [qS, Option.bind_some, sE]
  obtain ⟨x, e1, e2⟩ := HX (by0 := by0) (by1 := by1) l (groups l) [] (by simp) hb
  rw [OH hl e1]
  cases x <;> simpa using e2

def flat (gs : List (List aC × List aB)) : List aE := gs.flatMap fun g => gT g.1 g.2

theorem HS : ∀ (l : List aE) (r : List aC) (f : List aB), flat (gA r f l) = gT r f ++ l
  | [], r, f => by simp [gA, flat]
  | e :: l, r, f => by
    unfold gA
    split
    · rename_i h
      rw [HS l r]
      simp [gT, jE, ← h]
    · have := HS l e.Row [jE e]
      simp only [flat, List.flatMap_cons] at this ⊢
      rw [this]
      simp [gT, jE]

theorem yL (l : List aE) : flat (groups l) = l := by
  cases l with
  | nil => rfl
  | cons e l => unfold groups; rw [HS]; simp [gT, jE]

theorem KI {r : List aC} : ∀ {l : List aE} {f : List aB} {g : List aC × List aB}, g ∈ gA r f l → f ≠ [] → g.2 ≠ [] ∧ (g.1 = r ∨ ∃ e ∈ l, g.1 = e.Row)
  | [], f, g, h, hf => by simp only [gA, List.mem_singleton] at h; subst h; exact ⟨hf, .inl rfl⟩
  | e :: l, f, g, h, hf => by
    unfold gA at h
    split at h
    · obtain ⟨h1, h2⟩ := KI h (by simp)
      exact ⟨h1, h2.imp id fun ⟨x, hx, hx'⟩ => ⟨x, by simp [hx], hx'⟩⟩
    · rcases List.mem_cons.1 h with rfl | h
      · exact ⟨hf, .inl rfl⟩
      · obtain ⟨h1, h2⟩ := KI (r := e.Row) h (by simp)
        refine ⟨h1, .inr ?_⟩
        rcases h2 with h2 | ⟨x, hx, hx'⟩
        · exact ⟨e, by simp, h2⟩
        · exact ⟨x, by simp [hx], hx'⟩

theorem PJ {l : List aE} {g : List aC × List aB} (h : g ∈ groups l) : g.2 ≠ [] ∧ ∃ e ∈ l, g.1 = e.Row := by
  cases l with
  | nil => simp [groups] at h
  | cons e l =>
    obtain ⟨h1, h2⟩ := KI h (by simp)
    refine ⟨h1, ?_⟩
    rcases h2 with h2 | ⟨x, hx, hx'⟩
    · exact ⟨e, by simp, h2⟩
    · exact ⟨x, by simp [hx], hx'⟩

end Go.Abs
namespace Go.Abs
open Go
def fK (l : List aE) (r : List aC) : List aB := (l.filter fun e => decide (e.Row = r)).map jE

theorem yW (a b : List aE) (r : List aC) : fK (a ++ b) r = fK a r ++ fK b r := by simp [fK]

theorem JH (q : List aC) (f : List aB) (r : List aC) : fK (gT q f) r = if q = r then f else [] := by
  induction f with
  | nil => simp [fK, gT]
  | cons j f ih =>
    have h1 : gT q (j :: f) = [⟨q, j.At, j.Net⟩] ++ gT q f := rfl
    rw [h1, yW, ih]
    by_cases h : q = r <;> simp [fK, jE, h]

def look : List (List aC × List aB) → List aC → List aB
  | [], _ => []
  | g :: gs, r => if g.1 = r then g.2 else look gs r

theorem pQ (g : List aC × List aB) (gs : List (List aC × List aB)) (r : List aC) : look (g :: gs) r = if g.1 = r then g.2 else look gs r := rfl

abbrev ltG (a b : List aC × List aB) : Prop := pL a.1 b.1 < 0

abbrev sR (gs : List (List aC × List aB)) : Prop := gs.Pairwise ltG

abbrev Full (gs : List (List aC × List aB)) : Prop := ∀ g ∈ gs, g.2 ≠ []

theorem rM {a : List aC} : ¬ pL a a < 0 := by rw [(uU.eq a a).2 rfl]; omega

theorem tT : ∀ {gs : List (List aC × List aB)} {r : List aC}, (∀ g ∈ gs, g.1 ≠ r) → look gs r = []
  | [], _, _ => rfl
  | g :: gs, r, h => by
    rw [pQ]
    rw [if_neg (h g (by simp))]
    exact tT fun q hq => h q (by simp [hq])

theorem FE (gs : List (List aC × List aB)) (r : List aC) : (look gs r = [] ∧ ∀ g ∈ gs, g.1 ≠ r) ∨ ∃ g ∈ gs, g.1 = r ∧ look gs r = g.2 := by
  induction gs with
  | nil => exact .inl ⟨rfl, by simp⟩
  | cons g gs ih =>
    rw [pQ]
    by_cases h : g.1 = r
    · rw [if_pos h]; exact .inr ⟨g, by simp, h, rfl⟩
    · rw [if_neg h]
      rcases ih with ⟨h1, h2⟩ | ⟨q, hq, h1, h2⟩
      · refine .inl ⟨h1, fun q hq => ?_⟩
        rcases List.mem_cons.1 hq with rfl | hq
        · exact h
        · exact h2 q hq
      · exact .inr ⟨q, by simp [hq], h1, h2⟩

theorem MQ {gs : List (List aC × List aB)} (hs : sR gs) {g : List aC × List aB} (hg : g ∈ gs) : look gs g.1 = g.2 := by
  induction gs with
  | nil => simp at hg
  | cons q gs ih =>
    have hs' := List.pairwise_cons.1 hs
    rw [pQ]
    rcases List.mem_cons.1 hg with rfl | hg
    · rw [if_pos rfl]
    · rw [if_neg (fun e => by have := hs'.1 g hg; simp only [ltG, e] at this; exact rM this)]
      exact ih hs'.2 hg

theorem pP (g : List aC × List aB) (gs : List (List aC × List aB)) : flat (g :: gs) = gT g.1 g.2 ++ flat gs := rfl

theorem uH : ∀ {gs : List (List aC × List aB)}, sR gs → ∀ r, fK (flat gs) r = look gs r
  | [], _, r => rfl
  | g :: gs, hs, r => by
    have hs' := List.pairwise_cons.1 hs
    rw [pP, yW, JH, uH hs'.2, pQ]
    by_cases h : g.1 = r
    · rw [if_pos h, if_pos h, tT, List.append_nil]
      intro q hq e
      have := hs'.1 q hq
      simp only [ltG, h, e] at this; exact rM this
    · rw [if_neg h, if_neg h]; rfl

theorem OC : ∀ {gs hs : List (List aC × List aB)}, sR gs → sR hs → Full gs → Full hs → (∀ r, look gs r = look hs r) → gs = hs
  | [], [], _, _, _, _, _ => rfl
  | [], h :: hs, _, _, _, fh, he => by
    have := he h.1
    simp only [pQ, look, if_true] at this
    exact absurd this.symm (fh h (by simp))
  | g :: gs, [], _, _, fg, _, he => by
    have := he g.1
    simp only [pQ, look, if_true] at this
    exact absurd this (fg g (by simp))
  | g :: gs, h :: hs, sg, sh, fg, fh, he => by
    have sg' := List.pairwise_cons.1 sg
    have sh' := List.pairwise_cons.1 sh
    by_cases e : g.1 = h.1
    · have h2 := he g.1
      simp only [look, if_true, if_pos e.symm] at h2
      have ht : gs = hs := OC sg'.2 sh'.2 (fun q hq => fg q (by simp [hq])) (fun q hq => fh q (by simp [hq])) fun r => by
        by_cases hr : g.1 = r
        · subst hr
          rw [tT (gs := gs), tT (gs := hs)]
          · intro q hq e'; have := sh'.1 q hq; simp only [ltG, ← e, e'] at this; exact rM this
          · intro q hq e'; have := sg'.1 q hq; simp only [ltG, e'] at this; exact rM this
        · have := he r
          simp only [look, if_neg hr, if_neg (fun x => hr (e.trans x))] at this
          exact this
      rw [ht]
      obtain ⟨g1, g2⟩ := g
      obtain ⟨h1, h3⟩ := h
      simp only at e h2
      rw [e, h2]
    · exfalso
      have hne : pL g.1 h.1 ≠ 0 := fun x => e ((uU.eq _ _).1 x)
      by_cases hlt : pL g.1 h.1 < 0
      · have h2 := he g.1
        rw [MQ sg (by simp), tT] at h2
        · exact fg g (by simp) h2
        · intro q hq e'
          rcases List.mem_cons.1 hq with rfl | hq
          · exact e e'.symm
          · have := uU.trans _ _ _ hlt (sh'.1 q hq)
            rw [e'] at this; exact rM this
      · have hlt' : pL h.1 g.1 < 0 := (uU.anti _ _).2 (by omega)
        have h2 := he h.1
        rw [MQ sh (by simp), tT] at h2
        · exact fh h (by simp) h2.symm
        · intro q hq e'
          rcases List.mem_cons.1 hq with rfl | hq
          · exact e e'
          · have := uU.trans _ _ _ hlt' (sg'.1 q hq)
            rw [e'] at this; exact rM this

theorem CB {p : List aB → Bool} : ∀ {gs : List (List aC × List aB)} {last : Option (List aC)}, tK p last gs = true ↔ (∀ g ∈ gs, rB g.1 = true ∧ p g.2 = true) ∧ sR gs ∧ (∀ q, last = some q → ∀ g ∈ gs, pL q g.1 < 0)
  | [], last => by simp [tK]
  | g :: gs, last => by
    unfold tK
    simp only [Bool.and_eq_true, CB (gs := gs), List.mem_cons, List.pairwise_cons]
    constructor
    · rintro ⟨⟨⟨h1, h2⟩, h3⟩, h4, h5, h6⟩
      refine ⟨?_, ⟨fun q hq => h6 _ rfl q hq, h5⟩, ?_⟩
      · rintro q (rfl | hq)
        · exact ⟨h1, h3⟩
        · exact h4 q hq
      · rintro q rfl x (rfl | hx)
        · simpa [ahd] using h2
        · simp only [ahd, decide_eq_true_eq] at h2
          exact uU.trans _ _ _ h2 (h6 _ rfl x hx)
    · rintro ⟨h1, ⟨h2, h3⟩, h4⟩
      refine ⟨⟨⟨(h1 g (.inl rfl)).1, ?_⟩, (h1 g (.inl rfl)).2⟩, fun q hq => h1 q (.inr hq), h3, ?_⟩
      · unfold ahd
        split
        · rfl
        · exact decide_eq_true (h4 _ rfl g (.inl rfl))
      · rintro q hq x hx
        cases hq
        exact h2 x hx

theorem mK {l : List aE} (h : kV l = true) : l.length ≤ 4096 ∧ (∀ g ∈ groups l, rB g.1 = true ∧ jW g.2 = true) ∧ sR (groups l) := by
  simp only [kV, Bool.and_eq_true, decide_eq_true_eq] at h
  obtain ⟨h1, h2, _⟩ := CB.1 h.2
  exact ⟨h.1, h1, h2⟩

theorem TE {l : List aE} (h : kV l = true) (r : List aC) : jW (look (groups l) r) = true := by
  rcases FE (groups l) r with ⟨h1, _⟩ | ⟨g, hg, _, h1⟩
  · rw [h1]; exact PD
  · rw [h1]; exact ((mK h).2.1 g hg).2

theorem FA {l : List aE} (h : sR (groups l)) (r : List aC) : look (groups l) r = fK l r := by
  rw [← uH h, yL]

theorem PB (r : List aC) (f : List aB) (e : aE) (l : List aE) : gA r f (e :: l) = if e.Row = r then gA r (f ++ [jE e]) l else (r, f) :: gA e.Row [jE e] l := rfl

theorem LH (r : List aC) : ∀ (f2 f : List aB) (l : List aE), gA r f (gT r f2 ++ l) = gA r (f ++ f2) l
  | [], f, l => by simp [gT]
  | j :: f2, f, l => by
    show gA r f (⟨r, j.At, j.Net⟩ :: (gT r f2 ++ l)) = _
    rw [PB, if_pos rfl, LH r f2]
    simp [jE]

theorem IB : ∀ {gs : List (List aC × List aB)}, sR gs → Full gs → groups (flat gs) = gs
  | [], _, _ => rfl
  | (r, f) :: gs, hs, hf => by
    have hs' := List.pairwise_cons.1 hs
    have hne := hf (r, f) (by simp)
    have ih := IB hs'.2 (fun g hg => hf g (by simp [hg]))
    cases f with
    | nil => exact absurd rfl hne
    | cons j f =>
      rw [pP]
      show gA r [jE ⟨r, j.At, j.Net⟩] (gT r f ++ flat gs) = _
      rw [LH]
      have key : ∀ (F : List aB), gA r F (flat gs) = (r, F) :: groups (flat gs) := by
        intro F
        cases gs with
        | nil => rfl
        | cons g gs =>
          obtain ⟨q, f'⟩ := g
          have hq := hf (q, f') (by simp)
          cases f' with
          | nil => exact absurd rfl hq
          | cons j' f' =>
            have hqr : q ≠ r := fun e => by
              have := hs'.1 (q, j' :: f') (by simp)
              simp only [ltG, e] at this; exact rM this
            rw [pP]
            show gA r F (⟨q, j'.At, j'.Net⟩ :: (gT q f' ++ flat gs)) = _
            rw [gA, if_neg hqr]
            rfl
      rw [key, ih]
      rfl

def vF (gs : List (List aC × List aB)) : List (List aC × List aB) := gs.filter fun g => !g.2.isEmpty

theorem yF : ∀ (gs : List (List aC × List aB)), flat (vF gs) = flat gs
  | [] => rfl
  | (r, []) :: gs => by
    have : vF ((r, []) :: gs) = vF gs := rfl
    rw [this, yF gs, pP]; rfl
  | (r, j :: f) :: gs => by
    have : vF ((r, j :: f) :: gs) = (r, j :: f) :: vF gs := rfl
    rw [this, pP, pP, yF gs]

theorem BI (gs : List (List aC × List aB)) : Full (vF gs) := by
  intro g hg
  have := (List.mem_filter.1 hg).2
  intro h; rw [h] at this; simp at this

theorem uF {gs : List (List aC × List aB)} (hs : sR gs) : groups (flat gs) = vF gs := by
  rw [← yF]
  exact IB (hs.filter _) (BI gs)

theorem IY {gs : List (List aC × List aB)} (hs : sR gs) (r : List aC) : look (groups (flat gs)) r = look gs r := by
  have h1 := uH (gs := vF gs) (hs.filter _) r
  rw [uF hs, ← h1, ← uH hs, yF]

theorem RP {gs : List (List aC × List aB)} (hs : sR gs) (hm : ∀ g ∈ gs, rB g.1 = true ∧ jW g.2 = true) (hl : (flat gs).length ≤ 4096) : kV (flat gs) = true := by
  simp only [kV, Bool.and_eq_true, decide_eq_true_eq]
  refine ⟨hl, CB.2 ?_⟩
  rw [uF hs]
  exact ⟨fun g hg => hm g (List.mem_filter.1 hg).1, hs.filter _, by simp⟩

def vD (by1 : List aB → List aB × Int) (gs : List (List aC × List aB)) : List (List aC × List aB) := gs.map fun g => (g.1, (by1 g.2).1)

theorem AL {by1 : List aB → List aB × Int} {gs : List (List aC × List aB)} (hs : sR gs) : sR (vD by1 gs) := by
  rw [sR, vD, List.pairwise_map]; exact hs

theorem yA {by1 : List aB → List aB × Int} (h0 : (by1 []).1 = []) : ∀ (gs : List (List aC × List aB)) (r : List aC), look (vD by1 gs) r = (by1 (look gs r)).1
  | [], r => h0.symm
  | g :: gs, r => by
    show look ((g.1, (by1 g.2).1) :: vD by1 gs) r = _
    rw [pQ, pQ]
    by_cases h : g.1 = r
    · rw [if_pos h, if_pos h]
    · rw [if_neg h, if_neg h]; exact yA h0 gs r

end Go.Abs
