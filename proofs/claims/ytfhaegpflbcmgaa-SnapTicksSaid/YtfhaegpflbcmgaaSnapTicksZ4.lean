/- What the law SnapTicks stands on: the framework, the given functions as plain functions, their walks, and the plain laws; part 4. -/
import Derived.Test.YtfhaegpflbcmgaaSnapTicksZ3
set_option linter.unusedSimpArgs false
set_option linter.unusedVariables false
namespace Go.Abs
open Go Go.RowKit Go.Proofs
theorem uP (lo0p : Nat) (aA : (List Int)) (a1 : Int) (b2 : Int) (cI : Int) (r : ((Int × Bool) × List Int)) (h0 : fQ aA a1 b2 cI = some r) : lW Try.prog 86 lo0p 1 (List.map (eI) aA) (List.map (eI) r.2) [(.msl 1 lo0p 0 (List.length aA)), (eI a1), (eI b2), (eI cI)] (.tup [(eI r.1.1), (aE r.1.2)]) := by
  intro H0 hl0
  refine dR Try.func86 ?_
  have hO := aJ.rK hl0
  clear hl0
  obtain ⟨N0, hN0⟩ : ∃ n, n = List.length aA := ⟨_, rfl⟩
  have hN : List.length aA = N0 := hN0.symm
  unfold fQ at h0
  refine aS aD 2 [] [] ?_
  refine aN ?_
  refine fS (fR []) aD 16 ?_
  obtain ⟨c1, h0⟩ := aV h0
  refine cF 7 [0 ≤ cI ∧ cI < (lN aA)] ⟨c1, trivial⟩ ?_
  refine gS 0 lo0p 1 (0 + Int.toNat cI) (eI (gD aA cI)) (eI (gD aA cI)) (List.map (eI) aA) hO (bW c1) ?_
  obtain ⟨c2, h0⟩ := aV h0
  refine cF 11 [0 ≤ a1 ∧ a1 < (lN aA)] ⟨c2, trivial⟩ ?_
  refine gS 0 lo0p 1 (0 + Int.toNat a1) (eI (gD aA a1)) (eI (gD aA a1)) (List.map (eI) aA) hO (bW c2) ?_
  obtain ⟨c3, h0⟩ := aV h0
  refine cF 13 [0 ≤ a1 ∧ a1 < (lN aA)] ⟨c3, trivial⟩ ?_
  refine kI 0 lo0p 1 (0 + Int.toNat a1) (eI (gD aA a1)) (eI (gD aA cI)) (List.map (eI) aA) [(lo0p, 1, List.map (eI) (List.set aA (Int.toNat a1) (gD aA cI)))] hO (bW c3) (by simp only [List.set, gM]) ?_
  intro H hO
  replace hN : List.length (List.set aA (Int.toNat a1) (gD aA cI)) = N0 := by simpa using hN
  obtain ⟨c4, h0⟩ := aV h0
  refine cF 15 [0 ≤ cI ∧ cI < (lN aA)] ⟨c4, trivial⟩ ?_
  refine kI 0 lo0p 1 (0 + Int.toNat cI) (eI (gD (List.set aA (Int.toNat a1) (gD aA cI)) cI)) (eI (gD aA a1)) (List.map (eI) (List.set aA (Int.toNat a1) (gD aA cI))) [(lo0p, 1, List.map (eI) (List.set (List.set aA (Int.toNat a1) (gD aA cI)) (Int.toNat cI) (gD aA a1)))] hO (lO c4 (by simp [])) (by simp only [List.set, gM]) ?_
  intro H hO
  replace hN : List.length (List.set (List.set aA (Int.toNat a1) (gD aA cI)) (Int.toNat cI) (gD aA a1)) = N0 := by simpa using hN
  refine mQ (by kernel_rfl) ?_
  refine dG (l := [(0, (.msl 1 lo0p 0 (List.length (List.set (List.set aA (Int.toNat a1) (gD aA cI)) (Int.toNat cI) (gD aA a1))))), (1, (eI a1)), (2, (eI b2))]) ⟨[(0, (.msl 1 lo0p 0 (List.length aA))), (1, (eI a1)), (2, (eI b2))], by kernel_rfl, rfl, ⟨aM.eq (by simp []), aM.refl _, aM.refl _, trivial⟩⟩ ?_
  refine aG (aF (?_))
  refine aS aD 6 [2] [(10, (eI (wR (a1 + (1 : Int))))), (11, (eI (wR (b2 - (1 : Int)))))] ?_
  refine eT (fun T H => ∃ aA : List Int, ∃ i10 : Int, ∃ j11 : Int, Has T [(0, (.msl 1 lo0p 0 (List.length aA))), (1, (eI a1)), (10, (eI i10)), (11, (eI j11))] ∧ aJ ⟨H0, [lo0p], []⟩ H [(lo0p, 1, List.map (eI) aA)] ∧ List.length aA = N0 ∧ gW aA a1 i10 j11 = some r) ?_ ?_
  · clear hO hN h0
    rintro T H ⟨aA, i10, j11, hT, hO, hN, h0⟩
    refine bA hT ?_
    clear hT
    unfold gW at h0
    refine eT (fun T H => ∃ aA : List Int, ∃ j11 : Int, Has T [(0, (.msl 1 lo0p 0 (List.length aA))), (1, (eI a1)), (10, (eI i10)), (11, (eI j11))] ∧ aJ ⟨H0, [lo0p], []⟩ H [(lo0p, 1, List.map (eI) aA)] ∧ List.length aA = N0 ∧ eD aA a1 i10 j11 = some r) ?_ ?_
    · clear hO hN h0
      rintro T H ⟨aA, j11, hT, hO, hN, h0⟩
      refine bA hT ?_
      clear hT
      unfold eD at h0
      refine aN ?_
      refine aS aD 3 [] [(65, (aE (decide (j11 < i10))))] ?_
      refine bM h0 (fun h0 => ?_) (fun h0 => ?_)
      · refine aN ?_
        refine fS (fR []) aD 16 ?_
        obtain ⟨c6, h0⟩ := aV h0
        refine cF 7 [0 ≤ a1 ∧ a1 < (lN aA)] ⟨c6, trivial⟩ ?_
        refine gS 0 lo0p 1 (0 + Int.toNat a1) (eI (gD aA a1)) (eI (gD aA a1)) (List.map (eI) aA) hO (bW c6) ?_
        obtain ⟨c7, h0⟩ := aV h0
        refine cF 11 [0 ≤ j11 ∧ j11 < (lN aA)] ⟨c7, trivial⟩ ?_
        refine gS 0 lo0p 1 (0 + Int.toNat j11) (eI (gD aA j11)) (eI (gD aA j11)) (List.map (eI) aA) hO (bW c7) ?_
        obtain ⟨c8, h0⟩ := aV h0
        refine cF 13 [0 ≤ j11 ∧ j11 < (lN aA)] ⟨c8, trivial⟩ ?_
        refine kI 0 lo0p 1 (0 + Int.toNat j11) (eI (gD aA j11)) (eI (gD aA a1)) (List.map (eI) aA) [(lo0p, 1, List.map (eI) (List.set aA (Int.toNat j11) (gD aA a1)))] hO (bW c8) (by simp only [List.set, gM]) ?_
        intro H hO
        replace hN : List.length (List.set aA (Int.toNat j11) (gD aA a1)) = N0 := by simpa using hN
        obtain ⟨c9, h0⟩ := aV h0
        refine cF 15 [0 ≤ a1 ∧ a1 < (lN aA)] ⟨c9, trivial⟩ ?_
        refine kI 0 lo0p 1 (0 + Int.toNat a1) (eI (gD (List.set aA (Int.toNat j11) (gD aA a1)) a1)) (eI (gD aA j11)) (List.map (eI) (List.set aA (Int.toNat j11) (gD aA a1))) [(lo0p, 1, List.map (eI) (List.set (List.set aA (Int.toNat j11) (gD aA a1)) (Int.toNat a1) (gD aA j11)))] hO (lO c9 (by simp [])) (by simp only [List.set, gM]) ?_
        intro H hO
        replace hN : List.length (List.set (List.set aA (Int.toNat j11) (gD aA a1)) (Int.toNat a1) (gD aA j11)) = N0 := by simpa using hN
        refine mQ (by kernel_rfl) ?_
        refine dG (l := [(0, (.msl 1 lo0p 0 (List.length (List.set (List.set aA (Int.toNat j11) (gD aA a1)) (Int.toNat a1) (gD aA j11))))), (11, (eI j11))]) ⟨[(0, (.msl 1 lo0p 0 (List.length aA))), (11, (eI j11))], by kernel_rfl, rfl, ⟨aM.eq (by simp []), aM.refl _, trivial⟩⟩ ?_
        refine aG (aF (?_))
        refine aS aD 3 [11] [(8, (eI j11)), (9, (aE true))] ?_
        refine bN ?_
        obtain rfl := oI h0
        exact aG (aQ (lU (x := (.tup [(eI j11), (aE true)])) (by kernel_rfl) (aM.refl _) ⟨rfl, hO.ext, hO.at 0 (by kernel_rfl), by simp only [List.length_map]; exact hN.trans hN0⟩))
      refine bL ?_
      refine bG [(0, (.msl 1 lo0p 0 (List.length aA))), (1, (eI a1)), (10, (eI i10)), (11, (eI j11))] ?_
      refine aN ?_
      refine fS (fR []) aD 16 ?_
      obtain ⟨c10, h0⟩ := aV h0
      refine cF 7 [0 ≤ j11 ∧ j11 < (lN aA)] ⟨c10, trivial⟩ ?_
      refine gS 0 lo0p 1 (0 + Int.toNat j11) (eI (gD aA j11)) (eI (gD aA j11)) (List.map (eI) aA) hO (bW c10) ?_
      obtain ⟨c11, h0⟩ := aV h0
      refine cF 11 [0 ≤ i10 ∧ i10 < (lN aA)] ⟨c11, trivial⟩ ?_
      refine gS 0 lo0p 1 (0 + Int.toNat i10) (eI (gD aA i10)) (eI (gD aA i10)) (List.map (eI) aA) hO (bW c11) ?_
      obtain ⟨c12, h0⟩ := aV h0
      refine cF 13 [0 ≤ i10 ∧ i10 < (lN aA)] ⟨c12, trivial⟩ ?_
      refine kI 0 lo0p 1 (0 + Int.toNat i10) (eI (gD aA i10)) (eI (gD aA j11)) (List.map (eI) aA) [(lo0p, 1, List.map (eI) (List.set aA (Int.toNat i10) (gD aA j11)))] hO (bW c12) (by simp only [List.set, gM]) ?_
      intro H hO
      replace hN : List.length (List.set aA (Int.toNat i10) (gD aA j11)) = N0 := by simpa using hN
      obtain ⟨c13, h0⟩ := aV h0
      refine cF 15 [0 ≤ j11 ∧ j11 < (lN aA)] ⟨c13, trivial⟩ ?_
      refine kI 0 lo0p 1 (0 + Int.toNat j11) (eI (gD (List.set aA (Int.toNat i10) (gD aA j11)) j11)) (eI (gD aA i10)) (List.map (eI) (List.set aA (Int.toNat i10) (gD aA j11))) [(lo0p, 1, List.map (eI) (List.set (List.set aA (Int.toNat i10) (gD aA j11)) (Int.toNat j11) (gD aA i10)))] hO (lO c13 (by simp [])) (by simp only [List.set, gM]) ?_
      intro H hO
      replace hN : List.length (List.set (List.set aA (Int.toNat i10) (gD aA j11)) (Int.toNat j11) (gD aA i10)) = N0 := by simpa using hN
      refine mQ (by kernel_rfl) ?_
      refine dG (l := [(0, (.msl 1 lo0p 0 (List.length (List.set (List.set aA (Int.toNat i10) (gD aA j11)) (Int.toNat j11) (gD aA i10))))), (1, (eI a1)), (10, (eI i10)), (11, (eI j11))]) ⟨[(0, (.msl 1 lo0p 0 (List.length aA))), (1, (eI a1)), (10, (eI i10)), (11, (eI j11))], by kernel_rfl, rfl, ⟨aM.eq (by simp []), aM.refl _, aM.refl _, aM.refl _, trivial⟩⟩ ?_
      refine aG (aF (?_))
      refine aS aD 3 [10] [(10, (eI (wR (i10 + (1 : Int)))))] ?_
      refine aS aD 3 [11] [(11, (eI (wR (j11 - (1 : Int)))))] ?_
      refine eT (fun T H => ∃ aA : List Int, ∃ j11 : Int, Has T [(0, (.msl 1 lo0p 0 (List.length aA))), (1, (eI a1)), (11, (eI j11))] ∧ aJ ⟨H0, [lo0p], []⟩ H [(lo0p, 1, List.map (eI) aA)] ∧ List.length aA = N0 ∧ gX aA a1 j11 = some r) ?_ ?_
      · clear hO hN h0
        rintro T H ⟨aA, j11, hT, hO, hN, h0⟩
        refine bA hT ?_
        clear hT
        unfold gX at h0
        refine aN ?_
        refine fS (fR []) aD 16 ?_
        obtain ⟨c14, h0⟩ := aV h0
        refine cF 7 [0 ≤ a1 ∧ a1 < (lN aA)] ⟨c14, trivial⟩ ?_
        refine gS 0 lo0p 1 (0 + Int.toNat a1) (eI (gD aA a1)) (eI (gD aA a1)) (List.map (eI) aA) hO (bW c14) ?_
        obtain ⟨c15, h0⟩ := aV h0
        refine cF 11 [0 ≤ j11 ∧ j11 < (lN aA)] ⟨c15, trivial⟩ ?_
        refine gS 0 lo0p 1 (0 + Int.toNat j11) (eI (gD aA j11)) (eI (gD aA j11)) (List.map (eI) aA) hO (bW c15) ?_
        obtain ⟨c16, h0⟩ := aV h0
        refine cF 13 [0 ≤ j11 ∧ j11 < (lN aA)] ⟨c16, trivial⟩ ?_
        refine kI 0 lo0p 1 (0 + Int.toNat j11) (eI (gD aA j11)) (eI (gD aA a1)) (List.map (eI) aA) [(lo0p, 1, List.map (eI) (List.set aA (Int.toNat j11) (gD aA a1)))] hO (bW c16) (by simp only [List.set, gM]) ?_
        intro H hO
        replace hN : List.length (List.set aA (Int.toNat j11) (gD aA a1)) = N0 := by simpa using hN
        obtain ⟨c17, h0⟩ := aV h0
        refine cF 15 [0 ≤ a1 ∧ a1 < (lN aA)] ⟨c17, trivial⟩ ?_
        refine kI 0 lo0p 1 (0 + Int.toNat a1) (eI (gD (List.set aA (Int.toNat j11) (gD aA a1)) a1)) (eI (gD aA j11)) (List.map (eI) (List.set aA (Int.toNat j11) (gD aA a1))) [(lo0p, 1, List.map (eI) (List.set (List.set aA (Int.toNat j11) (gD aA a1)) (Int.toNat a1) (gD aA j11)))] hO (lO c17 (by simp [])) (by simp only [List.set, gM]) ?_
        intro H hO
        replace hN : List.length (List.set (List.set aA (Int.toNat j11) (gD aA a1)) (Int.toNat a1) (gD aA j11)) = N0 := by simpa using hN
        refine mQ (by kernel_rfl) ?_
        refine dG (l := [(0, (.msl 1 lo0p 0 (List.length (List.set (List.set aA (Int.toNat j11) (gD aA a1)) (Int.toNat a1) (gD aA j11))))), (11, (eI j11))]) ⟨[(0, (.msl 1 lo0p 0 (List.length aA))), (11, (eI j11))], by kernel_rfl, rfl, ⟨aM.eq (by simp []), aM.refl _, trivial⟩⟩ ?_
        refine aG (aF (?_))
        refine aS aD 3 [11] [(8, (eI j11)), (9, (aE false))] ?_
        refine bN ?_
        obtain rfl := oI h0
        exact aG (lU (x := (.tup [(eI j11), (aE false)])) (by kernel_rfl) (aM.refl _) ⟨rfl, hO.ext, hO.at 0 (by kernel_rfl), by simp only [List.length_map]; exact hN.trans hN0⟩)
      refine cE 4 ?_
      refine fT [(0, (.msl 1 lo0p 0 (List.length (List.set (List.set aA (Int.toNat i10) (gD aA j11)) (Int.toNat j11) (gD aA i10))))), (1, (eI a1)), (10, (eI (wR (i10 + (1 : Int))))), (11, (eI (wR (j11 - (1 : Int)))))] ?_
      refine eO (fun T H => ∃ aA : List Int, ∃ i10 : Int, ∃ j11 : Int, Has T [(0, (.msl 1 lo0p 0 (List.length aA))), (1, (eI a1)), (10, (eI i10)), (11, (eI j11))] ∧ aJ ⟨H0, [lo0p], []⟩ H [(lo0p, 1, List.map (eI) aA)] ∧ List.length aA = N0 ∧ jJ aA a1 i10 j11 = some r) ?_ ⟨List.set (List.set aA (Int.toNat i10) (gD aA j11)) (Int.toNat j11) (gD aA i10), wR (i10 + (1 : Int)), wR (j11 - (1 : Int)), .eq (by kernel_rfl), hO, hN, h0⟩
      clear hO hN h0
      rintro T H ⟨aA, i10, j11, hT, hO, hN, h0⟩
      refine bA hT ?_
      clear hT
      unfold jJ at h0
      obtain ⟨rr0, hl0, h0⟩ := aX h0
      refine cZ (by kernel_rfl) (fun (s : List Int × Int × Int) T H => Has T [(0, (.msl 1 lo0p 0 (List.length s.1))), (1, (eI a1)), (10, (eI s.2.1)), (11, (eI s.2.2))] ∧ aJ ⟨H0, [lo0p], []⟩ H [(lo0p, 1, List.map (eI) s.1)] ∧ List.length s.1 = N0) hl0 ⟨.eq (by kernel_rfl), hO, hN⟩ ?_
      clear hO hN
      rintro k0 s out1 T H ⟨hT, hO, hN⟩ h1 ho0
      obtain ⟨aA, i10, j11⟩ := s
      replace h1 : dA a1 aA i10 j11 = some out1 := h1
      try dsimp only at hT
      refine bA hT ?_
      clear hT
      unfold dA at h1
      refine cE 5 ?_
      refine eT (fun T H => ∃ aA : List Int, ∃ i10 : Int, Has T [(0, (.msl 1 lo0p 0 (List.length aA))), (1, (eI a1)), (10, (eI i10)), (11, (eI j11))] ∧ aJ ⟨H0, [lo0p], []⟩ H [(lo0p, 1, List.map (eI) aA)] ∧ List.length aA = N0 ∧ gY aA a1 i10 j11 = some out1) ?_ ?_
      · clear hO hN h1
        rintro T H ⟨aA, i10, hT, hO, hN, h1⟩
        refine bA hT ?_
        clear hT
        unfold gY at h1
        refine eT (fun T H => ∃ aA : List Int, ∃ j11 : Int, Has T [(0, (.msl 1 lo0p 0 (List.length aA))), (1, (eI a1)), (10, (eI i10)), (11, (eI j11))] ∧ aJ ⟨H0, [lo0p], []⟩ H [(lo0p, 1, List.map (eI) aA)] ∧ List.length aA = N0 ∧ eH aA a1 i10 j11 = some out1) ?_ ?_
        · clear hO hN h1
          rintro T H ⟨aA, j11, hT, hO, hN, h1⟩
          refine bA hT ?_
          clear hT
          unfold eH at h1
          refine aN ?_
          refine aS aD 3 [] [(134, (aE (decide (j11 < i10))))] ?_
          refine bM h1 (fun h1 => ?_) (fun h1 => ?_)
          · refine gC 4 ?_
            obtain rfl := oI h1
            obtain rfl : _ = rr0 := ho0
            replace h0 : gX aA a1 j11 = some r := h0
            exact aG (aT (qC (by kernel_rfl) (aT (bS (aF (⟨rfl, _, _, .eq (by kernel_rfl), hO, hN, h0⟩))))))
          refine bL ?_
          refine bG [(0, (.msl 1 lo0p 0 (List.length aA))), (1, (eI a1)), (10, (eI i10)), (11, (eI j11))] ?_
          refine aN ?_
          refine fS (fR []) aD 16 ?_
          obtain ⟨c19, h1⟩ := aV h1
          refine cF 7 [0 ≤ j11 ∧ j11 < (lN aA)] ⟨c19, trivial⟩ ?_
          refine gS 0 lo0p 1 (0 + Int.toNat j11) (eI (gD aA j11)) (eI (gD aA j11)) (List.map (eI) aA) hO (bW c19) ?_
          obtain ⟨c20, h1⟩ := aV h1
          refine cF 11 [0 ≤ i10 ∧ i10 < (lN aA)] ⟨c20, trivial⟩ ?_
          refine gS 0 lo0p 1 (0 + Int.toNat i10) (eI (gD aA i10)) (eI (gD aA i10)) (List.map (eI) aA) hO (bW c20) ?_
          obtain ⟨c21, h1⟩ := aV h1
          refine cF 13 [0 ≤ i10 ∧ i10 < (lN aA)] ⟨c21, trivial⟩ ?_
          refine kI 0 lo0p 1 (0 + Int.toNat i10) (eI (gD aA i10)) (eI (gD aA j11)) (List.map (eI) aA) [(lo0p, 1, List.map (eI) (List.set aA (Int.toNat i10) (gD aA j11)))] hO (bW c21) (by simp only [List.set, gM]) ?_
          intro H hO
          replace hN : List.length (List.set aA (Int.toNat i10) (gD aA j11)) = N0 := by simpa using hN
          obtain ⟨c22, h1⟩ := aV h1
          refine cF 15 [0 ≤ j11 ∧ j11 < (lN aA)] ⟨c22, trivial⟩ ?_
          refine kI 0 lo0p 1 (0 + Int.toNat j11) (eI (gD (List.set aA (Int.toNat i10) (gD aA j11)) j11)) (eI (gD aA i10)) (List.map (eI) (List.set aA (Int.toNat i10) (gD aA j11))) [(lo0p, 1, List.map (eI) (List.set (List.set aA (Int.toNat i10) (gD aA j11)) (Int.toNat j11) (gD aA i10)))] hO (lO c22 (by simp [])) (by simp only [List.set, gM]) ?_
          intro H hO
          replace hN : List.length (List.set (List.set aA (Int.toNat i10) (gD aA j11)) (Int.toNat j11) (gD aA i10)) = N0 := by simpa using hN
          refine mQ (by kernel_rfl) ?_
          refine dG (l := [(0, (.msl 1 lo0p 0 (List.length (List.set (List.set aA (Int.toNat i10) (gD aA j11)) (Int.toNat j11) (gD aA i10))))), (1, (eI a1)), (10, (eI i10)), (11, (eI j11))]) ⟨[(0, (.msl 1 lo0p 0 (List.length aA))), (1, (eI a1)), (10, (eI i10)), (11, (eI j11))], by kernel_rfl, rfl, ⟨aM.eq (by simp []), aM.refl _, aM.refl _, aM.refl _, trivial⟩⟩ ?_
          refine aG (aF (?_))
          refine aS aD 3 [10] [(10, (eI (wR (i10 + (1 : Int)))))] ?_
          refine aU aD 3 ?_
          refine bE ?_
          exact aG (aW (aF (⟨rfl, _, (oI h1).symm, .eq (by kernel_rfl), hO, hN⟩)))
        refine cE 8 ?_
        refine fT [(0, (.msl 1 lo0p 0 (List.length aA))), (1, (eI a1)), (10, (eI i10)), (11, (eI j11))] ?_
        refine eO (fun T H => ∃ aA : List Int, ∃ j11 : Int, Has T [(0, (.msl 1 lo0p 0 (List.length aA))), (1, (eI a1)), (10, (eI i10)), (11, (eI j11))] ∧ aJ ⟨H0, [lo0p], []⟩ H [(lo0p, 1, List.map (eI) aA)] ∧ List.length aA = N0 ∧ jP aA a1 i10 j11 = some out1) ?_ ⟨aA, j11, .eq (by kernel_rfl), hO, hN, h1⟩
        clear hO hN h1
        rintro T H ⟨aA, j11, hT, hO, hN, h1⟩
        refine bA hT ?_
        clear hT
        unfold jP at h1
        obtain ⟨rr1, hl1, h1⟩ := aX h1
        refine cZ (by kernel_rfl) (fun (s : List Int × Int) T H => Has T [(0, (.msl 1 lo0p 0 (List.length s.1))), (1, (eI a1)), (10, (eI i10)), (11, (eI s.2))] ∧ aJ ⟨H0, [lo0p], []⟩ H [(lo0p, 1, List.map (eI) s.1)] ∧ List.length s.1 = N0) hl1 ⟨.eq (by kernel_rfl), hO, hN⟩ ?_
        clear hO hN
        rintro k1 s out2 T H ⟨hT, hO, hN⟩ h2 ho1
        obtain ⟨aA, j11⟩ := s
        replace h2 : eF a1 i10 aA j11 = some out2 := h2
        try dsimp only at hT
        refine bA hT ?_
        clear hT
        unfold eF at h2
        refine aN ?_
        refine aN ?_
        obtain ⟨c23, h2⟩ := aV h2
        obtain ⟨c24, h2⟩ := aV h2
        obtain ⟨x25, hx26, h2⟩ := aX h2
        refine fS (fR []) aD 15 ?_
        refine nT (K := fun T H => Has (lift T) [(0, (.msl 1 lo0p 0 (List.length aA))), (1, (eI a1)), (10, (eI i10)), (11, (eI j11)), (129, (aE ((decide (i10 ≤ j11)) && (!x25))))] ∧ aJ ⟨H0, [lo0p], []⟩ H [(lo0p, 1, List.map (eI) aA)]) ?_ ?_
        · refine oR 4 ?_
          refine mW (t := 118) (e := decide (i10 ≤ j11)) (by kernel_rfl) (fun hg27 => ?_) (fun hg27 => ?_)
          · refine cF 7 [0 ≤ j11 ∧ j11 < (lN aA)] ⟨(c23 hg27), trivial⟩ ?_
            refine iW 0 lo0p 1 (0 + Int.toNat j11) (eI (gD aA j11)) (eI (gD aA j11)) (List.map (eI) aA) (by kernel_rfl) (by kernel_rfl) (by kernel_rfl) hO (by kernel_rfl) (bW (c23 hg27)) ?_
            refine cF 11 [0 ≤ a1 ∧ a1 < (lN aA)] ⟨(c24 hg27), trivial⟩ ?_
            refine iW 0 lo0p 1 (0 + Int.toNat a1) (eI (gD aA a1)) (eI (gD aA a1)) (List.map (eI) aA) (by kernel_rfl) (by kernel_rfl) (by kernel_rfl) hO (by kernel_rfl) (bW (c24 hg27)) ?_
            refine mX 70 [(eI (gD aA j11)), (eI (gD aA a1))] (aE x25) (by kernel_rfl) (by kernel_rfl) (fG (gD aA j11) (gD aA a1) _ (jR hx26 hg27)) hO ?_
            intro H hO
            refine jZ ?_
            exact ⟨⟨[(0, (.msl 1 lo0p 0 (List.length aA))), (1, (eI a1)), (10, (eI i10)), (11, (eI j11)), (129, (aE (!x25)))], by kernel_rfl, rfl, ⟨aM.refl _, aM.refl _, aM.refl _, aM.refl _, aM.eq (congrArg aE (kW hg27 rfl).symm), trivial⟩⟩, hO⟩
          refine jZ ?_
          exact ⟨⟨[(0, (.msl 1 lo0p 0 (List.length aA))), (1, (eI a1)), (10, (eI i10)), (11, (eI j11)), (129, (aE false))], by kernel_rfl, rfl, ⟨aM.refl _, aM.refl _, aM.refl _, aM.refl _, aM.eq (congrArg aE (kW hg27 rfl).symm), trivial⟩⟩, hO⟩
        · rintro T H ⟨hT, hO⟩
          refine dG hT ?_
          clear hT
          refine aG (aF ?_)
          refine bM h2 (fun h2 => ?_) (fun h2 => ?_)
          · refine bL ?_
            refine bG [(0, (.msl 1 lo0p 0 (List.length aA))), (1, (eI a1)), (10, (eI i10)), (11, (eI j11))] ?_
            refine cE 9 ?_
            refine aU aD 3 ?_
            refine bE ?_
            exact aG (aW (aF (⟨rfl, _, (oI h2).symm, .eq (by kernel_rfl), hO, hN⟩)))
          refine gC 8 ?_
          obtain rfl := oI h2
          obtain rfl : _ = rr1 := ho1
          replace h1 : eH aA a1 i10 j11 = some out1 := h1
          exact aG (aT (aT (bS (aF (⟨rfl, _, _, .eq (by kernel_rfl), hO, hN, h1⟩)))))
      refine cE 6 ?_
      refine fT [(0, (.msl 1 lo0p 0 (List.length aA))), (1, (eI a1)), (10, (eI i10)), (11, (eI j11))] ?_
      refine eO (fun T H => ∃ aA : List Int, ∃ i10 : Int, Has T [(0, (.msl 1 lo0p 0 (List.length aA))), (1, (eI a1)), (10, (eI i10)), (11, (eI j11))] ∧ aJ ⟨H0, [lo0p], []⟩ H [(lo0p, 1, List.map (eI) aA)] ∧ List.length aA = N0 ∧ jN aA a1 i10 j11 = some out1) ?_ ⟨aA, i10, .eq (by kernel_rfl), hO, hN, h1⟩
      clear hO hN h1
      rintro T H ⟨aA, i10, hT, hO, hN, h1⟩
      refine bA hT ?_
      clear hT
      unfold jN at h1
      obtain ⟨rr1, hl1, h1⟩ := aX h1
      refine cZ (by kernel_rfl) (fun (s : List Int × Int) T H => Has T [(0, (.msl 1 lo0p 0 (List.length s.1))), (1, (eI a1)), (10, (eI s.2)), (11, (eI j11))] ∧ aJ ⟨H0, [lo0p], []⟩ H [(lo0p, 1, List.map (eI) s.1)] ∧ List.length s.1 = N0) hl1 ⟨.eq (by kernel_rfl), hO, hN⟩ ?_
      clear hO hN
      rintro k1 s out2 T H ⟨hT, hO, hN⟩ h2 ho1
      obtain ⟨aA, i10⟩ := s
      replace h2 : eG a1 j11 aA i10 = some out2 := h2
      try dsimp only at hT
      refine bA hT ?_
      clear hT
      unfold eG at h2
      refine aN ?_
      refine aN ?_
      obtain ⟨c29, h2⟩ := aV h2
      obtain ⟨c30, h2⟩ := aV h2
      obtain ⟨x31, hx32, h2⟩ := aX h2
      refine fS (fR []) aD 14 ?_
      refine nT (K := fun T H => Has (lift T) [(0, (.msl 1 lo0p 0 (List.length aA))), (1, (eI a1)), (10, (eI i10)), (11, (eI j11)), (112, (aE ((decide (i10 ≤ j11)) && x31)))] ∧ aJ ⟨H0, [lo0p], []⟩ H [(lo0p, 1, List.map (eI) aA)]) ?_ ?_
      · refine oR 4 ?_
        refine mW (t := 102) (e := decide (i10 ≤ j11)) (by kernel_rfl) (fun hg33 => ?_) (fun hg33 => ?_)
        · refine cF 7 [0 ≤ i10 ∧ i10 < (lN aA)] ⟨(c29 hg33), trivial⟩ ?_
          refine iW 0 lo0p 1 (0 + Int.toNat i10) (eI (gD aA i10)) (eI (gD aA i10)) (List.map (eI) aA) (by kernel_rfl) (by kernel_rfl) (by kernel_rfl) hO (by kernel_rfl) (bW (c29 hg33)) ?_
          refine cF 11 [0 ≤ a1 ∧ a1 < (lN aA)] ⟨(c30 hg33), trivial⟩ ?_
          refine iW 0 lo0p 1 (0 + Int.toNat a1) (eI (gD aA a1)) (eI (gD aA a1)) (List.map (eI) aA) (by kernel_rfl) (by kernel_rfl) (by kernel_rfl) hO (by kernel_rfl) (bW (c30 hg33)) ?_
          refine mX 70 [(eI (gD aA i10)), (eI (gD aA a1))] (aE x31) (by kernel_rfl) (by kernel_rfl) (fG (gD aA i10) (gD aA a1) _ (jR hx32 hg33)) hO ?_
          intro H hO
          refine jZ ?_
          exact ⟨⟨[(0, (.msl 1 lo0p 0 (List.length aA))), (1, (eI a1)), (10, (eI i10)), (11, (eI j11)), (112, (aE x31))], by kernel_rfl, rfl, ⟨aM.refl _, aM.refl _, aM.refl _, aM.refl _, aM.eq (congrArg aE (kW hg33 rfl).symm), trivial⟩⟩, hO⟩
        refine jZ ?_
        exact ⟨⟨[(0, (.msl 1 lo0p 0 (List.length aA))), (1, (eI a1)), (10, (eI i10)), (11, (eI j11)), (112, (aE false))], by kernel_rfl, rfl, ⟨aM.refl _, aM.refl _, aM.refl _, aM.refl _, aM.eq (congrArg aE (kW hg33 rfl).symm), trivial⟩⟩, hO⟩
      · rintro T H ⟨hT, hO⟩
        refine dG hT ?_
        clear hT
        refine aG (aF ?_)
        refine bM h2 (fun h2 => ?_) (fun h2 => ?_)
        · refine bL ?_
          refine bG [(0, (.msl 1 lo0p 0 (List.length aA))), (1, (eI a1)), (10, (eI i10)), (11, (eI j11))] ?_
          refine cE 7 ?_
          refine aU aD 3 ?_
          refine bE ?_
          exact aG (aW (aF (⟨rfl, _, (oI h2).symm, .eq (by kernel_rfl), hO, hN⟩)))
        refine gC 6 ?_
        obtain rfl := oI h2
        obtain rfl : _ = rr1 := ho1
        replace h1 : gY aA a1 i10 j11 = some out1 := h1
        exact aG (aT (aT (bS (aF (⟨rfl, _, _, .eq (by kernel_rfl), hO, hN, h1⟩)))))
    refine cE 2 ?_
    refine fT [(0, (.msl 1 lo0p 0 (List.length aA))), (1, (eI a1)), (10, (eI i10)), (11, (eI j11))] ?_
    refine eO (fun T H => ∃ aA : List Int, ∃ j11 : Int, Has T [(0, (.msl 1 lo0p 0 (List.length aA))), (1, (eI a1)), (10, (eI i10)), (11, (eI j11))] ∧ aJ ⟨H0, [lo0p], []⟩ H [(lo0p, 1, List.map (eI) aA)] ∧ List.length aA = N0 ∧ jO aA a1 i10 j11 = some r) ?_ ⟨aA, j11, .eq (by kernel_rfl), hO, hN, h0⟩
    clear hO hN h0
    rintro T H ⟨aA, j11, hT, hO, hN, h0⟩
    refine bA hT ?_
    clear hT
    unfold jO at h0
    obtain ⟨rr0, hl0, h0⟩ := aX h0
    refine cZ (by kernel_rfl) (fun (s : List Int × Int) T H => Has T [(0, (.msl 1 lo0p 0 (List.length s.1))), (1, (eI a1)), (10, (eI i10)), (11, (eI s.2))] ∧ aJ ⟨H0, [lo0p], []⟩ H [(lo0p, 1, List.map (eI) s.1)] ∧ List.length s.1 = N0) hl0 ⟨.eq (by kernel_rfl), hO, hN⟩ ?_
    clear hO hN
    rintro k0 s out1 T H ⟨hT, hO, hN⟩ h1 ho0
    obtain ⟨aA, j11⟩ := s
    replace h1 : eE a1 i10 aA j11 = some out1 := h1
    try dsimp only at hT
    refine bA hT ?_
    clear hT
    unfold eE at h1
    refine aN ?_
    refine aN ?_
    obtain ⟨c35, h1⟩ := aV h1
    obtain ⟨c36, h1⟩ := aV h1
    obtain ⟨x37, hx38, h1⟩ := aX h1
    refine fS (fR []) aD 15 ?_
    refine nT (K := fun T H => Has (lift T) [(0, (.msl 1 lo0p 0 (List.length aA))), (1, (eI a1)), (10, (eI i10)), (11, (eI j11)), (60, (aE ((decide (i10 ≤ j11)) && (!x37))))] ∧ aJ ⟨H0, [lo0p], []⟩ H [(lo0p, 1, List.map (eI) aA)]) ?_ ?_
    · refine oR 4 ?_
      refine mW (t := 49) (e := decide (i10 ≤ j11)) (by kernel_rfl) (fun hg39 => ?_) (fun hg39 => ?_)
      · refine cF 7 [0 ≤ j11 ∧ j11 < (lN aA)] ⟨(c35 hg39), trivial⟩ ?_
        refine iW 0 lo0p 1 (0 + Int.toNat j11) (eI (gD aA j11)) (eI (gD aA j11)) (List.map (eI) aA) (by kernel_rfl) (by kernel_rfl) (by kernel_rfl) hO (by kernel_rfl) (bW (c35 hg39)) ?_
        refine cF 11 [0 ≤ a1 ∧ a1 < (lN aA)] ⟨(c36 hg39), trivial⟩ ?_
        refine iW 0 lo0p 1 (0 + Int.toNat a1) (eI (gD aA a1)) (eI (gD aA a1)) (List.map (eI) aA) (by kernel_rfl) (by kernel_rfl) (by kernel_rfl) hO (by kernel_rfl) (bW (c36 hg39)) ?_
        refine mX 70 [(eI (gD aA j11)), (eI (gD aA a1))] (aE x37) (by kernel_rfl) (by kernel_rfl) (fG (gD aA j11) (gD aA a1) _ (jR hx38 hg39)) hO ?_
        intro H hO
        refine jZ ?_
        exact ⟨⟨[(0, (.msl 1 lo0p 0 (List.length aA))), (1, (eI a1)), (10, (eI i10)), (11, (eI j11)), (60, (aE (!x37)))], by kernel_rfl, rfl, ⟨aM.refl _, aM.refl _, aM.refl _, aM.refl _, aM.eq (congrArg aE (kW hg39 rfl).symm), trivial⟩⟩, hO⟩
      refine jZ ?_
      exact ⟨⟨[(0, (.msl 1 lo0p 0 (List.length aA))), (1, (eI a1)), (10, (eI i10)), (11, (eI j11)), (60, (aE false))], by kernel_rfl, rfl, ⟨aM.refl _, aM.refl _, aM.refl _, aM.refl _, aM.eq (congrArg aE (kW hg39 rfl).symm), trivial⟩⟩, hO⟩
    · rintro T H ⟨hT, hO⟩
      refine dG hT ?_
      clear hT
      refine aG (aF ?_)
      refine bM h1 (fun h1 => ?_) (fun h1 => ?_)
      · refine bL ?_
        refine bG [(0, (.msl 1 lo0p 0 (List.length aA))), (1, (eI a1)), (10, (eI i10)), (11, (eI j11))] ?_
        refine cE 3 ?_
        refine aU aD 3 ?_
        refine bE ?_
        exact aG (aW (aF (⟨rfl, _, (oI h1).symm, .eq (by kernel_rfl), hO, hN⟩)))
      refine gC 2 ?_
      obtain rfl := oI h1
      obtain rfl : _ = rr0 := ho0
      replace h0 : eD aA a1 i10 j11 = some r := h0
      exact aG (aT (aT (bS (aF (⟨rfl, _, _, .eq (by kernel_rfl), hO, hN, h0⟩)))))
  refine cE 0 ?_
  refine fT [(0, (.msl 1 lo0p 0 (List.length (List.set (List.set aA (Int.toNat a1) (gD aA cI)) (Int.toNat cI) (gD aA a1))))), (1, (eI a1)), (10, (eI (wR (a1 + (1 : Int))))), (11, (eI (wR (b2 - (1 : Int)))))] ?_
  refine eO (fun T H => ∃ aA : List Int, ∃ i10 : Int, ∃ j11 : Int, Has T [(0, (.msl 1 lo0p 0 (List.length aA))), (1, (eI a1)), (10, (eI i10)), (11, (eI j11))] ∧ aJ ⟨H0, [lo0p], []⟩ H [(lo0p, 1, List.map (eI) aA)] ∧ List.length aA = N0 ∧ fA aA a1 i10 j11 = some r) ?_ ⟨List.set (List.set aA (Int.toNat a1) (gD aA cI)) (Int.toNat cI) (gD aA a1), wR (a1 + (1 : Int)), wR (b2 - (1 : Int)), .eq (by kernel_rfl), hO, hN, h0⟩
  clear hO hN h0
  rintro T H ⟨aA, i10, j11, hT, hO, hN, h0⟩
  refine bA hT ?_
  clear hT
  unfold fA at h0
  obtain ⟨rr0, hl0, h0⟩ := aX h0
  refine cZ (by kernel_rfl) (fun (s : List Int × Int) T H => Has T [(0, (.msl 1 lo0p 0 (List.length s.1))), (1, (eI a1)), (10, (eI s.2)), (11, (eI j11))] ∧ aJ ⟨H0, [lo0p], []⟩ H [(lo0p, 1, List.map (eI) s.1)] ∧ List.length s.1 = N0) hl0 ⟨.eq (by kernel_rfl), hO, hN⟩ ?_
  clear hO hN
  rintro k0 s out1 T H ⟨hT, hO, hN⟩ h1 ho0
  obtain ⟨aA, i10⟩ := s
  replace h1 : dW a1 j11 aA i10 = some out1 := h1
  try dsimp only at hT
  refine bA hT ?_
  clear hT
  unfold dW at h1
  refine aN ?_
  refine aN ?_
  obtain ⟨c41, h1⟩ := aV h1
  obtain ⟨c42, h1⟩ := aV h1
  obtain ⟨x43, hx44, h1⟩ := aX h1
  refine fS (fR []) aD 14 ?_
  refine nT (K := fun T H => Has (lift T) [(0, (.msl 1 lo0p 0 (List.length aA))), (1, (eI a1)), (10, (eI i10)), (11, (eI j11)), (43, (aE ((decide (i10 ≤ j11)) && x43)))] ∧ aJ ⟨H0, [lo0p], []⟩ H [(lo0p, 1, List.map (eI) aA)]) ?_ ?_
  · refine oR 4 ?_
    refine mW (t := 33) (e := decide (i10 ≤ j11)) (by kernel_rfl) (fun hg45 => ?_) (fun hg45 => ?_)
    · refine cF 7 [0 ≤ i10 ∧ i10 < (lN aA)] ⟨(c41 hg45), trivial⟩ ?_
      refine iW 0 lo0p 1 (0 + Int.toNat i10) (eI (gD aA i10)) (eI (gD aA i10)) (List.map (eI) aA) (by kernel_rfl) (by kernel_rfl) (by kernel_rfl) hO (by kernel_rfl) (bW (c41 hg45)) ?_
      refine cF 11 [0 ≤ a1 ∧ a1 < (lN aA)] ⟨(c42 hg45), trivial⟩ ?_
      refine iW 0 lo0p 1 (0 + Int.toNat a1) (eI (gD aA a1)) (eI (gD aA a1)) (List.map (eI) aA) (by kernel_rfl) (by kernel_rfl) (by kernel_rfl) hO (by kernel_rfl) (bW (c42 hg45)) ?_
      refine mX 70 [(eI (gD aA i10)), (eI (gD aA a1))] (aE x43) (by kernel_rfl) (by kernel_rfl) (fG (gD aA i10) (gD aA a1) _ (jR hx44 hg45)) hO ?_
      intro H hO
      refine jZ ?_
      exact ⟨⟨[(0, (.msl 1 lo0p 0 (List.length aA))), (1, (eI a1)), (10, (eI i10)), (11, (eI j11)), (43, (aE x43))], by kernel_rfl, rfl, ⟨aM.refl _, aM.refl _, aM.refl _, aM.refl _, aM.eq (congrArg aE (kW hg45 rfl).symm), trivial⟩⟩, hO⟩
    refine jZ ?_
    exact ⟨⟨[(0, (.msl 1 lo0p 0 (List.length aA))), (1, (eI a1)), (10, (eI i10)), (11, (eI j11)), (43, (aE false))], by kernel_rfl, rfl, ⟨aM.refl _, aM.refl _, aM.refl _, aM.refl _, aM.eq (congrArg aE (kW hg45 rfl).symm), trivial⟩⟩, hO⟩
  · rintro T H ⟨hT, hO⟩
    refine dG hT ?_
    clear hT
    refine aG (aF ?_)
    refine bM h1 (fun h1 => ?_) (fun h1 => ?_)
    · refine bL ?_
      refine bG [(0, (.msl 1 lo0p 0 (List.length aA))), (1, (eI a1)), (10, (eI i10)), (11, (eI j11))] ?_
      refine cE 1 ?_
      refine aU aD 3 ?_
      refine bE ?_
      exact aG (aW (aF (⟨rfl, _, (oI h1).symm, .eq (by kernel_rfl), hO, hN⟩)))
    refine gC 0 ?_
    obtain rfl := oI h1
    obtain rfl : _ = rr0 := ho0
    replace h0 : gW aA a1 i10 j11 = some r := h0
    exact aG (aT (aT (bS (aF (⟨rfl, _, _, _, .eq (by kernel_rfl), hO, hN, h0⟩)))))

end Go.Abs
namespace Go.Abs
open Go Go.RowKit Go.Proofs
theorem tH  (rec : (List Int) → Int → Int → Int → Option (List Int)) (ih : ∀ (lo0p : Nat) (aA : (List Int)) (a1 : Int) (b2 : Int) (bV : Int) (r : List Int), rec aA a1 b2 bV = some r → lW Try.prog 60 lo0p 1 (List.map (eI) aA) (List.map (eI) r) [(.msl 1 lo0p 0 (List.length aA)), (eI a1), (eI b2), (eI bV)] (.tup [])) (lo0p : Nat) (aA : (List Int)) (a1 : Int) (b2 : Int) (bV : Int) (r : List Int) (h0 : fE rec aA a1 b2 bV = some r) : lW Try.prog 60 lo0p 1 (List.map (eI) aA) (List.map (eI) r) [(.msl 1 lo0p 0 (List.length aA)), (eI a1), (eI b2), (eI bV)] (.tup []) := by
  intro H0 hl0
  refine dR Try.func60 ?_
  have hO := aJ.rK hl0
  clear hl0
  obtain ⟨N0, hN0⟩ : ∃ n, n = List.length aA := ⟨_, rfl⟩
  have hN : List.length aA = N0 := hN0.symm
  unfold fE at h0
  refine aS aD 1 [] [(8, (aE true))] ?_
  refine aS aD 1 [] [(9, (aE true))] ?_
  refine cE 0 ?_
  refine fT [(0, (.msl 1 lo0p 0 (List.length aA))), (1, (eI a1)), (2, (eI b2)), (3, (eI bV)), (8, (aE true)), (9, (aE true))] ?_
  refine eO (fun T H => ∃ aA : List Int, ∃ a1 : Int, ∃ b2 : Int, ∃ bV : Int, ∃ bQ : Bool, ∃ bI : Bool, Has T [(0, (.msl 1 lo0p 0 (List.length aA))), (1, (eI a1)), (2, (eI b2)), (3, (eI bV)), (8, (aE bQ)), (9, (aE bI))] ∧ aJ ⟨H0, [lo0p], []⟩ H [(lo0p, 1, List.map (eI) aA)] ∧ List.length aA = N0 ∧ kF rec aA a1 b2 bV bQ bI = some r) ?_ ⟨aA, a1, b2, bV, true, true, .eq (by kernel_rfl), hO, hN, h0⟩
  clear hO hN h0
  rintro T H ⟨aA, a1, b2, bV, bQ, bI, hT, hO, hN, h0⟩
  refine bA hT ?_
  clear hT
  unfold kF at h0
  obtain ⟨rr0, hl0, h0⟩ := aX h0
  refine cZ (by kernel_rfl) (fun (s : List Int × Int × Int × Int × Bool × Bool) T H => Has T [(0, (.msl 1 lo0p 0 (List.length s.1))), (1, (eI s.2.1)), (2, (eI s.2.2.1)), (3, (eI s.2.2.2.1)), (8, (aE s.2.2.2.2.1)), (9, (aE s.2.2.2.2.2))] ∧ aJ ⟨H0, [lo0p], []⟩ H [(lo0p, 1, List.map (eI) s.1)] ∧ List.length s.1 = N0) hl0 ⟨.eq (by kernel_rfl), hO, hN⟩ ?_
  clear hO hN
  rintro k0 s out1 T H ⟨hT, hO, hN⟩ h1 ho0
  obtain ⟨aA, a1, b2, bV, bQ, bI⟩ := s
  replace h1 : dV rec aA a1 b2 bV bQ bI = some out1 := h1
  try dsimp only at hT
  refine bA hT ?_
  clear hT
  unfold dV at h1
  refine cE 1 ?_
  refine aS aD 4 [] [(10, (eI (wR (b2 - a1))))] ?_
  refine aN ?_
  refine aS aD 2 [] [(23, (aE (decide ((wR (b2 - a1)) ≤ (12 : Int)))))] ?_
  refine bM h1 (fun h1 => ?_) (fun h1 => ?_)
  · refine aN ?_
    refine aU aD 4 ?_
    refine bX 3 ?_
    obtain ⟨x2, hx3, h1⟩ := aX h1
    refine uX [(lo0p, 1, List.map (eI) x2)] 0 (sJ lo0p aA a1 b2 _ hx3) hO ?_
    intro H hO hl4
    simp only [List.length_map] at hl4
    replace hN := hl4.trans hN
    refine iP ?_
    refine dG (l := [(0, (.msl 1 lo0p 0 (List.length x2)))]) ⟨[(0, (.msl 1 lo0p 0 (List.length aA)))], by kernel_rfl, rfl, ⟨aM.eq (by simp [hl4]), trivial⟩⟩ ?_
    refine aG (aF (?_))
    refine bN ?_
    obtain rfl := oI h1
    obtain rfl : _ = rr0 := ho0
    replace h0 : some x2 = some r := h0
    obtain rfl := oI h0
    exact aG (aQ (bO (aQ (bO (lU (x := (.tup [])) (by kernel_rfl) (aM.refl _) ⟨rfl, hO.ext, hO.at 0 (by kernel_rfl), by simp only [List.length_map]; exact hN.trans hN0⟩)))))
  refine bL ?_
  refine bG [(0, (.msl 1 lo0p 0 (List.length aA))), (1, (eI a1)), (2, (eI b2)), (3, (eI bV)), (8, (aE bQ)), (9, (aE bI)), (10, (eI (wR (b2 - a1))))] ?_
  refine aN ?_
  refine aS aD 2 [] [(29, (aE (decide (bV = (0 : Int)))))] ?_
  refine bM h1 (fun h1 => ?_) (fun h1 => ?_)
  · refine aN ?_
    refine aU aD 4 ?_
    refine bX 3 ?_
    obtain ⟨x6, hx7, h1⟩ := aX h1
    refine uX [(lo0p, 1, List.map (eI) x6)] 0 (uV lo0p aA a1 b2 _ hx7) hO ?_
    intro H hO hl8
    simp only [List.length_map] at hl8
    replace hN := hl8.trans hN
    refine iP ?_
    refine dG (l := [(0, (.msl 1 lo0p 0 (List.length x6)))]) ⟨[(0, (.msl 1 lo0p 0 (List.length aA)))], by kernel_rfl, rfl, ⟨aM.eq (by simp [hl8]), trivial⟩⟩ ?_
    refine aG (aF (?_))
    refine bN ?_
    obtain rfl := oI h1
    obtain rfl : _ = rr0 := ho0
    replace h0 : some x6 = some r := h0
    obtain rfl := oI h0
    exact aG (aQ (bO (aQ (bO (lU (x := (.tup [])) (by kernel_rfl) (aM.refl _) ⟨rfl, hO.ext, hO.at 0 (by kernel_rfl), by simp only [List.length_map]; exact hN.trans hN0⟩)))))
  refine bL ?_
  refine bG [(0, (.msl 1 lo0p 0 (List.length aA))), (1, (eI a1)), (2, (eI b2)), (3, (eI bV)), (8, (aE bQ)), (9, (aE bI)), (10, (eI (wR (b2 - a1))))] ?_
  refine eT (fun T H => ∃ aA : List Int, ∃ bV : Int, ∃ dL : Int, Has T [(0, (.msl 1 lo0p 0 (List.length aA))), (1, (eI a1)), (2, (eI b2)), (3, (eI bV)), (8, (aE bQ)), (9, (aE bI)), (10, (eI dL))] ∧ aJ ⟨H0, [lo0p], []⟩ H [(lo0p, 1, List.map (eI) aA)] ∧ List.length aA = N0 ∧ gE rec aA a1 b2 bV bQ bI dL = some out1) ?_ ?_
  · clear hO hN h1
    rintro T H ⟨aA, bV, dL, hT, hO, hN, h1⟩
    refine bA hT ?_
    clear hT
    unfold gE at h1
    refine aN ?_
    refine aU aD 9 ?_
    refine bX 3 ?_
    obtain ⟨x9, hx10, h1⟩ := aX h1
    refine yD [] [0] (tQ lo0p aA a1 b2 _ hx10) hO ?_
    intro r11 L12 H hP13 hO
    obtain ⟨rfl, rfl⟩ := hP13
    replace hO : aJ ⟨H0, [lo0p], []⟩ H [(lo0p, 1, List.map (eI) aA)] := hO
    refine bE ?_
    refine bY [] [(11, (eI x9.1)), (12, (eI x9.2))] ?_
    refine eT (fun T H => ∃ aA : List Int, ∃ fD : Int, ∃ yM : Int, Has T [(0, (.msl 1 lo0p 0 (List.length aA))), (1, (eI a1)), (2, (eI b2)), (3, (eI bV)), (8, (aE bQ)), (9, (aE bI)), (10, (eI dL)), (11, (eI fD)), (12, (eI yM))] ∧ aJ ⟨H0, [lo0p], []⟩ H [(lo0p, 1, List.map (eI) aA)] ∧ List.length aA = N0 ∧ gF rec aA a1 b2 bV bQ bI dL fD yM = some out1) ?_ ?_
    · clear hO hN h1
      rintro T H ⟨aA, fD, yM, hT, hO, hN, h1⟩
      refine bA hT ?_
      clear hT
      unfold gF at h1
      refine eT (fun T H => ∃ aA : List Int, Has T [(0, (.msl 1 lo0p 0 (List.length aA))), (1, (eI a1)), (2, (eI b2)), (3, (eI bV)), (8, (aE bQ)), (9, (aE bI)), (10, (eI dL)), (11, (eI fD))] ∧ aJ ⟨H0, [lo0p], []⟩ H [(lo0p, 1, List.map (eI) aA)] ∧ List.length aA = N0 ∧ fY rec aA a1 b2 bV bQ bI dL fD = some out1) ?_ ?_
      · clear hO hN h1
        rintro T H ⟨aA, hT, hO, hN, h1⟩
        refine bA hT ?_
        clear hT
        unfold fY at h1
        refine aN ?_
        refine aN ?_
        obtain ⟨c14, h1⟩ := aV h1
        obtain ⟨c15, h1⟩ := aV h1
        obtain ⟨x16, hx17, h1⟩ := aX h1
        refine fS (fR []) aD 15 ?_
        refine nT (K := fun T H => Has (lift T) [(0, (.msl 1 lo0p 0 (List.length aA))), (1, (eI a1)), (2, (eI b2)), (3, (eI bV)), (8, (aE bQ)), (9, (aE bI)), (10, (eI dL)), (11, (eI fD)), (87, (aE ((decide ((0 : Int) < a1)) && (!x16))))] ∧ aJ ⟨H0, [lo0p], []⟩ H [(lo0p, 1, List.map (eI) aA)]) ?_ ?_
        · refine oR 3 ?_
          refine mW (t := 75) (e := decide ((0 : Int) < a1)) (by kernel_rfl) (fun hg18 => ?_) (fun hg18 => ?_)
          · refine cF 7 [0 ≤ (wR (a1 - (1 : Int))) ∧ (wR (a1 - (1 : Int))) < (lN aA)] ⟨(c14 hg18), trivial⟩ ?_
            refine iW 0 lo0p 1 (0 + Int.toNat (wR (a1 - (1 : Int)))) (eI (gD aA (wR (a1 - (1 : Int))))) (eI (gD aA (wR (a1 - (1 : Int))))) (List.map (eI) aA) (by kernel_rfl) (by kernel_rfl) (by kernel_rfl) hO (by kernel_rfl) (bW (c14 hg18)) ?_
            refine cF 11 [0 ≤ fD ∧ fD < (lN aA)] ⟨(c15 hg18), trivial⟩ ?_
            refine iW 0 lo0p 1 (0 + Int.toNat fD) (eI (gD aA fD)) (eI (gD aA fD)) (List.map (eI) aA) (by kernel_rfl) (by kernel_rfl) (by kernel_rfl) hO (by kernel_rfl) (bW (c15 hg18)) ?_
            refine mX 70 [(eI (gD aA (wR (a1 - (1 : Int))))), (eI (gD aA fD))] (aE x16) (by kernel_rfl) (by kernel_rfl) (fG (gD aA (wR (a1 - (1 : Int)))) (gD aA fD) _ (jR hx17 hg18)) hO ?_
            intro H hO
            refine jZ ?_
            exact ⟨⟨[(0, (.msl 1 lo0p 0 (List.length aA))), (1, (eI a1)), (2, (eI b2)), (3, (eI bV)), (8, (aE bQ)), (9, (aE bI)), (10, (eI dL)), (11, (eI fD)), (87, (aE (!x16)))], by kernel_rfl, rfl, ⟨aM.refl _, aM.refl _, aM.refl _, aM.refl _, aM.refl _, aM.refl _, aM.refl _, aM.refl _, aM.eq (congrArg aE (kW hg18 rfl).symm), trivial⟩⟩, hO⟩
          refine jZ ?_
          exact ⟨⟨[(0, (.msl 1 lo0p 0 (List.length aA))), (1, (eI a1)), (2, (eI b2)), (3, (eI bV)), (8, (aE bQ)), (9, (aE bI)), (10, (eI dL)), (11, (eI fD)), (87, (aE false))], by kernel_rfl, rfl, ⟨aM.refl _, aM.refl _, aM.refl _, aM.refl _, aM.refl _, aM.refl _, aM.refl _, aM.refl _, aM.eq (congrArg aE (kW hg18 rfl).symm), trivial⟩⟩, hO⟩
        · rintro T H ⟨hT, hO⟩
          refine dG hT ?_
          clear hT
          refine aG (aF ?_)
          refine bM h1 (fun h1 => ?_) (fun h1 => ?_)
          · refine aN ?_
            refine aU aD 6 ?_
            refine bX 4 ?_
            obtain ⟨x20, hx21, h1⟩ := aX h1
            refine uX [(lo0p, 1, List.map (eI) x20.2)] 0 (sE lo0p aA a1 b2 fD _ hx21) hO ?_
            intro H hO hl22
            simp only [List.length_map] at hl22
            replace hN := hl22.trans hN
            refine bE ?_
            refine dG (l := [(0, (.msl 1 lo0p 0 (List.length x20.2))), (2, (eI b2)), (3, (eI bV)), (8, (aE bQ)), (9, (aE bI)), (13, (eI x20.1))]) ⟨[(0, (.msl 1 lo0p 0 (List.length aA))), (2, (eI b2)), (3, (eI bV)), (8, (aE bQ)), (9, (aE bI)), (13, (eI x20.1))], by kernel_rfl, rfl, ⟨aM.eq (by simp [hl22]), aM.refl _, aM.refl _, aM.refl _, aM.refl _, aM.refl _, trivial⟩⟩ ?_
            refine aG (aF (?_))
            refine aS aD 2 [13] [(1, (eI x20.1))] ?_
            refine gC 1 ?_
            exact aG (aT (bS (aF (⟨rfl, _, (oI h1).symm, .eq (by kernel_rfl), hO, hN⟩))))
          refine bL ?_
          refine bG [(0, (.msl 1 lo0p 0 (List.length aA))), (1, (eI a1)), (2, (eI b2)), (3, (eI bV)), (10, (eI dL)), (11, (eI fD))] ?_
          refine aN ?_
          refine aU aD 10 ?_
          refine bX 4 ?_
          obtain ⟨x23, hx24, h1⟩ := aX h1
          refine uX [(lo0p, 1, List.map (eI) x23.2)] 0 (uP lo0p aA a1 b2 fD _ hx24) hO ?_
          intro H hO hl25
          simp only [List.length_map] at hl25
          replace hN := hl25.trans hN
          refine bE ?_
          refine dG (l := [(0, (.msl 1 lo0p 0 (List.length x23.2))), (1, (eI a1)), (2, (eI b2)), (3, (eI bV)), (10, (eI dL)), (14, (eI x23.1.1)), (15, (aE x23.1.2))]) ⟨[(0, (.msl 1 lo0p 0 (List.length aA))), (1, (eI a1)), (2, (eI b2)), (3, (eI bV)), (10, (eI dL)), (14, (eI x23.1.1)), (15, (aE x23.1.2))], by kernel_rfl, rfl, ⟨aM.eq (by simp [hl25]), aM.refl _, aM.refl _, aM.refl _, aM.refl _, aM.refl _, aM.refl _, trivial⟩⟩ ?_
          refine aG (aF (?_))
          refine aS aD 2 [15] [(9, (aE x23.1.2))] ?_
          refine aS aD 8 [] [(16, (eI (wR (x23.1.1 - a1)))), (17, (eI (wR (b2 - x23.1.1))))] ?_
          refine aN ?_
          refine aU aD 3 ?_
          obtain ⟨c26, h1⟩ := aV h1
          refine nL [(8 : Int) ≠ 0] ⟨c26, trivial⟩ ?_
          refine bY [10] [(18, (eI (wR (Int.tdiv dL (8 : Int)))))] ?_
          refine aS aD 3 [] [(113, (aE (decide ((wR (x23.1.1 - a1)) < (wR (b2 - x23.1.1))))))] ?_
          refine bM h1 (fun h1 => ?_) (fun h1 => ?_)
          · refine cB aD 4 [(0, (.msl 1 lo0p 0 (List.length x23.2))), (1, (eI a1)), (2, (eI b2)), (3, (eI bV)), (8, (aE (decide ((wR (Int.tdiv dL (8 : Int))) ≤ (wR (x23.1.1 - a1)))))), (9, (aE x23.1.2)), (14, (eI x23.1.1))] ?_
            refine aN ?_
            refine aU aD 5 ?_
            refine bX 4 ?_
            obtain ⟨x28, hx29, h1⟩ := aX h1
            refine uX [(lo0p, 1, List.map (eI) x28)] 0 (ih lo0p x23.2 a1 x23.1.1 bV _ hx29) hO ?_
            intro H hO hl30
            simp only [List.length_map] at hl30
            replace hN := hl30.trans hN
            refine iP ?_
            refine dG (l := [(0, (.msl 1 lo0p 0 (List.length x28))), (2, (eI b2)), (3, (eI bV)), (8, (aE (decide ((wR (Int.tdiv dL (8 : Int))) ≤ (wR (x23.1.1 - a1)))))), (9, (aE x23.1.2)), (14, (eI x23.1.1))]) ⟨[(0, (.msl 1 lo0p 0 (List.length x23.2))), (2, (eI b2)), (3, (eI bV)), (8, (aE (decide ((wR (Int.tdiv dL (8 : Int))) ≤ (wR (x23.1.1 - a1)))))), (9, (aE x23.1.2)), (14, (eI x23.1.1))], by kernel_rfl, rfl, ⟨aM.eq (by simp [hl30]), aM.refl _, aM.refl _, aM.refl _, aM.refl _, aM.refl _, trivial⟩⟩ ?_
            refine aG (aF (?_))
            refine aU aD 3 ?_
            refine bE ?_
            exact aG (aW (aF (⟨rfl, _, (oI h1).symm, .eq (by kernel_rfl), hO, hN⟩)))
          refine cB aD 4 [(0, (.msl 1 lo0p 0 (List.length x23.2))), (1, (eI a1)), (2, (eI b2)), (3, (eI bV)), (8, (aE (decide ((wR (Int.tdiv dL (8 : Int))) ≤ (wR (b2 - x23.1.1)))))), (9, (aE x23.1.2)), (14, (eI x23.1.1))] ?_
          refine aN ?_
          refine aU aD 6 ?_
          refine bX 5 ?_
          obtain ⟨x31, hx32, h1⟩ := aX h1
          refine uX [(lo0p, 1, List.map (eI) x31)] 0 (ih lo0p x23.2 (wR (x23.1.1 + (1 : Int))) b2 bV _ hx32) hO ?_
          intro H hO hl33
          simp only [List.length_map] at hl33
          replace hN := hl33.trans hN
          refine iP ?_
          refine dG (l := [(0, (.msl 1 lo0p 0 (List.length x31))), (1, (eI a1)), (3, (eI bV)), (8, (aE (decide ((wR (Int.tdiv dL (8 : Int))) ≤ (wR (b2 - x23.1.1)))))), (9, (aE x23.1.2)), (14, (eI x23.1.1))]) ⟨[(0, (.msl 1 lo0p 0 (List.length x23.2))), (1, (eI a1)), (3, (eI bV)), (8, (aE (decide ((wR (Int.tdiv dL (8 : Int))) ≤ (wR (b2 - x23.1.1)))))), (9, (aE x23.1.2)), (14, (eI x23.1.1))], by kernel_rfl, rfl, ⟨aM.eq (by simp [hl33]), aM.refl _, aM.refl _, aM.refl _, aM.refl _, aM.refl _, trivial⟩⟩ ?_
          refine aG (aF (?_))
          refine aU aD 2 ?_
          refine bE ?_
          exact aG (aW (aF (⟨rfl, _, (oI h1).symm, .eq (by kernel_rfl), hO, hN⟩)))
      refine aS aD 8 [12] [(68, (aE ((bQ && bI) && (decide (yM = (1 : Int))))))] ?_
      refine bM h1 (fun h1 => ?_) (fun h1 => ?_)
      · refine aN ?_
        refine aU aD 4 ?_
        refine bX 3 ?_
        obtain ⟨x35, hx36, h1⟩ := aX h1
        refine uX [(lo0p, 1, List.map (eI) x35.2)] 0 (pE lo0p aA a1 b2 _ hx36) hO ?_
        intro H hO hl37
        simp only [List.length_map] at hl37
        replace hN := hl37.trans hN
        refine iP ?_
        refine dG (l := [(0, (.msl 1 lo0p 0 (List.length x35.2))), (1, (eI a1)), (2, (eI b2)), (3, (eI bV)), (8, (aE bQ)), (9, (aE bI)), (10, (eI dL)), (11, (eI fD)), (72, (aE x35.1))]) ⟨[(0, (.msl 1 lo0p 0 (List.length aA))), (1, (eI a1)), (2, (eI b2)), (3, (eI bV)), (8, (aE bQ)), (9, (aE bI)), (10, (eI dL)), (11, (eI fD)), (72, (aE x35.1))], by kernel_rfl, rfl, ⟨aM.eq (by simp [hl37]), aM.refl _, aM.refl _, aM.refl _, aM.refl _, aM.refl _, aM.refl _, aM.refl _, aM.refl _, trivial⟩⟩ ?_
        refine aG (aF (?_))
        refine bM h1 (fun h1 => ?_) (fun h1 => ?_)
        · refine bN ?_
          obtain rfl := oI h1
          obtain rfl : _ = rr0 := ho0
          replace h0 : some x35.2 = some r := h0
          obtain rfl := oI h0
          exact aG (aQ (bO (aQ (bO (lU (x := (.tup [])) (by kernel_rfl) (aM.refl _) ⟨rfl, hO.ext, hO.at 0 (by kernel_rfl), by simp only [List.length_map]; exact hN.trans hN0⟩)))))
        refine bL ?_
        exact aG (aF (⟨rfl, _, .eq (by kernel_rfl), hO, hN, h1⟩))
      refine bL ?_
      exact aG (aF (⟨rfl, _, .eq (by kernel_rfl), hO, hN, h1⟩))
    refine aS aD 2 [] [(50, (aE (decide (x9.2 = (2 : Int)))))] ?_
    refine bM h1 (fun h1 => ?_) (fun h1 => ?_)
    · refine aN ?_
      refine aU aD 4 ?_
      refine bX 3 ?_
      obtain ⟨x40, hx41, h1⟩ := aX h1
      refine uX [(lo0p, 1, List.map (eI) x40)] 0 (tF lo0p aA a1 b2 _ hx41) hO ?_
      intro H hO hl42
      simp only [List.length_map] at hl42
      replace hN := hl42.trans hN
      refine iP ?_
      refine dG (l := [(0, (.msl 1 lo0p 0 (List.length x40))), (1, (eI a1)), (2, (eI b2)), (3, (eI bV)), (8, (aE bQ)), (9, (aE bI)), (10, (eI dL)), (11, (eI x9.1))]) ⟨[(0, (.msl 1 lo0p 0 (List.length aA))), (1, (eI a1)), (2, (eI b2)), (3, (eI bV)), (8, (aE bQ)), (9, (aE bI)), (10, (eI dL)), (11, (eI x9.1))], by kernel_rfl, rfl, ⟨aM.eq (by simp [hl42]), aM.refl _, aM.refl _, aM.refl _, aM.refl _, aM.refl _, aM.refl _, aM.refl _, trivial⟩⟩ ?_
      refine aG (aF (?_))
      refine aS aD 7 [11] [(11, (eI (wR ((wR (b2 - (1 : Int))) - (wR (x9.1 - a1))))))] ?_
      refine aU aD 1 ?_
      refine bE ?_
      exact aG (aF (⟨rfl, _, _, _, .eq (by kernel_rfl), hO, hN, h1⟩))
    refine bL ?_
    exact aG (aF (⟨rfl, _, _, _, .eq (by kernel_rfl), hO, hN, h1⟩))
  refine aS aD 2 [] [(35, (aE (!bQ)))] ?_
  refine bM h1 (fun h1 => ?_) (fun h1 => ?_)
  · refine aN ?_
    refine aU aD 4 ?_
    refine bX 3 ?_
    obtain ⟨x44, hx45, h1⟩ := aX h1
    refine uX [(lo0p, 1, List.map (eI) x44)] 0 (sN lo0p aA a1 b2 _ hx45) hO ?_
    intro H hO hl46
    simp only [List.length_map] at hl46
    replace hN := hl46.trans hN
    refine iP ?_
    refine dG (l := [(0, (.msl 1 lo0p 0 (List.length x44))), (1, (eI a1)), (2, (eI b2)), (3, (eI bV)), (8, (aE bQ)), (9, (aE bI)), (10, (eI (wR (b2 - a1))))]) ⟨[(0, (.msl 1 lo0p 0 (List.length aA))), (1, (eI a1)), (2, (eI b2)), (3, (eI bV)), (8, (aE bQ)), (9, (aE bI)), (10, (eI (wR (b2 - a1))))], by kernel_rfl, rfl, ⟨aM.eq (by simp [hl46]), aM.refl _, aM.refl _, aM.refl _, aM.refl _, aM.refl _, aM.refl _, trivial⟩⟩ ?_
    refine aG (aF (?_))
    refine aU aD 3 ?_
    refine bE ?_
    exact aG (aF (⟨rfl, _, _, _, .eq (by kernel_rfl), hO, hN, h1⟩))
  refine bL ?_
  exact aG (aF (⟨rfl, _, _, _, .eq (by kernel_rfl), hO, hN, h1⟩))

theorem oA  : ∀ (k : Nat) (lo0p : Nat) (aA : (List Int)) (a1 : Int) (b2 : Int) (bV : Int) (r : List Int), cX k aA a1 b2 bV = some r → lW Try.prog 60 lo0p 1 (List.map (eI) aA) (List.map (eI) r) [(.msl 1 lo0p 0 (List.length aA)), (eI a1), (eI b2), (eI bV)] (.tup [])
  | 0, _, _, _, _, _, _, h => by cases h
  | k + 1, lo0p, aA, a1, b2, bV, r, h => tH  _ (oA  k) lo0p aA a1 b2 bV r h

theorem vJ (lo0p : Nat) (aA : (List Int)) (a1 : Int) (b2 : Int) (bV : Int) (r : List Int) (h0 : iU aA a1 b2 bV = some r) : lW Try.prog 60 lo0p 1 (List.map (eI) aA) (List.map (eI) r) [(.msl 1 lo0p 0 (List.length aA)), (eI a1), (eI b2), (eI bV)] (.tup []) := by
  obtain ⟨k, hk⟩ := HV h0
  exact oA  k lo0p aA a1 b2 bV r hk

theorem yS (lo0p : Nat) (x0 : (List Int)) (r : List Int) (h0 : jS x0 = some r) : lW Try.prog 33 lo0p 1 (List.map (eI) x0) (List.map (eI) r) [(.msl 1 lo0p 0 (List.length x0))] (.tup []) := by
  intro H0 hl0
  refine dR Try.func33 ?_
  have hO := aJ.rK hl0
  clear hl0
  obtain ⟨N0, hN0⟩ : ∃ n, n = List.length x0 := ⟨_, rfl⟩
  have hN : List.length x0 = N0 := hN0.symm
  unfold jS at h0
  refine aS aD 3 [] [(2, (eI (lN x0)))] ?_
  refine aU aD 6 ?_
  refine bX 4 ?_
  obtain ⟨x1, hx2, h0⟩ := aX h0
  refine fC (xG (IntKind.u64.wrap (lN x0)) _ hx2) hO ?_
  intro H hO
  obtain ⟨x4, hx5, h0⟩ := aX h0
  refine uX [(lo0p, 1, List.map (eI) x4)] 0 (vJ lo0p x0 (0 : Int) (lN x0) x1 _ hx5) hO ?_
  intro H hO hl6
  simp only [List.length_map] at hl6
  replace hN := hl6.trans hN
  refine iP ?_
  refine dG (l := [(0, (.msl 1 lo0p 0 (List.length x4)))]) ⟨[(0, (.msl 1 lo0p 0 (List.length x0)))], by kernel_rfl, rfl, ⟨aM.eq (by simp [hl6]), trivial⟩⟩ ?_
  obtain rfl := oI h0
  exact aG (xN (x := (.tup [])) (by kernel_rfl) (aM.refl _) ⟨rfl, hO.ext, hO.at 0 (by kernel_rfl), by simp only [List.length_map]; exact hN.trans hN0⟩)

theorem CL (l0 : (List aL)) (eN : Int) (r : ((List Int) × Int)) (h0 : qI l0 eN = some r) : eB Try.prog 12 [(eL aO l0), (eI eN)] (.tup [(eL (eI) r.1), (eI r.2)]) := by
  intro H0
  refine dR Try.func12 ?_
  have hO := aJ.start H0
  unfold qI at h0
  refine aS aD 2 [] [] ?_
  refine aN ?_
  refine cE 0 ?_
  refine aN ?_
  refine aU aD 4 ?_
  refine bX 1 ?_
  obtain ⟨x1, hx2, h0⟩ := aX h0
  refine fC (EV l0 _ hx2) hO ?_
  intro H hO
  refine bE ?_
  refine bY [] [(11, (aE (!x1)))] ?_
  refine bM h0 (fun h0 => ?_) (fun h0 => ?_)
  · refine cB aD 2 [(4, (.sl true 0 (fun _ => .bad))), (5, (eI (2 : Int)))] ?_
    refine bN ?_
    refine dG (l := [(4, (eL (eI) ([]))), (5, (eI (2 : Int)))]) ⟨[(4, (.sl true 0 (fun _ => .bad))), (5, (eI (2 : Int)))], by kernel_rfl, rfl, ⟨nQ, aM.refl _, trivial⟩⟩ ?_
    obtain rfl := oI h0
    exact aG (bO (aQ (Q_r hO)))
  refine aN ?_
  refine aU aD 4 ?_
  refine bX 1 ?_
  obtain ⟨x5, hx6, h0⟩ := aX h0
  refine fC (LK l0 _ hx6) hO ?_
  intro H hO
  refine bE ?_
  refine bY [11] [(15, (aE (!x5)))] ?_
  refine bM h0 (fun h0 => ?_) (fun h0 => ?_)
  · refine cB aD 2 [(4, (.sl true 0 (fun _ => .bad))), (5, (eI (20 : Int)))] ?_
    refine bN ?_
    refine dG (l := [(4, (eL (eI) ([]))), (5, (eI (20 : Int)))]) ⟨[(4, (.sl true 0 (fun _ => .bad))), (5, (eI (20 : Int)))], by kernel_rfl, rfl, ⟨nQ, aM.refl _, trivial⟩⟩ ?_
    obtain rfl := oI h0
    exact aG (bO (aQ (Q_r hO)))
  refine aS aD 7 [15] [(19, (aE ((decide (eN < (0 : Int))) || (decide ((1125899906842624 : Int) < eN)))))] ?_
  refine bM h0 (fun h0 => ?_) (fun h0 => ?_)
  · refine cB aD 2 [(4, (.sl true 0 (fun _ => .bad))), (5, (eI (13 : Int)))] ?_
    refine bN ?_
    refine dG (l := [(4, (eL (eI) ([]))), (5, (eI (13 : Int)))]) ⟨[(4, (.sl true 0 (fun _ => .bad))), (5, (eI (13 : Int)))], by kernel_rfl, rfl, ⟨nQ, aM.refl _, trivial⟩⟩ ?_
    obtain rfl := oI h0
    exact aG (bO (aQ (Q_r hO)))
  refine cB aD 3 [(0, (eL aO l0)), (1, (eI eN)), (26, (aE (decide (eN = (1125899906842624 : Int)))))] ?_
  refine bM h0 (fun h0 => ?_) (fun h0 => ?_)
  · refine cB aD 2 [(4, (.sl true 0 (fun _ => .bad))), (5, (eI (0 : Int)))] ?_
    refine bN ?_
    refine dG (l := [(4, (eL (eI) ([]))), (5, (eI (0 : Int)))]) ⟨[(4, (.sl true 0 (fun _ => .bad))), (5, (eI (0 : Int)))], by kernel_rfl, rfl, ⟨nQ, aM.refl _, trivial⟩⟩ ?_
    obtain rfl := oI h0
    exact aG (bO (aQ (Q_r hO)))
  refine bL ?_
  refine jA [(0, (eL aO l0)), (1, (eI eN))] ?_
  refine aG (aW (aF (?_)))
  refine aN ?_
  refine aU aD 5 ?_
  refine SP (β := Int) (eI) (t := 58) hO ?_
  intro lm11 H hO
  refine bX 2 ?_
  refine KC (f := (eI)) (mty := 58) eN (1 : Int) hO ?_
  intro H hO
  refine bE ?_
  refine bY [] [(6, (.mp lm11))] ?_
  refine eT (fun T H => ∃ jQ : (List (Int × Int)), Has T [(6, (.mp lm11))] ∧ aJ ⟨H0, [], (lm11, zR (eI) jQ) :: []⟩ H [] ∧ rM jQ = some r) ?_ ?_
  · clear hO h0
    rintro T H ⟨jQ, hT, hO, h0⟩
    refine bA hT ?_
    clear hT
    unfold rM at h0
    refine aN ?_
    refine aU aD 4 ?_
    refine bX 1 ?_
    refine VG (mty := 58) hO ?_
    obtain ⟨c13, h0⟩ := aV h0
    refine NM 1 8 (lN jQ) (by kernel_rfl) (by kernel_rfl) c13 hO ?_
    intro lo14 H hO
    refine bE ?_
    refine bG [(6, (.mp lm11)), (9, (.msl 1 lo14 0 (List.length ([] : List Int))))] ?_
    refine eT (fun T H => ∃ out9 : List Int, ∃ lo15 : Nat, Has T [(9, (.msl 1 lo15 0 (List.length out9)))] ∧ aJ ⟨H0, [], []⟩ H [(lo15, 1, List.map (eI) out9)] ∧ tU out9 = some r) ?_ ?_
    · clear hO h0
      rintro T H ⟨out9, lo15, hT, hO, h0⟩
      refine bA hT ?_
      clear hT
      unfold tU at h0
      refine aN ?_
      refine aU aD 2 ?_
      refine bX 1 ?_
      obtain ⟨x16, hx17, h0⟩ := aX h0
      refine uX [(lo15, 1, List.map (eI) x16)] 0 (yS lo15 out9 _ hx17) hO ?_
      intro H hO hl18
      simp only [List.length_map] at hl18
      refine iP ?_
      refine dG (l := [(9, (.msl 1 lo15 0 (List.length x16)))]) ⟨[(9, (.msl 1 lo15 0 (List.length out9)))], by kernel_rfl, rfl, ⟨aM.eq (by simp [hl18]), trivial⟩⟩ ?_
      refine aG (aF (?_))
      refine cB aD 3 [(4, (.msl 1 lo15 0 (List.length x16))), (5, (eI (0 : Int)))] ?_
      refine bN ?_
      refine jA [(4, (.msl 1 lo15 0 (List.length x16))), (5, (eI (0 : Int)))] ?_
      refine rO (en := (eI)) x16 0 0 4 1 lo15 (List.length x16) hO (by kernel_rfl) (by kernel_rfl) (by kernel_rfl) (L' := []) (by kernel_rfl) ?_
      intro H19 hO
      obtain rfl := oI h0
      exact aG (Q_r hO)
    refine aN ?_
    refine aU aD 2 ?_
    refine bX 1 ?_
    refine OU (mty := 58) hO ?_
    intro li20 bs21 ck22 H hmb XK hO
    refine iP ?_
    refine bY [6] [(50, (.lp li20 0 0))] ?_
    refine cE 3 ?_
    refine fT [(9, (.msl 1 lo14 0 (List.length ([] : List Int)))), (50, (.lp li20 0 0))] ?_
    refine eO (fun T H => ∃ out9 : List Int, ∃ t50 : (List (Int × Int)), ∃ lo24 : Nat, Has T [(9, (.msl 1 lo24 0 (List.length out9))), (50, (.lp li20 0 0))] ∧ aJ ⟨H0, [], (li20, DB li20 lm11 ck22 []) :: (lm11, BD (eI) t50 bs21 ck22) :: []⟩ H [(lo24, 1, List.map (eI) out9)] ∧ List.length bs21 = List.length t50 ∧ uD out9 t50 = some r) ?_ ⟨([] : List Int), jQ, lo14, .eq (by kernel_rfl), hO, hmb, h0⟩
    clear hO hmb h0
    rintro T H ⟨out9, t50, lo24, hT, hO, hmb, h0⟩
    refine bA hT ?_
    clear hT
    unfold uD at h0
    refine QI (by kernel_rfl) (fun (s : List Int) (seen : List Nat) T H => ∃ lo24 : Nat, Has T [(9, (.msl 1 lo24 0 (List.length s))), (50, (.lp li20 0 0))] ∧ aJ ⟨H0, [], (li20, DB li20 lm11 ck22 seen) :: (lm11, BD (eI) t50 bs21 ck22) :: []⟩ H [(lo24, 1, List.map (eI) s)]) hmb h0 ⟨lo24, .eq (by kernel_rfl), hO⟩ ?_
    clear hO h0
    rintro seen rem s T H ⟨lo24, hT, hO⟩ hleft hall
    obtain ⟨out9, rfl⟩ : ∃ x, x = s := ⟨_, rfl⟩
    refine bA (l := [(9, (.msl 1 lo24 0 (List.length out9))), (50, (.lp li20 0 0))]) hT ?_
    clear hT
    refine aN ?_
    refine aU aD 2 ?_
    refine RL hmb XK hleft hall hO (fun h0 => ?_) (fun mk mv bq rest out1 H h1 hlt hleft hall hat hO => ?_)
    · clear hall hleft
      replace h0 : uJ t50 out9 = some r := h0
      unfold uJ at h0
      refine bE ?_
      refine bY [] [(52, (aE false))] ?_
      refine aN ?_
      refine lR (false) (fun hc25 => ?_) (fun hc25 => ?_)
      · cases hc25
      · refine gC 3 ?_
        replace hO := hO.sS.sS
        exact aG (aT (aT (bS (aF (⟨rfl, _, _, .eq (by kernel_rfl), hO, h0⟩)))))
    replace h1 : oJ t50 out9 mk mv = some out1 := h1
    unfold oJ at h1
    refine bE ?_
    refine bY [] [(52, (aE true))] ?_
    refine aN ?_
    refine lR (true) (fun hc26 => ?_) (fun hc26 => ?_)
    · refine bL ?_
      refine bG [(9, (.msl 1 lo24 0 (List.length out9))), (50, (.lp li20 0 0))] ?_
      refine cE 4 ?_
      refine aN ?_
      refine aU aD 3 ?_
      refine PV hat hO ?_
      refine bE ?_
      refine bY [] [(10, (eI mk))] ?_
      refine aU aD 5 ?_
      refine bX 2 ?_
      refine mP (xs := [(eI mk)]) (k := 1) (by kernel_rfl) (by kernel_rfl) ?_
      obtain ⟨c28, h1⟩ := aV h1
      refine tO (e := (eI)) out9 ([mk]) 0 lo24 1 8 (kH [(eI mk)]) (fun lo27 => [(lo27, 1, List.map (eI) (out9 ++ ([mk])))]) (by kernel_rfl) (by kernel_rfl) hO (by kernel_rfl) (by kernel_rfl) c28 (fun _ => by kernel_rfl) ?_
      intro lo27 H hO
      refine bE ?_
      obtain rfl := oI h1
      exact aG (aW (aF (⟨rfl, _, _, _, hlt, hleft, hall, lo27, .eq (by kernel_rfl), hO⟩)))
    · cases hc26
  refine aS aD 3 [0] [(32, (eL aO l0)), (33, (eI (lN l0))), (34, (eI (0 : Int)))] ?_
  refine cE 1 ?_
  refine fT [(1, (eI eN)), (6, (.mp lm11)), (32, (eL aO l0)), (33, (eI (lN l0))), (34, (eI (0 : Int)))] ?_
  refine eO (fun T H => ∃ jQ : (List (Int × Int)), ∃ t32 : (List aL), ∃ t33 : Int, ∃ t34 : Int, Has T [(1, (eI eN)), (6, (.mp lm11)), (32, (eL aO t32)), (33, (eI t33)), (34, (eI t34))] ∧ aJ ⟨H0, [], (lm11, zR (eI) jQ) :: []⟩ H [] ∧ uK eN jQ t32 t33 t34 = some r) ?_ ⟨oW ([] : (List (Int × Int))) eN (1 : Int), l0, (lN l0), (0 : Int), .eq (by kernel_rfl), hO, h0⟩
  clear hO h0
  rintro T H ⟨jQ, t32, t33, t34, hT, hO, h0⟩
  refine bA hT ?_
  clear hT
  unfold uK at h0
  obtain ⟨rr0, hl0, h0⟩ := aX h0
  refine cZ (by kernel_rfl) (fun (s : (List (Int × Int)) × Int) T H => Has T [(1, (eI eN)), (6, (.mp lm11)), (32, (eL aO t32)), (33, (eI t33)), (34, (eI s.2))] ∧ aJ ⟨H0, [], (lm11, zR (eI) s.1) :: []⟩ H []) hl0 ⟨.eq (by kernel_rfl), hO⟩ ?_
  clear hO
  rintro k0 s out1 T H ⟨hT, hO⟩ h1 ho0
  obtain ⟨jQ, t34⟩ := s
  replace h1 : lY eN t32 t33 jQ t34 = some out1 := h1
  try dsimp only at hT
  refine bA hT ?_
  clear hT
  unfold lY at h1
  refine aS aD 1 [] [(35, (aE (decide (t34 < t33))))] ?_
  refine aN ?_
  refine bM h1 (fun h1 => ?_) (fun h1 => ?_)
  · refine bL ?_
    refine bG [(1, (eI eN)), (6, (.mp lm11)), (32, (eL aO t32)), (33, (eI t33)), (34, (eI t34))] ?_
    refine eT (fun T H => ∃ jQ : (List (Int × Int)), Has T [(1, (eI eN)), (6, (.mp lm11)), (32, (eL aO t32)), (33, (eI t33)), (34, (eI t34))] ∧ aJ ⟨H0, [], (lm11, zR (eI) jQ) :: []⟩ H [] ∧ oU eN jQ t32 t33 t34 = some out1) ?_ ?_
    · clear hO h1
      rintro T H ⟨jQ, hT, hO, h1⟩
      refine bA hT ?_
      clear hT
      unfold oU at h1
      refine aU aD 2 ?_
      refine bE ?_
      exact aG (aF (⟨rfl, _, (oI h1).symm, .eq (by kernel_rfl), hO⟩))
    refine cE 2 ?_
    refine aN ?_
    refine aU aD 4 ?_
    obtain ⟨c30, h1⟩ := aV h1
    refine tG 2 [0 ≤ t34 ∧ t34 < (lN t32)] ⟨c30, trivial⟩ ?_
    refine zG 3 (.agg [(.sl true 0 (fun _ => .bad)), (eI 0), (eI 0)]) (aO (aL.mk ([]) 0 0)) (by kernel_rfl) (by kernel_rfl) (by kernel_rfl) (RC (xs := [(.sl true 0 (fun _ => .bad)), (eI 0), (eI 0)]) (ys := [(eL aC ([])), (eI 0), (eI 0)]) ⟨nQ, aM.refl _, aM.refl _, trivial⟩) (by kernel_rfl) (by kernel_rfl) hO ?_
    intro lo31 H hO
    refine qW 0 lo31 3 0 (aO (aL.mk ([]) 0 0)) (aO (gD t32 t34)) [(aO (aL.mk ([]) 0 0))] [(lo31, 3, [(aO (gD t32 t34))])] hO rfl (by kernel_rfl) ?_
    intro H hO
    refine iP ?_
    refine bY [] [(8, (.lp lo31 0 0))] ?_
    refine aN ?_
    refine aU aD 4 ?_
    refine bX 1 ?_
    refine uA 0 lo31 3 0 (aO (gD t32 t34)) (eI ((gD t32 t34).At)) [(aO (gD t32 t34))] hO rfl ?_
    refine bE ?_
    refine bY [] [(41, (aE (decide (eN < ((gD t32 t34).At)))))] ?_
    refine bM h1 (fun h1 => ?_) (fun h1 => ?_)
    · refine aU aD 4 ?_
      refine bX 2 ?_
      refine uA 0 lo31 3 0 (aO (gD t32 t34)) (eI ((gD t32 t34).At)) [(aO (gD t32 t34))] hO rfl ?_
      refine KC (f := (eI)) (mty := 58) ((gD t32 t34).At) (1 : Int) hO ?_
      intro H hO
      refine iP ?_
      replace hO := hO.pick (L' := []) [] (by decide) (by kernel_rfl)
      exact aG (aW (aF (⟨rfl, _, .eq (by kernel_rfl), hO, h1⟩)))
    refine bL ?_
    replace hO := hO.pick (L' := []) [] (by decide) (by kernel_rfl)
    exact aG (aW (aF (⟨rfl, _, .eq (by kernel_rfl), hO, h1⟩)))
  refine gC 1 ?_
  obtain rfl := oI h1
  obtain rfl : _ = rr0 := ho0
  replace h0 : rM jQ = some r := h0
  exact aG (aT (aT (bS (aF (⟨rfl, _, .eq (by kernel_rfl), hO, h0⟩)))))

theorem IE (l0 : (List aL)) (r : (List aL)) (h0 : tD l0 = some r) : eB Try.prog 38 [(eL aO l0)] (.fn (.func 66) [] [(.rp (eL aO r))]) := by
  intro H0
  refine dR Try.func38 ?_
  have hO := aJ.start H0
  unfold tD at h0
  refine aN ?_
  refine aU aD 2 ?_
  refine nY 1 (eL aO l0) (by kernel_rfl) (by kernel_rfl) ?_
  refine bE ?_
  refine bG [(1, (.rp (eL aO l0)))] ?_
  refine cB aD 2 [(2, (.fn (.func 66) [] [(.rp (eL aO l0))]))] ?_
  refine bN ?_
  obtain rfl := oI h0
  exact aG (lU (x := (.fn (.func 66) [] [(.rp (eL aO l0))])) (by kernel_rfl) (aM.refl _) ⟨rfl, hO.out⟩)

theorem CG {σ : Type} (I : σ → Gs → Prop) (yield0_b : Nat) (fV : σ → (List aB) → (List aI) → Option (σ × Bool)) (yield0_h : ∀ st a0 a1 st2 r, fV st a0 a1 = some (st2, r) → BS Try.prog (yv yield0_b) I st [(eL aC a0), (eL aR a1)] st2 (aE r)) (t1 : (List aL)) (sg0 : σ) (r : σ) (h0 : mL fV t1 sg0 = some r) : wG Try.prog 66 I sg0 [(yv yield0_b), (.rp (eL aO t1))] r (.tup []) := by
  intro H0 G0 hI hg
  refine GS aD Try.func66 (by kernel_rfl) (by kernel_rfl) (by kernel_rfl) ?_
  obtain ⟨G, hO, hI⟩ : ∃ G, aJ ⟨H0, List.map (fun p : Nat × dN => p.1) G0, G⟩ H0 [] ∧ I sg0 G := ⟨G0, aJ.EM hg, hI⟩
  clear hg
  unfold mL at h0
  refine aN ?_
  refine aU aD 1 ?_
  refine nY 1 (yv yield0_b) (by kernel_rfl) (by kernel_rfl) ?_
  refine iP ?_
  refine bY [0] [(2, (.rp (yv yield0_b)))] ?_
  refine aN ?_
  refine aN ?_
  refine aU aD 3 ?_
  refine bX 1 ?_
  obtain ⟨x1, hx2, h0⟩ := aX h0
  refine fC (EV t1 _ hx2) hO ?_
  intro H hO
  refine bE ?_
  refine bY [] [(7, (aE (!x1)))] ?_
  refine bM h0 (fun h0 => ?_) (fun h0 => ?_)
  · refine bN ?_
    obtain rfl := oI h0
    exact aG (aQ (QM0 (.inr rfl) (rs := []) (xs := []) (x := (.tup [])) (by kernel_rfl) uH (by kernel_rfl) ⟨rfl, G, hI, hO.AF⟩))
  refine bL ?_
  refine bG [(1, (.rp (eL aO t1))), (2, (.rp (yv yield0_b)))] ?_
  refine aN ?_
  refine aU aD 2 ?_
  refine bX 1 ?_
  obtain ⟨x5, hx6, h0⟩ := aX h0
  refine fC (CU t1 _ hx6) hO ?_
  intro H hO
  refine iP ?_
  refine bY [1] [(9, (.fn (.func 91) [] [(.rp (eL aO x5))]))] ?_
  refine cE 0 ?_
  refine fT [(2, (.rp (yv yield0_b))), (9, (.fn (.func 91) [] [(.rp (eL aO x5))]))] ?_
  refine eO (fun T H => ∃ sg : σ, ∃ t9c0 : (List aL), ∃ G : Gs, Has T [(2, (.rp (yv yield0_b))), (9, (.fn (.func 91) [] [(.rp (eL aO t9c0))]))] ∧ aJ ⟨H0, List.map (fun p : Nat × dN => p.1) G0, G⟩ H [] ∧ I sg G ∧ nW fV sg t9c0 = some r) ?_ ⟨sg0, x5, G, .eq (by kernel_rfl), hO, hI, h0⟩
  clear hO hI h0
  rintro T H ⟨sg, t9c0, G, hT, hO, hI, h0⟩
  refine bA (l := [(2, (.rp (yv yield0_b))), (9, (.fn (.func 91) [] [(.rp (eL aO t9c0))]))]) hT ?_
  clear hT
  unfold nW at h0
  obtain ⟨o0, hl0, h0⟩ := aX h0
  refine DU (fid := 91) (ys := []) (cs := [(.rp (eL aO t9c0))]) #[10, 11] (fun (A : xT) (b lL : Nat) (st : (σ) ⊕ (σ)) (G' : Gs) => Sum.elim (fun (s : σ) => ∃ G : Gs, I s G ∧ G' = (lL, .raw (kV b A .ready none)) :: (up [] ++ G)) (fun (s : σ) => ∃ G : Gs, I s G ∧ G' = (lL, .raw (kV b A .done (some .ret))) :: (up [] ++ G)) st) (.inl sg) o0 (.tup []) (by kernel_rfl) (by kernel_rfl) (by kernel_rfl) hO (fun _ _ => ⟨G, hI, rfl⟩) ?_ ?_
  · intro b lL
    clear hO hI h0
    refine xE _ b (fun st t10 t11 => rnd (fun (s : σ) => kC fV t9c0 s t10 t11) st) ?_ t9c0 _ _ hl0
    intro st t10 t11 out1 rr hr
    obtain ⟨s, rfl, h1, rfl⟩ := US hr
    clear hr
    intro Hr Gr hi hg
    obtain ⟨sg, rfl⟩ : ∃ x, x = s := ⟨_, rfl⟩
    dsimp only [Sum.elim_inl] at hi
    obtain ⟨G, hI, rfl⟩ := hi
    replace h1 : kC fV t9c0 sg t10 t11 = some out1 := h1
    unfold kC at h1
    obtain ⟨E1, hE, hO⟩ := yH hg
    refine yB (DT (hO.gm 0 _ rfl).2 (by kernel_rfl) (by kernel_rfl) ?_)
    refine fT [(2, (.rp (yv yield0_b))), (9, (.fn (.func 91) [] [(.rp (eL aO t9c0))])), (10, (eL aC t10)), (11, (eL aR t11))] ?_
    refine aS aD 1 [9, 10] [(3, (eL aC t10))] ?_
    refine aU aD 1 ?_
    refine bE ?_
    refine jA [(2, (.rp (yv yield0_b))), (3, (eL aC t10)), (4, (eL aR t11))] ?_
    refine aG (⟨rfl, rfl, (hO.gm 0 _ rfl).2, ?_⟩)
    intro o1 ho1
    replace hO := hO.uB o1
    refine cE 1 ?_
    refine aN ?_
    refine aU aD 5 ?_
    refine bX 3 ?_
    obtain ⟨x7, hx8, h1⟩ := aX h1
    refine TO (I := I) (yv yield0_b) [(eL aC t10), (eL aR t11)] (aE x7.2) (by kernel_rfl) (by kernel_rfl) (yield0_h _ t10 t11 x7.1 x7.2 hx8) hO hI ?_
    intro G H hO hI
    refine bE ?_
    refine bG [(16, (aE (!x7.2)))] ?_
    refine bM h1 (fun h1 => ?_) (fun h1 => ?_)
    · refine bN ?_
      refine jA [] ?_
      obtain rfl := oI h1
      exact aG (bO (⟨(mS hO hE ho1 .dead).1, rfl, _, ⟨G, hI, rfl⟩, (mS hO hE ho1 _).2⟩))
    refine bL ?_
    refine jA [] ?_
    obtain rfl := oI h1
    exact aG (aW (⟨(mS hO hE ho1 .dead).1, rfl, _, ⟨G, hI, rfl⟩, (mS hO hE ho1 _).2⟩))
  · intro b lD10 lL H' G' hi hO
    rcases o0 with s | s
    · dsimp only [Sum.elim_inl] at hi
      obtain ⟨G, hI, rfl⟩ := hi
      replace h0 : (some s) = some r := h0
      obtain ⟨hlL, hO⟩ := tV hO
      refine ⟨_, _, hlL, (by intro e; cases e), ?_⟩
      obtain rfl := oI h0
      have hD := (hO.gm 0 _ rfl).2
      replace hO := (hO.uB .dead).sS
      exact aG (aW (QM1 (.inl rfl) hD (rs := []) (xs := []) (x := (.tup [])) (by kernel_rfl) uH (by kernel_rfl) ⟨rfl, G, hI, hO.AF⟩))
    · dsimp only [Sum.elim_inr] at hi
      obtain ⟨G, hI, rfl⟩ := hi
      replace h0 : (some s) = some r := h0
      obtain ⟨hlL, hO⟩ := tV hO
      refine ⟨_, _, hlL, (by intro e; cases e), ?_⟩
      refine bN ?_
      obtain rfl := oI h0
      have hD := (hO.gm 0 _ rfl).2
      replace hO := (hO.uB .dead).sS
      exact aG (bO (QM1 (.inr rfl) hD (rs := []) (xs := []) (x := (.tup [])) (by kernel_rfl) uH (by kernel_rfl) ⟨rfl, G, hI, hO.AF⟩))

theorem SF (f0 : (List aI)) (t1 : Int) (r : Int) (h0 : vK f0 t1 = some r) : eB Try.prog 40 [(eL aR f0), (eI t1)] (eI r) := by
  intro H0
  refine dR Try.func40 ?_
  have hO := aJ.start H0
  unfold vK at h0
  refine aS aD 1 [] [] ?_
  refine aN ?_
  refine aN ?_
  refine aU aD 3 ?_
  refine bX 1 ?_
  obtain ⟨x1, hx2, h0⟩ := aX h0
  refine fC (wI f0 _ hx2) hO ?_
  intro H hO
  refine bE ?_
  refine bY [] [(10, (aE (!x1)))] ?_
  refine bM h0 (fun h0 => ?_) (fun h0 => ?_)
  · refine cB aD 1 [(4, (eI (0 : Int)))] ?_
    refine bN ?_
    obtain rfl := oI h0
    exact aG (aQ (Q_r hO))
  refine bL ?_
  refine bG [(0, (eL aR f0)), (1, (eI t1))] ?_
  refine aS aD 1 [] [(5, (eI (0 : Int)))] ?_
  refine eT (fun T H => ∃ v5 : Int, Has T [(5, (eI v5))] ∧ aJ ⟨H0, [], []⟩ H [] ∧ rU v5 = some r) ?_ ?_
  · clear hO h0
    rintro T H ⟨v5, hT, hO, h0⟩
    refine bA hT ?_
    clear hT
    unfold rU at h0
    refine cB aD 2 [(4, (eI v5))] ?_
    refine bN ?_
    obtain rfl := oI h0
    exact aG (Q_r hO)
  refine aS aD 3 [0] [(11, (eL aR f0)), (12, (eI (lN f0))), (13, (eI (0 : Int)))] ?_
  refine cE 0 ?_
  refine fT [(1, (eI t1)), (5, (eI (0 : Int))), (11, (eL aR f0)), (12, (eI (lN f0))), (13, (eI (0 : Int)))] ?_
  refine eO (fun T H => ∃ v5 : Int, ∃ t11 : (List aI), ∃ t12 : Int, ∃ t13 : Int, Has T [(1, (eI t1)), (5, (eI v5)), (11, (eL aR t11)), (12, (eI t12)), (13, (eI t13))] ∧ aJ ⟨H0, [], []⟩ H [] ∧ wC t1 v5 t11 t12 t13 = some r) ?_ ⟨(0 : Int), f0, (lN f0), (0 : Int), .eq (by kernel_rfl), hO, h0⟩
  clear hO h0
  rintro T H ⟨v5, t11, t12, t13, hT, hO, h0⟩
  refine bA hT ?_
  clear hT
  unfold wC at h0
  obtain ⟨rr0, hl0, h0⟩ := aX h0
  refine cZ (by kernel_rfl) (fun (s : Int × Int) T H => Has T [(1, (eI t1)), (5, (eI s.1)), (11, (eL aR t11)), (12, (eI t12)), (13, (eI s.2))] ∧ aJ ⟨H0, [], []⟩ H []) hl0 ⟨.eq (by kernel_rfl), hO⟩ ?_
  clear hO
  rintro k0 s out1 T H ⟨hT, hO⟩ h1 ho0
  obtain ⟨v5, t13⟩ := s
  replace h1 : lV t1 t11 t12 v5 t13 = some out1 := h1
  try dsimp only at hT
  refine bA hT ?_
  clear hT
  unfold lV at h1
  refine aS aD 1 [] [(14, (aE (decide (t13 < t12))))] ?_
  refine aN ?_
  refine bM h1 (fun h1 => ?_) (fun h1 => ?_)
  · refine bL ?_
    refine bG [(1, (eI t1)), (5, (eI v5)), (11, (eL aR t11)), (12, (eI t12)), (13, (eI t13))] ?_
    refine aN ?_
    refine cE 1 ?_
    refine aN ?_
    refine aU aD 4 ?_
    obtain ⟨c6, h1⟩ := aV h1
    refine tG 2 [0 ≤ t13 ∧ t13 < (lN t11)] ⟨c6, trivial⟩ ?_
    refine rN 2 (aR (aI.mk 0 0)) (by kernel_rfl) (by kernel_rfl) hO ?_
    intro lo7 H hO
    refine qW 0 lo7 2 0 (aR (aI.mk 0 0)) (aR (gD t11 t13)) [(aR (aI.mk 0 0))] [(lo7, 2, [(aR (gD t11 t13))])] hO rfl (by kernel_rfl) ?_
    intro H hO
    refine iP ?_
    refine bY [] [(7, (.lp lo7 0 0))] ?_
    refine aN ?_
    refine aN ?_
    refine aU aD 4 ?_
    refine bX 1 ?_
    refine uA 0 lo7 2 0 (aR (gD t11 t13)) (eI ((gD t11 t13).At)) [(aR (gD t11 t13))] hO rfl ?_
    refine bE ?_
    refine bY [] [(20, (aE (decide (t1 < ((gD t11 t13).At)))))] ?_
    refine bM h1 (fun h1 => ?_) (fun h1 => ?_)
    · refine gC 0 ?_
      replace hO := hO.pick (L' := []) [] (by decide) (by kernel_rfl)
      obtain rfl := oI h1
      obtain rfl : _ = rr0 := ho0
      replace h0 : rU v5 = some r := h0
      exact aG (aT (qC (by kernel_rfl) (aT (aT (bS (aF (⟨rfl, _, .eq (by kernel_rfl), hO, h0⟩)))))))
    refine bL ?_
    refine bG [(1, (eI t1)), (5, (eI v5)), (7, (.lp lo7 0 0)), (11, (eL aR t11)), (12, (eI t12)), (13, (eI t13))] ?_
    refine aU aD 5 ?_
    refine bX 2 ?_
    refine uA 0 lo7 2 0 (aR (gD t11 t13)) (eI ((gD t11 t13).Net)) [(aR (gD t11 t13))] hO rfl ?_
    refine bE ?_
    refine jA [(1, (eI t1)), (5, (eI (wR (v5 + ((gD t11 t13).Net))))), (11, (eL aR t11)), (12, (eI t12)), (13, (eI t13))] ?_
    replace hO := hO.pick (L' := []) [] (by decide) (by kernel_rfl)
    refine aG (aW (aF (?_)))
    refine aU aD 2 ?_
    refine bE ?_
    exact aG (aF (⟨rfl, _, (oI h1).symm, .eq (by kernel_rfl), hO⟩))
  refine gC 0 ?_
  obtain rfl := oI h1
  obtain rfl : _ = rr0 := ho0
  replace h0 : rU v5 = some r := h0
  exact aG (aT (aT (bS (aF (⟨rfl, _, .eq (by kernel_rfl), hO, h0⟩)))))

theorem tJ (s0 : (List aB)) (r : (List aB)) (h0 : gJ s0 = some r) : xV Try.prog 41 [(eL aC s0)] (fun lo => (.msl 3 lo 0 (List.length r))) 3 (List.map aC r) := by
  intro H0
  refine dR Try.func41 ?_
  have hO := aJ.start H0
  unfold gJ at h0
  refine aS aD 1 [] [] ?_
  refine aN ?_
  refine aN ?_
  refine aU aD 2 ?_
  refine bX 1 ?_
  refine ZD false (List.length s0) (fun i => aC (List.getD s0 i default)) (by kernel_rfl) (by kernel_rfl) ?_
  intro b1 hn2
  refine iP ?_
  refine bY [] [(4, (aE b1))] ?_
  refine lR (b1) (fun hc3 => ?_) (fun hc3 => ?_)
  · replace h0 : some ([] : List aB) = some r := by
      have hl := List.eq_nil_of_length_eq_zero (hn2 hc3)
      rw [hl] at h0
      exact (aV h0).2
    refine cB aD 1 [(2, (.sl true 0 (fun _ => .bad)))] ?_
    refine bN ?_
    refine jA [(2, (.sl true 0 (fun _ => .bad)))] ?_
    refine YI (el := (fun _ => .bad)) 0 2 3 hO (by kernel_rfl) ?_
    intro lo4 H5 hO
    obtain rfl := oI h0
    exact aG (aQ (lU (x := (.msl 3 lo4 0 (List.length ([] : List aB)))) (by kernel_rfl) (aM.refl _) ⟨lo4, rfl, hO⟩))
  · refine bL ?_
    refine bG [(0, (eL aC s0))] ?_
    refine aN ?_
    refine aU aD 4 ?_
    refine mP (xs := []) (k := 3) (by kernel_rfl) (by kernel_rfl) ?_
    refine bX 2 ?_
    obtain ⟨c7, h0⟩ := aV h0
    refine NV (e := aC) s0 (fun _ => .bad) 3 32 (eL aC s0) (fun lo6 => [(lo6, 3, List.map aC s0)]) (by kernel_rfl) (by kernel_rfl) hO (NJ (fun _ => by kernel_rfl)) c7 (fun _ => by kernel_rfl) ?_
    intro lo6 H hO
    refine bE ?_
    refine bG [(2, (.msl 3 lo6 0 (List.length s0)))] ?_
    refine bN ?_
    obtain rfl := oI h0
    exact aG (lU (x := (.msl 3 lo6 0 (List.length s0))) (by kernel_rfl) (aM.refl _) ⟨lo6, rfl, hO⟩)

theorem GC (t0 : Int) (t1 : (List bT)) (r : (List aY)) (h0 : oM t0 t1 = some r) : eB Try.prog 39 [(eI t0), (.rp (eL bU t1))] (eL bH r) := by
  intro H0
  refine dR Try.func39 ?_
  have hO := aJ.start H0
  unfold oM at h0
  refine aS aD 1 [] [] ?_
  refine aN ?_
  refine aU aD 2 ?_
  refine mP (xs := []) (k := 2) (by kernel_rfl) (by kernel_rfl) ?_
  refine bE ?_
  refine bY [] [(4, (.sl true 0 (fun _ => .bad)))] ?_
  refine eT (fun T H => ∃ out4 : List aY, ∃ lo1 : Nat, Has T [(4, (.msl 2 lo1 0 (List.length out4)))] ∧ aJ ⟨H0, [], []⟩ H [(lo1, 2, List.map bH out4)] ∧ qT out4 = some r) ?_ ?_
  · clear hO h0
    rintro T H ⟨out4, lo1, hT, hO, h0⟩
    refine bA hT ?_
    clear hT
    unfold qT at h0
    refine cB aD 2 [(3, (.msl 2 lo1 0 (List.length out4)))] ?_
    refine bN ?_
    refine jA [(3, (.msl 2 lo1 0 (List.length out4)))] ?_
    refine rO (en := bH) out4 0 0 3 2 lo1 (List.length out4) hO (by kernel_rfl) (by kernel_rfl) (by kernel_rfl) (L' := []) (by kernel_rfl) ?_
    intro H2 hO
    obtain rfl := oI h0
    exact aG (Q_r hO)
  refine aS aD 3 [1] [(9, (eL bU t1)), (10, (eI (lN t1))), (11, (eI (0 : Int)))] ?_
  refine cE 0 ?_
  refine fT [(0, (eI t0)), (4, (.sl true 0 (fun _ => .bad))), (9, (eL bU t1)), (10, (eI (lN t1))), (11, (eI (0 : Int)))] ?_
  refine yJ (el := (fun _ => .bad)) 1 4 2 hO (by kernel_rfl) ?_
  intro lo21 H22 hO
  refine eO (fun T H => ∃ out4 : List aY, ∃ t9 : (List bT), ∃ t10 : Int, ∃ t11 : Int, ∃ lo4 : Nat, Has T [(0, (eI t0)), (4, (.msl 2 lo4 0 (List.length out4))), (9, (eL bU t9)), (10, (eI t10)), (11, (eI t11))] ∧ aJ ⟨H0, [], []⟩ H [(lo4, 2, List.map bH out4)] ∧ qQ t0 out4 t9 t10 t11 = some r) ?_ ⟨([] : List aY), t1, (lN t1), (0 : Int), lo21, .eq (by kernel_rfl), hO, h0⟩
  clear hO h0
  rintro T H ⟨out4, t9, t10, t11, lo4, hT, hO, h0⟩
  refine bA hT ?_
  clear hT
  unfold qQ at h0
  obtain ⟨rr0, hl0, h0⟩ := aX h0
  refine cZ (by kernel_rfl) (fun (s : List aY × Int) T H => ∃ lo4 : Nat, Has T [(0, (eI t0)), (4, (.msl 2 lo4 0 (List.length s.1))), (9, (eL bU t9)), (10, (eI t10)), (11, (eI s.2))] ∧ aJ ⟨H0, [], []⟩ H [(lo4, 2, List.map bH s.1)]) hl0 ⟨lo4, .eq (by kernel_rfl), hO⟩ ?_
  clear hO
  rintro k0 s out1 T H ⟨lo4, hT, hO⟩ h1 ho0
  obtain ⟨out4, t11⟩ := s
  replace h1 : lA t0 t9 t10 out4 t11 = some out1 := h1
  try dsimp only at hT
  refine bA hT ?_
  clear hT
  unfold lA at h1
  refine aS aD 1 [] [(12, (aE (decide (t11 < t10))))] ?_
  refine aN ?_
  refine bM h1 (fun h1 => ?_) (fun h1 => ?_)
  · refine bL ?_
    refine bG [(0, (eI t0)), (4, (.msl 2 lo4 0 (List.length out4))), (9, (eL bU t9)), (10, (eI t10)), (11, (eI t11))] ?_
    refine eT (fun T H => ∃ out4 : List aY, ∃ lo6 : Nat, Has T [(0, (eI t0)), (4, (.msl 2 lo6 0 (List.length out4))), (9, (eL bU t9)), (10, (eI t10)), (11, (eI t11))] ∧ aJ ⟨H0, [], []⟩ H [(lo6, 2, List.map bH out4)] ∧ mF t0 out4 t9 t10 t11 = some out1) ?_ ?_
    · clear hO h1
      rintro T H ⟨out4, lo6, hT, hO, h1⟩
      refine bA hT ?_
      clear hT
      unfold mF at h1
      refine aU aD 2 ?_
      refine bE ?_
      exact aG (aF (⟨rfl, _, (oI h1).symm, _, .eq (by kernel_rfl), hO⟩))
    refine cE 1 ?_
    refine aN ?_
    refine aU aD 4 ?_
    obtain ⟨c7, h1⟩ := aV h1
    refine tG 2 [0 ≤ t11 ∧ t11 < (lN t9)] ⟨c7, trivial⟩ ?_
    refine zG 2 (.agg [(.sl true 0 (fun _ => .bad)), (.sl true 0 (fun _ => .bad))]) (bU (bT.mk ([]) ([]))) (by kernel_rfl) (by kernel_rfl) (by kernel_rfl) (RC (xs := [(.sl true 0 (fun _ => .bad)), (.sl true 0 (fun _ => .bad))]) (ys := [(eL aC ([])), (eL aR ([]))]) ⟨nQ, nQ, trivial⟩) (by kernel_rfl) (by kernel_rfl) hO ?_
    intro lo8 H hO
    refine qW 1 lo8 2 0 (bU (bT.mk ([]) ([]))) (bU (gD t9 t11)) [(bU (bT.mk ([]) ([])))] [(lo4, 2, List.map bH out4), (lo8, 2, [(bU (gD t9 t11))])] hO rfl (by kernel_rfl) ?_
    intro H hO
    refine iP ?_
    refine bY [] [(6, (.lp lo8 0 0))] ?_
    refine aN ?_
    refine aU aD 5 ?_
    refine bX 1 ?_
    refine uA 1 lo8 2 0 (bU (gD t9 t11)) (eL aR ((gD t9 t11).jumps)) [(bU (gD t9 t11))] hO rfl ?_
    refine bX 3 ?_
    obtain ⟨x9, hx10, h1⟩ := aX h1
    refine fC (SF ((gD t9 t11).jumps) t0 _ hx10) hO ?_
    intro H hO
    refine bE ?_
    refine bY [] [(7, (eI x9))] ?_
    refine aS aD 2 [] [(20, (aE (decide ((0 : Int) < x9))))] ?_
    refine bM h1 (fun h1 => ?_) (fun h1 => ?_)
    · refine aU aD 9 ?_
      refine bX 2 ?_
      refine uA 1 lo8 2 0 (bU (gD t9 t11)) (eL aC ((gD t9 t11).row)) [(bU (gD t9 t11))] hO rfl ?_
      obtain ⟨x16, hx17, h1⟩ := aX h1
      refine WA (L' := fun lo18 => [(lo4, 2, List.map bH out4), (lo8, 2, [(bU (gD t9 t11))]), (lo18, 3, List.map aC x16)]) 3 (List.map aC x16) 41 [(eL aC ((gD t9 t11).row))] (fun lo18 => (.msl 3 lo18 0 (List.length x16))) (by kernel_rfl) (by kernel_rfl) (tJ ((gD t9 t11).row) _ hx17) hO (fun _ => by kernel_rfl) ?_
      intro lo18 H hO
      refine bX 5 ?_
      refine HP (e := aC) x16 2 24 3 lo18 (List.length x16) [(lo4, 2, List.map bH out4), (lo8, 2, [(bU (gD t9 t11))])] (by kernel_rfl) hO (by kernel_rfl) (by kernel_rfl) (by kernel_rfl) (by kernel_rfl) ?_
      intro H hO
      refine bX 6 ?_
      refine mP (xs := [(bH (aY.mk x16 x9))]) (k := 2) (by kernel_rfl) (by kernel_rfl) ?_
      obtain ⟨c20, h1⟩ := aV h1
      refine tO (e := bH) out4 ([aY.mk x16 x9]) 0 lo4 2 32 (kH [(bH (aY.mk x16 x9))]) (fun lo19 => [(lo19, 2, List.map bH (out4 ++ ([aY.mk x16 x9]))), (lo8, 2, [(bU (gD t9 t11))])]) (by kernel_rfl) (by kernel_rfl) hO (by kernel_rfl) (by kernel_rfl) c20 (fun _ => by kernel_rfl) ?_
      intro lo19 H hO
      refine bE ?_
      replace hO := hO.pick (L' := [(lo19, 2, List.map bH (out4 ++ ([aY.mk x16 x9])))]) [0] (by decide) (by kernel_rfl)
      exact aG (aW (aF (⟨rfl, _, _, .eq (by kernel_rfl), hO, h1⟩)))
    refine bL ?_
    replace hO := hO.pick (L' := [(lo4, 2, List.map bH out4)]) [0] (by decide) (by kernel_rfl)
    exact aG (aW (aF (⟨rfl, _, _, .eq (by kernel_rfl), hO, h1⟩)))
  refine gC 0 ?_
  obtain rfl := oI h1
  obtain rfl : _ = rr0 := ho0
  replace h0 : qT out4 = some r := h0
  exact aG (aT (aT (bS (aF (⟨rfl, _, _, .eq (by kernel_rfl), hO, h0⟩)))))

theorem BC (l0 : (List aL)) (eN : Int) (r : ((List cD) × Int)) (h0 : oS l0 eN = some r) : eB Try.prog 14 [(eL aO l0), (eI eN)] (.tup [(eL cU r.1), (eI r.2)]) := by
  intro H0
  refine GS aD Try.func14 (by kernel_rfl) (by kernel_rfl) (by kernel_rfl) ?_
  have hO := aJ.start H0
  unfold oS at h0
  refine aS aD 2 [] [] ?_
  refine aN ?_
  refine aU aD 8 ?_
  refine bX 2 ?_
  obtain ⟨x1, hx2, h0⟩ := aX h0
  refine fC (CL l0 eN _ hx2) hO ?_
  intro H hO
  refine bE ?_
  refine bY [1] [(6, (eL (eI) x1.1)), (7, (eI x1.2))] ?_
  refine aN ?_
  refine aS aD 2 [] [(24, (aE (!decide (x1.2 = (0 : Int)))))] ?_
  refine bM h0 (fun h0 => ?_) (fun h0 => ?_)
  · refine cB aD 3 [(4, (.sl true 0 (fun _ => .bad))), (5, (eI x1.2))] ?_
    refine bN ?_
    refine dG (l := [(4, (eL cU ([]))), (5, (eI x1.2))]) ⟨[(4, (.sl true 0 (fun _ => .bad))), (5, (eI x1.2))], by kernel_rfl, rfl, ⟨nQ, aM.refl _, trivial⟩⟩ ?_
    obtain rfl := oI h0
    exact aG (aQ (QM0 (.inr rfl) (rs := [.tmp 4, .tmp 5]) (xs := [(eL cU ([])), (eI x1.2)]) (x := (.tup [(eL cU ([])), (eI x1.2)])) (by kernel_rfl) (yK (x := (eL cU ([]))) (by kernel_rfl) (yK (x := (eI x1.2)) (by kernel_rfl) uH)) (by kernel_rfl) ⟨rfl, hO.out⟩))
  refine bL ?_
  refine bG [(0, (eL aO l0)), (6, (eL (eI) x1.1))] ?_
  refine aN ?_
  refine aU aD 3 ?_
  refine mP (xs := []) (k := 2) (by kernel_rfl) (by kernel_rfl) ?_
  refine zG 1 (.sl true 0 (fun _ => .bad)) (eL bU ([])) (by kernel_rfl) (by kernel_rfl) (by kernel_rfl) (nQ) (by kernel_rfl) (by kernel_rfl) hO ?_
  intro lo5 H hO
  refine YU 26 2 (fun _ => .bad) (by kernel_rfl) hO (by kernel_rfl) ?_
  intro lo6 H hO
  refine qW 0 lo5 1 0 (eL bU ([])) (.msl 2 lo6 0 (List.length ([] : List bT))) [(eL bU ([]))] [(lo5, 1, [(.msl 2 lo6 0 (List.length ([] : List bT)))]), (lo6, 2, List.map bU ([] : List bT))] hO rfl (by kernel_rfl) ?_
  intro H hO
  refine iP ?_
  refine bY [] [(8, (.lp lo5 0 0))] ?_
  refine aN ?_
  refine aN ?_
  refine aU aD 2 ?_
  refine bX 1 ?_
  obtain ⟨x7, hx8, h0⟩ := aX h0
  refine fC (IE l0 _ hx8) hO ?_
  intro H hO
  refine iP ?_
  refine bY [0] [(28, (.fn (.func 66) [] [(.rp (eL aO x7))]))] ?_
  refine cE 0 ?_
  refine fT [(6, (eL (eI) x1.1)), (8, (.lp lo5 0 0)), (28, (.fn (.func 66) [] [(.rp (eL aO x7))]))] ?_
  refine eO (fun T H => ∃ dU : (List Int), ∃ all8 : List bT, ∃ rW : (List aL), ∃ lo9 : Nat, Has T [(6, (eL (eI) dU)), (8, (.lp lo5 0 0)), (28, (.fn (.func 66) [] [(.rp (eL aO rW))]))] ∧ aJ ⟨H0, [], []⟩ H [(lo5, 1, [(.msl 2 lo9 0 (List.length all8))]), (lo9, 2, List.map bU all8)] ∧ tE dU all8 rW = some r) ?_ ⟨x1.1, ([] : List bT), x7, lo6, .eq (by kernel_rfl), hO, h0⟩
  clear hO h0
  rintro T H ⟨dU, all8, rW, lo9, hT, hO, h0⟩
  refine bA (l := [(6, (eL (eI) dU)), (8, (.lp lo5 0 0)), (28, (.fn (.func 66) [] [(.rp (eL aO rW))]))]) hT ?_
  clear hT
  unfold tE at h0
  obtain ⟨o0, hl0, h0⟩ := aX h0
  refine DU (fid := 66) (ys := []) (cs := [(.rp (eL aO rW))]) #[29, 30] (fun (A : xT) (b lL : Nat) (st : (List bT) ⊕ (List bT)) (G' : Gs) => Sum.elim (fun (s : List bT) => ∃ lo9 : Nat, G' = (lL, .raw (kV b A .ready none)) :: (up [(lo5, 1, [(.msl 2 lo9 0 (List.length s))]), (lo9, 2, List.map bU s)] ++ [])) (fun (s : List bT) => False) st) (.inl all8) o0 (.tup []) (by kernel_rfl) (by kernel_rfl) (by kernel_rfl) hO (fun _ _ => ⟨lo9, rfl⟩) ?_ ?_
  · intro b lL
    clear hO h0
    refine CG _ b (fun st t29 t30 => rnd (fun (s : List bT) => lH dU rW s t29 t30) st) ?_ rW _ _ hl0
    intro st t29 t30 out1 rr hr
    obtain ⟨s, rfl, h1, rfl⟩ := US hr
    clear hr
    intro Hr Gr hi hg
    obtain ⟨all8, rfl⟩ : ∃ x, x = s := ⟨_, rfl⟩
    dsimp only [Sum.elim_inl] at hi
    obtain ⟨lo9, rfl⟩ := hi
    replace h1 : lH dU rW all8 t29 t30 = some out1 := h1
    unfold lH at h1
    obtain ⟨E1, hE, hO⟩ := yH hg
    refine yB (DT (hO.gm 0 _ rfl).2 (by kernel_rfl) (by kernel_rfl) ?_)
    refine fT [(6, (eL (eI) dU)), (8, (.lp lo5 0 0)), (28, (.fn (.func 66) [] [(.rp (eL aO rW))])), (29, (eL aC t29)), (30, (eL aR t30))] ?_
    refine aS aD 1 [6, 28, 29] [(9, (eL aC t29))] ?_
    refine aU aD 1 ?_
    refine bE ?_
    refine jA [(8, (.lp lo5 0 0)), (9, (eL aC t29)), (10, (eL aR t30))] ?_
    refine aG (⟨rfl, rfl, (hO.gm 0 _ rfl).2, ?_⟩)
    intro o1 ho1
    replace hO := hO.uB o1
    refine cE 1 ?_
    refine aU aD 7 ?_
    refine uA 0 lo5 1 0 (.msl 2 lo9 0 (List.length all8)) (.msl 2 lo9 0 (List.length all8)) [(.msl 2 lo9 0 (List.length all8))] hO rfl ?_
    refine bX 4 ?_
    refine mP (xs := [(bU (bT.mk t29 t30))]) (k := 2) (by kernel_rfl) (by kernel_rfl) ?_
    obtain ⟨c11, h1⟩ := aV h1
    refine tO (e := bU) all8 ([bT.mk t29 t30]) 1 lo9 2 48 (kH [(bU (bT.mk t29 t30))]) (fun lo10 => [(lo5, 1, [(.msl 2 lo9 0 (List.length all8))]), (lo10, 2, List.map bU (all8 ++ ([bT.mk t29 t30])))]) (by kernel_rfl) (by kernel_rfl) hO (by kernel_rfl) (by kernel_rfl) c11 (fun _ => by kernel_rfl) ?_
    intro lo10 H hO
    refine qW 0 lo5 1 0 (.msl 2 lo9 0 (List.length all8)) (.msl 2 lo10 0 (List.length (all8 ++ ([bT.mk t29 t30])))) [(.msl 2 lo9 0 (List.length all8))] [(lo5, 1, [(.msl 2 lo10 0 (List.length (all8 ++ ([bT.mk t29 t30]))))]), (lo10, 2, List.map bU (all8 ++ ([bT.mk t29 t30])))] hO rfl (by kernel_rfl) ?_
    intro H hO
    refine iP ?_
    refine jA [(8, (.lp lo5 0 0))] ?_
    obtain rfl := oI h1
    exact aG (aW (⟨(mS hO hE ho1 .dead).1, rfl, _, ⟨lo10, rfl⟩, (mS hO hE ho1 _).2⟩))
  · intro b lD12 lL H' G' hi hO
    rcases o0 with s | s
    · dsimp only [Sum.elim_inl] at hi
      obtain ⟨lo9, rfl⟩ := hi
      replace h0 : (pY dU s ([] : List cD) dU (lN dU) (0 : Int)) = some r := h0
      obtain ⟨hlL, hO⟩ := tV hO
      refine ⟨_, _, hlL, (by intro e; cases e), ?_⟩
      refine jA [(6, (eL (eI) dU)), (8, (.lp lo5 0 0))] ?_
      refine aG (aW (aF (?_)))
      refine aN ?_
      refine PO (e := bU) s 0 1 1 2 lo5 lo9 (List.length s) [(lo5, 1, [(eL bU s)])] hO (by kernel_rfl) (by kernel_rfl) (by kernel_rfl) (.inr (by decide)) (by kernel_rfl) ?_
      intro H hO
      refine fT [(6, (eL (eI) dU)), (8, (.lp lo5 0 0))] ?_
      refine RT 1 0 8 1 lo5 (eL bU s) [] hO (by kernel_rfl) (by kernel_rfl) (by kernel_rfl) ?_
      intro H hO
      refine aU aD 2 ?_
      refine bE ?_
      refine bY [8] [(11, (.fn (.func 39) [] [(.rp (eL bU s))]))] ?_
      refine aN ?_
      refine aU aD 2 ?_
      refine mP (xs := []) (k := 3) (by kernel_rfl) (by kernel_rfl) ?_
      refine bE ?_
      refine bY [] [(12, (.sl true 0 (fun _ => .bad)))] ?_
      refine eT (fun T H => ∃ dS : List cD, ∃ lo13 : Nat, Has T [(12, (.msl 3 lo13 0 (List.length dS)))] ∧ aJ ⟨H0, [], (lD12, .raw tI) :: []⟩ H [(lo13, 3, List.map cU dS)] ∧ tB dS = some r) ?_ ?_
      · clear hO h0
        rintro T H ⟨dS, lo13, hT, hO, h0⟩
        refine bA hT ?_
        clear hT
        unfold tB at h0
        refine cB aD 3 [(4, (.msl 3 lo13 0 (List.length dS))), (5, (eI (0 : Int)))] ?_
        refine bN ?_
        refine jA [(4, (.msl 3 lo13 0 (List.length dS))), (5, (eI (0 : Int)))] ?_
        refine rO (en := cU) dS 0 0 4 3 lo13 (List.length dS) hO (by kernel_rfl) (by kernel_rfl) (by kernel_rfl) (L' := []) (by kernel_rfl) ?_
        intro H14 hO
        obtain rfl := oI h0
        have hD := (hO.gm 0 _ rfl).2
        replace hO := (hO.uB .dead).sS
        exact aG (QM1 (.inr rfl) hD (rs := [.tmp 4, .tmp 5]) (xs := [(eL cU dS), (eI (0 : Int))]) (x := (.tup [(eL cU dS), (eI (0 : Int))])) (by kernel_rfl) (yK (x := (eL cU dS)) (by kernel_rfl) (yK (x := (eI (0 : Int))) (by kernel_rfl) uH)) (by kernel_rfl) ⟨rfl, hO.out⟩)
      refine aS aD 3 [] [(39, (eL (eI) dU)), (40, (eI (lN dU))), (41, (eI (0 : Int)))] ?_
      refine cE 2 ?_
      refine fT [(6, (eL (eI) dU)), (11, (.fn (.func 39) [] [(.rp (eL bU s))])), (12, (.sl true 0 (fun _ => .bad))), (39, (eL (eI) dU)), (40, (eI (lN dU))), (41, (eI (0 : Int)))] ?_
      refine yJ (el := (fun _ => .bad)) 2 12 3 hO (by kernel_rfl) ?_
      intro lo30 H31 hO
      refine eO (fun T H => ∃ fB : (List bT), ∃ dS : List cD, ∃ t39 : (List Int), ∃ t40 : Int, ∃ t41 : Int, ∃ lo16 : Nat, Has T [(6, (eL (eI) dU)), (11, (.fn (.func 39) [] [(.rp (eL bU fB))])), (12, (.msl 3 lo16 0 (List.length dS))), (39, (eL (eI) t39)), (40, (eI t40)), (41, (eI t41))] ∧ aJ ⟨H0, [], (lD12, .raw tI) :: []⟩ H [(lo16, 3, List.map cU dS)] ∧ pY dU fB dS t39 t40 t41 = some r) ?_ ⟨s, ([] : List cD), dU, (lN dU), (0 : Int), lo30, .eq (by kernel_rfl), hO, h0⟩
      clear hO h0
      rintro T H ⟨fB, dS, t39, t40, t41, lo16, hT, hO, h0⟩
      refine bA hT ?_
      clear hT
      unfold pY at h0
      obtain ⟨rr0, hl0, h0⟩ := aX h0
      refine cZ (by kernel_rfl) (fun (s : List cD × Int) T H => ∃ lo16 : Nat, Has T [(6, (eL (eI) dU)), (11, (.fn (.func 39) [] [(.rp (eL bU fB))])), (12, (.msl 3 lo16 0 (List.length s.1))), (39, (eL (eI) t39)), (40, (eI t40)), (41, (eI s.2))] ∧ aJ ⟨H0, [], (lD12, .raw tI) :: []⟩ H [(lo16, 3, List.map cU s.1)]) hl0 ⟨lo16, .eq (by kernel_rfl), hO⟩ ?_
      clear hO
      rintro k0 s out1 T H ⟨lo16, hT, hO⟩ h1 ho0
      obtain ⟨dS, t41⟩ := s
      replace h1 : lI dU fB t39 t40 dS t41 = some out1 := h1
      try dsimp only at hT
      refine bA hT ?_
      clear hT
      unfold lI at h1
      refine aS aD 1 [] [(42, (aE (decide (t41 < t40))))] ?_
      refine aN ?_
      refine bM h1 (fun h1 => ?_) (fun h1 => ?_)
      · refine bL ?_
        refine bG [(6, (eL (eI) dU)), (11, (.fn (.func 39) [] [(.rp (eL bU fB))])), (12, (.msl 3 lo16 0 (List.length dS))), (39, (eL (eI) t39)), (40, (eI t40)), (41, (eI t41))] ?_
        refine eT (fun T H => ∃ dS : List cD, ∃ lo18 : Nat, Has T [(6, (eL (eI) dU)), (11, (.fn (.func 39) [] [(.rp (eL bU fB))])), (12, (.msl 3 lo18 0 (List.length dS))), (39, (eL (eI) t39)), (40, (eI t40)), (41, (eI t41))] ∧ aJ ⟨H0, [], (lD12, .raw tI) :: []⟩ H [(lo18, 3, List.map cU dS)] ∧ pN dU fB dS t39 t40 t41 = some out1) ?_ ?_
        · clear hO h1
          rintro T H ⟨dS, lo18, hT, hO, h1⟩
          refine bA hT ?_
          clear hT
          unfold pN at h1
          refine aU aD 2 ?_
          refine bE ?_
          exact aG (aF (⟨rfl, _, (oI h1).symm, _, .eq (by kernel_rfl), hO⟩))
        refine cE 3 ?_
        refine aN ?_
        refine aU aD 5 ?_
        obtain ⟨c19, h1⟩ := aV h1
        refine nL [0 ≤ t41 ∧ t41 < (lN t39)] ⟨c19, trivial⟩ ?_
        refine bY [] [(13, (eI t41)), (14, (eI (gD t39 t41)))] ?_
        refine aN ?_
        refine aU aD 4 ?_
        refine bX 2 ?_
        obtain ⟨x20, hx21, h1⟩ := aX h1
        refine fC (GC (gD t39 t41) fB _ hx21) hO ?_
        intro H hO
        refine bE ?_
        refine bY [] [(15, (eL bH x20))] ?_
        refine aN ?_
        refine aS aD 3 [] [(51, (aE (decide ((lN x20) = (0 : Int)))))] ?_
        refine bM h1 (fun h1 => ?_) (fun h1 => ?_)
        · refine gC 3 ?_
          exact aG (aT (bS (aF (⟨rfl, _, _, .eq (by kernel_rfl), hO, h1⟩))))
        refine bL ?_
        refine bG [(6, (eL (eI) dU)), (11, (.fn (.func 39) [] [(.rp (eL bU fB))])), (12, (.msl 3 lo16 0 (List.length dS))), (13, (eI t41)), (14, (eI (gD t39 t41))), (15, (eL bH x20)), (39, (eL (eI) t39)), (40, (eI t40)), (41, (eI t41))] ?_
        refine aN ?_
        refine aS aD 3 [] [(54, (aE (decide ((lN dS) = (1024 : Int)))))] ?_
        refine bM h1 (fun h1 => ?_) (fun h1 => ?_)
        · refine aN ?_
          refine aU aD 2 ?_
          refine bE ?_
          refine jA [(4, (.sl true 0 (fun _ => .bad))), (5, (eI (7 : Int)))] ?_
          replace hO := hO.pick (L' := []) [] (by decide) (by kernel_rfl)
          refine aG (aF (?_))
          refine bN ?_
          refine dG (l := [(4, (eL cU ([]))), (5, (eI (7 : Int)))]) ⟨[(4, (.sl true 0 (fun _ => .bad))), (5, (eI (7 : Int)))], by kernel_rfl, rfl, ⟨nQ, aM.refl _, trivial⟩⟩ ?_
          obtain rfl := oI h1
          obtain rfl : _ = rr0 := ho0
          replace h0 : some ([], (7 : Int)) = some r := h0
          obtain rfl := oI h0
          have hD := (hO.gm 0 _ rfl).2
          replace hO := (hO.uB .dead).sS
          exact aG (aQ (bO (aQ (aQ (bO (aQ (QM1 (.inr rfl) hD (rs := [.tmp 4, .tmp 5]) (xs := [(eL cU ([])), (eI (7 : Int))]) (x := (.tup [(eL cU ([])), (eI (7 : Int))])) (by kernel_rfl) (yK (x := (eL cU ([]))) (by kernel_rfl) (yK (x := (eI (7 : Int))) (by kernel_rfl) uH)) (by kernel_rfl) ⟨rfl, hO.out⟩)))))))
        refine bL ?_
        refine bG [(6, (eL (eI) dU)), (11, (.fn (.func 39) [] [(.rp (eL bU fB))])), (12, (.msl 3 lo16 0 (List.length dS))), (13, (eI t41)), (14, (eI (gD t39 t41))), (15, (eL bH x20)), (39, (eL (eI) t39)), (40, (eI t40)), (41, (eI t41))] ?_
        refine aS aD 1 [] [(16, (eI (1125899906842624 : Int)))] ?_
        refine eT (fun T H => ∃ dS : List cD, ∃ t14 : Int, ∃ oH : (List aY), ∃ tT : Int, ∃ lo25 : Nat, Has T [(6, (eL (eI) dU)), (11, (.fn (.func 39) [] [(.rp (eL bU fB))])), (12, (.msl 3 lo25 0 (List.length dS))), (14, (eI t14)), (15, (eL bH oH)), (16, (eI tT)), (39, (eL (eI) t39)), (40, (eI t40)), (41, (eI t41))] ∧ aJ ⟨H0, [], (lD12, .raw tI) :: []⟩ H [(lo25, 3, List.map cU dS)] ∧ qA dU fB dS t14 oH tT t39 t40 t41 = some out1) ?_ ?_
        · clear hO h1
          rintro T H ⟨dS, t14, oH, tT, lo25, hT, hO, h1⟩
          refine bA hT ?_
          clear hT
          unfold qA at h1
          refine aU aD 9 ?_
          refine bX 6 ?_
          refine mP (xs := [(cU (cD.mk (jI.mk t14 tT) oH))]) (k := 3) (by kernel_rfl) (by kernel_rfl) ?_
          obtain ⟨c27, h1⟩ := aV h1
          refine tO (e := cU) dS ([cD.mk (jI.mk t14 tT) oH]) 0 lo25 3 40 (kH [(cU (cD.mk (jI.mk t14 tT) oH))]) (fun lo26 => [(lo26, 3, List.map cU (dS ++ ([cD.mk (jI.mk t14 tT) oH])))]) (by kernel_rfl) (by kernel_rfl) hO (by kernel_rfl) (by kernel_rfl) c27 (fun _ => by kernel_rfl) ?_
          intro lo26 H hO
          refine bE ?_
          exact aG (aW (aF (⟨rfl, _, _, .eq (by kernel_rfl), hO, h1⟩)))
        refine aS aD 5 [] [(59, (aE (decide ((wR (t41 + (1 : Int))) < (lN dU)))))] ?_
        refine bM h1 (fun h1 => ?_) (fun h1 => ?_)
        · refine aU aD 6 ?_
          obtain ⟨c29, h1⟩ := aV h1
          refine nL [0 ≤ (wR (t41 + (1 : Int))) ∧ (wR (t41 + (1 : Int))) < (lN dU)] ⟨c29, trivial⟩ ?_
          exact aG (aF (⟨rfl, _, _, _, _, _, .eq (by kernel_rfl), hO, h1⟩))
        refine bL ?_
        exact aG (aF (⟨rfl, _, _, _, _, _, .eq (by kernel_rfl), hO, h1⟩))
      refine gC 2 ?_
      obtain rfl := oI h1
      obtain rfl : _ = rr0 := ho0
      replace h0 : tB dS = some r := h0
      exact aG (aT (aT (bS (aF (⟨rfl, _, _, .eq (by kernel_rfl), hO, h0⟩)))))
    · exact hi.elim

theorem wW  (r : Bool) (h0 : nD  = some r) : eB Try.prog 11 [] (aE r) := by
  intro H0
  refine dR Try.func11 ?_
  have hO := aJ.start H0
  unfold nD at h0
  refine cB aD 1 [] ?_
  refine aN ?_
  refine aU aD 3 ?_
  refine bX 1 ?_
  refine mP (xs := [(aC (aB.mk (1 : Int) (1 : Int) ByteArray.empty))]) (k := 3) (by kernel_rfl) (by kernel_rfl) ?_
  refine bE ?_
  refine dG (l := [(1, (eL aC ([aB.mk (1 : Int) (1 : Int) ByteArray.empty])))]) ⟨[(1, (kH [(aC (aB.mk (1 : Int) (1 : Int) ByteArray.empty))]))], by kernel_rfl, rfl, ⟨JQ (l := [aB.mk (1 : Int) (1 : Int) ByteArray.empty]), trivial⟩⟩ ?_
  refine aG (aF (?_))
  refine aN ?_
  refine aU aD 3 ?_
  refine bX 1 ?_
  refine mP (xs := [(aC (aB.mk (1 : Int) (2 : Int) ByteArray.empty))]) (k := 3) (by kernel_rfl) (by kernel_rfl) ?_
  refine bE ?_
  refine dG (l := [(1, (eL aC ([aB.mk (1 : Int) (1 : Int) ByteArray.empty]))), (2, (eL aC ([aB.mk (1 : Int) (2 : Int) ByteArray.empty])))]) ⟨[(1, (eL aC ([aB.mk (1 : Int) (1 : Int) ByteArray.empty]))), (2, (kH [(aC (aB.mk (1 : Int) (2 : Int) ByteArray.empty))]))], by kernel_rfl, rfl, ⟨aM.refl _, JQ (l := [aB.mk (1 : Int) (2 : Int) ByteArray.empty]), trivial⟩⟩ ?_
  refine aG (aF (?_))
  refine aN ?_
  refine aU aD 10 ?_
  refine bX 8 ?_
  refine mP (xs := [(aO (aL.mk ([aB.mk (1 : Int) (1 : Int) ByteArray.empty]) (2 : Int) (1 : Int))), (aO (aL.mk ([aB.mk (1 : Int) (1 : Int) ByteArray.empty]) (9 : Int) (-1 : Int))), (aO (aL.mk ([aB.mk (1 : Int) (2 : Int) ByteArray.empty]) (5 : Int) (1 : Int))), (aO (aL.mk ([aB.mk (1 : Int) (2 : Int) ByteArray.empty]) (7 : Int) (-1 : Int)))]) (k := 3) (by kernel_rfl) (by kernel_rfl) ?_
  refine bE ?_
  refine dG (l := [(3, (eL aO ([aL.mk ([aB.mk (1 : Int) (1 : Int) ByteArray.empty]) (2 : Int) (1 : Int), aL.mk ([aB.mk (1 : Int) (1 : Int) ByteArray.empty]) (9 : Int) (-1 : Int), aL.mk ([aB.mk (1 : Int) (2 : Int) ByteArray.empty]) (5 : Int) (1 : Int), aL.mk ([aB.mk (1 : Int) (2 : Int) ByteArray.empty]) (7 : Int) (-1 : Int)])))]) ⟨[(3, (kH [(aO (aL.mk ([aB.mk (1 : Int) (1 : Int) ByteArray.empty]) (2 : Int) (1 : Int))), (aO (aL.mk ([aB.mk (1 : Int) (1 : Int) ByteArray.empty]) (9 : Int) (-1 : Int))), (aO (aL.mk ([aB.mk (1 : Int) (2 : Int) ByteArray.empty]) (5 : Int) (1 : Int))), (aO (aL.mk ([aB.mk (1 : Int) (2 : Int) ByteArray.empty]) (7 : Int) (-1 : Int)))]))], by kernel_rfl, rfl, ⟨JQ (l := [aL.mk ([aB.mk (1 : Int) (1 : Int) ByteArray.empty]) (2 : Int) (1 : Int), aL.mk ([aB.mk (1 : Int) (1 : Int) ByteArray.empty]) (9 : Int) (-1 : Int), aL.mk ([aB.mk (1 : Int) (2 : Int) ByteArray.empty]) (5 : Int) (1 : Int), aL.mk ([aB.mk (1 : Int) (2 : Int) ByteArray.empty]) (7 : Int) (-1 : Int)]), trivial⟩⟩ ?_
  refine aG (aF (?_))
  refine aN ?_
  refine aU aD 7 ?_
  refine bX 1 ?_
  obtain ⟨x1, hx2, h0⟩ := aX h0
  refine fC (CL ([aL.mk ([aB.mk (1 : Int) (1 : Int) ByteArray.empty]) (2 : Int) (1 : Int), aL.mk ([aB.mk (1 : Int) (1 : Int) ByteArray.empty]) (9 : Int) (-1 : Int), aL.mk ([aB.mk (1 : Int) (2 : Int) ByteArray.empty]) (5 : Int) (1 : Int), aL.mk ([aB.mk (1 : Int) (2 : Int) ByteArray.empty]) (7 : Int) (-1 : Int)]) (0 : Int) _ hx2) hO ?_
  intro H hO
  refine bE ?_
  refine bY [] [(4, (eL (eI) x1.1)), (5, (eI x1.2))] ?_
  refine aN ?_
  refine aU aD 7 ?_
  refine bX 1 ?_
  obtain ⟨x4, hx5, h0⟩ := aX h0
  refine fC (BC ([aL.mk ([aB.mk (1 : Int) (1 : Int) ByteArray.empty]) (2 : Int) (1 : Int), aL.mk ([aB.mk (1 : Int) (1 : Int) ByteArray.empty]) (9 : Int) (-1 : Int), aL.mk ([aB.mk (1 : Int) (2 : Int) ByteArray.empty]) (5 : Int) (1 : Int), aL.mk ([aB.mk (1 : Int) (2 : Int) ByteArray.empty]) (7 : Int) (-1 : Int)]) (0 : Int) _ hx5) hO ?_
  intro H hO
  refine bE ?_
  refine bY [3] [(6, (eL cU x4.1)), (7, (eI x4.2))] ?_
  refine aN ?_
  refine aU aD 39 ?_
  obtain ⟨c7, h0⟩ := aV h0
  obtain ⟨c8, h0⟩ := aV h0
  obtain ⟨c9, h0⟩ := aV h0
  refine nL [(((((decide (x1.2 = (0 : Int))) && (decide (x4.2 = (0 : Int)))) && (decide ((lN x1.1) = (5 : Int))))) = true → 0 ≤ (2 : Int) ∧ (2 : Int) < (lN x1.1)), (((((((decide (x1.2 = (0 : Int))) && (decide (x4.2 = (0 : Int)))) && (decide ((lN x1.1) = (5 : Int)))) && (decide ((gD x1.1 (2 : Int)) = (5 : Int)))) && (decide ((lN x4.1) = (3 : Int))))) = true → 0 ≤ (1 : Int) ∧ (1 : Int) < (lN x4.1)), ((((((((decide (x1.2 = (0 : Int))) && (decide (x4.2 = (0 : Int)))) && (decide ((lN x1.1) = (5 : Int)))) && (decide ((gD x1.1 (2 : Int)) = (5 : Int)))) && (decide ((lN x4.1) = (3 : Int)))) && ((decide ((((gD x4.1 (1 : Int)).Span).From) = ((jI.mk (5 : Int) (7 : Int)).From))) && ((decide ((((gD x4.1 (1 : Int)).Span).To) = ((jI.mk (5 : Int) (7 : Int)).To))) && true)))) = true → 0 ≤ (1 : Int) ∧ (1 : Int) < (lN x4.1))] ⟨c7, c8, c9, trivial⟩ ?_
  refine bG [(0, (aE (((((((decide (x1.2 = (0 : Int))) && (decide (x4.2 = (0 : Int)))) && (decide ((lN x1.1) = (5 : Int)))) && (decide ((gD x1.1 (2 : Int)) = (5 : Int)))) && (decide ((lN x4.1) = (3 : Int)))) && ((decide ((((gD x4.1 (1 : Int)).Span).From) = ((jI.mk (5 : Int) (7 : Int)).From))) && ((decide ((((gD x4.1 (1 : Int)).Span).To) = ((jI.mk (5 : Int) (7 : Int)).To))) && true))) && (decide ((lN ((gD x4.1 (1 : Int)).Rows)) = (2 : Int))))))] ?_
  refine bN ?_
  obtain rfl := oI h0
  exact aG (Q_r hO)

theorem xZ (v0 : aB) (r : Bool) (h0 : oD v0 = some r) : eB Try.prog 89 [(aC v0)] (aE r) := by
  intro H0
  refine dR Try.func89 ?_
  have hO := aJ.start H0
  unfold oD at h0
  refine aN ?_
  refine aU aD 2 ?_
  refine nY 3 (aC v0) (by kernel_rfl) (by kernel_rfl) ?_
  refine bE ?_
  refine bG [(1, (.rp (aC v0)))] ?_
  refine aN ?_
  refine aS aD 3 [] [(5, (aE (decide (v0.Kind = (1 : Int)))))] ?_
  refine bM h0 (fun h0 => ?_) (fun h0 => ?_)
  · refine cB aD 4 [(2, (aE (lX v0.Text (⟨#[]⟩ : ByteArray))))] ?_
    refine bN ?_
    obtain rfl := oI h0
    exact aG (aQ (Q_r hO))
  refine bL ?_
  refine bG [(1, (.rp (aC v0)))] ?_
  refine cB aD 15 [(2, (aE (((decide (v0.Kind = (2 : Int))) && (decide (v0.Num = (0 : Int)))) && (decide (((ByteArray.size v0.Text : Nat) : Int) ≤ (64 : Int))))))] ?_
  refine bN ?_
  obtain rfl := oI h0
  exact aG (Q_r hO)

theorem CT (r0 : (List aB)) (r : Bool) (h0 : qK r0 = some r) : eB Try.prog 62 [(eL aC r0)] (aE r) := by
  intro H0
  refine dR Try.func62 ?_
  have hO := aJ.start H0
  unfold qK at h0
  refine aS aD 1 [] [] ?_
  refine eT (fun T H => Has T [(0, (eL aC r0))] ∧ aJ ⟨H0, [], []⟩ H [] ∧ oP r0 = some r) ?_ ?_
  · clear hO h0
    rintro T H ⟨hT, hO, h0⟩
    refine bA hT ?_
    clear hT
    unfold oP at h0
    refine cB aD 4 [(2, (aE (decide ((lN r0) ≤ (8 : Int)))))] ?_
    refine bN ?_
    obtain rfl := oI h0
    exact aG (Q_r hO)
  refine aS aD 1 [] [(3, (eI (0 : Int)))] ?_
  refine cE 0 ?_
  refine fT [(0, (eL aC r0)), (3, (eI (0 : Int)))] ?_
  refine eO (fun T H => ∃ i3 : Int, Has T [(0, (eL aC r0)), (3, (eI i3))] ∧ aJ ⟨H0, [], []⟩ H [] ∧ uM r0 i3 = some r) ?_ ⟨(0 : Int), .eq (by kernel_rfl), hO, h0⟩
  clear hO h0
  rintro T H ⟨i3, hT, hO, h0⟩
  refine bA hT ?_
  clear hT
  unfold uM at h0
  obtain ⟨rr0, hl0, h0⟩ := aX h0
  refine cZ (by kernel_rfl) (fun (s : Int) T H => Has T [(0, (eL aC r0)), (3, (eI s))] ∧ aJ ⟨H0, [], []⟩ H []) hl0 ⟨.eq (by kernel_rfl), hO⟩ ?_
  clear hO
  rintro k0 s out1 T H ⟨hT, hO⟩ h1 ho0
  obtain ⟨i3, rfl⟩ : ∃ x, x = s := ⟨_, rfl⟩
  replace h1 : mZ r0 i3 = some out1 := h1
  refine bA hT ?_
  clear hT
  unfold mZ at h1
  refine aN ?_
  refine aS aD 8 [] [(11, (aE ((decide (i3 < (lN r0))) && (decide (i3 < (9 : Int))))))] ?_
  refine bM h1 (fun h1 => ?_) (fun h1 => ?_)
  · refine bL ?_
    refine bG [(0, (eL aC r0)), (3, (eI i3))] ?_
    refine aN ?_
    refine cE 1 ?_
    refine aN ?_
    refine aU aD 6 ?_
    obtain ⟨c2, h1⟩ := aV h1
    refine tG 4 [0 ≤ i3 ∧ i3 < (lN r0)] ⟨c2, trivial⟩ ?_
    obtain ⟨x3, hx4, h1⟩ := aX h1
    refine fC (xZ (gD r0 i3) _ hx4) hO ?_
    intro H hO
    refine bE ?_
    refine bY [] [(19, (aE (!x3)))] ?_
    refine bM h1 (fun h1 => ?_) (fun h1 => ?_)
    · refine cB aD 1 [(2, (aE false))] ?_
      refine bN ?_
      obtain rfl := oI h1
      obtain rfl : _ = rr0 := ho0
      replace h0 : some false = some r := h0
      obtain rfl := oI h0
      exact aG (bO (aQ (aQ (bO (aQ (Q_r hO))))))
    refine bL ?_
    refine jA [(0, (eL aC r0)), (3, (eI i3))] ?_
    refine aG (aW (aF (?_)))
    refine aU aD 3 ?_
    refine bE ?_
    exact aG (aF (⟨rfl, _, (oI h1).symm, .eq (by kernel_rfl), hO⟩))
  refine gC 0 ?_
  obtain rfl := oI h1
  obtain rfl : _ = rr0 := ho0
  replace h0 : oP r0 = some r := h0
  exact aG (aT (aT (bS (aF (⟨rfl, .eq (by kernel_rfl), hO, h0⟩)))))

theorem FL (a0 : aB) (b1 : aB) (r : Int) (h0 : nX a0 b1 = some r) : eB Try.prog 90 [(aC a0), (aC b1)] (eI r) := by
  intro H0
  refine dR Try.func90 ?_
  have hO := aJ.start H0
  unfold nX at h0
  refine aN ?_
  refine aU aD 3 ?_
  refine nY 3 (aC a0) (by kernel_rfl) (by kernel_rfl) ?_
  refine nY 3 (aC b1) (by kernel_rfl) (by kernel_rfl) ?_
  refine bE ?_
  refine bG [(2, (.rp (aC a0))), (3, (.rp (aC b1)))] ?_
  refine aN ?_
  refine aN ?_
  refine aU aD 8 ?_
  refine bX 1 ?_
  obtain ⟨x1, hx2, h0⟩ := aX h0
  refine fC (xZ a0 _ hx2) hO ?_
  intro H hO
  refine bX 5 ?_
  obtain ⟨x4, hx5, h0⟩ := aX h0
  refine nN [(9, false)] 89 [(aC b1)] (aE x4) (!(!x1)) (by kernel_rfl) (by kernel_rfl) (by kernel_rfl) (fun hb6 => (xZ b1 _ (jR hx5 hb6))) hO ?_
  intro H hO
  refine bE ?_
  refine bY [] [(13, (aE ((!x1) || (!x4))))] ?_
  refine bM h0 (fun h0 => ?_) (fun h0 => ?_)
  · refine cB aD 1 [(4, (eI (0 : Int)))] ?_
    refine bN ?_
    obtain rfl := oI h0
    exact aG (aQ (Q_r hO))
  refine bL ?_
  refine bG [(2, (.rp (aC a0))), (3, (.rp (aC b1)))] ?_
  refine aN ?_
  refine aS aD 5 [] [(18, (aE (!decide (a0.Kind = b1.Kind))))] ?_
  refine bM h0 (fun h0 => ?_) (fun h0 => ?_)
  · refine aN ?_
    refine cB aD 3 [(21, (aE (decide (a0.Kind = (1 : Int)))))] ?_
    refine bM h0 (fun h0 => ?_) (fun h0 => ?_)
    · refine cB aD 1 [(4, (eI (-1 : Int)))] ?_
      refine bN ?_
      obtain rfl := oI h0
      exact aG (aQ (aQ (Q_r hO)))
    refine bL ?_
    refine bG [] ?_
    refine cB aD 1 [(4, (eI (1 : Int)))] ?_
    refine bN ?_
    obtain rfl := oI h0
    exact aG (aQ (Q_r hO))
  refine bL ?_
  refine bG [(2, (.rp (aC a0))), (3, (.rp (aC b1)))] ?_
  refine aN ?_
  refine aS aD 5 [] [(26, (aE (!decide (a0.Num = b1.Num))))] ?_
  refine bM h0 (fun h0 => ?_) (fun h0 => ?_)
  · refine aN ?_
    refine cB aD 5 [(31, (aE (decide (a0.Num < b1.Num))))] ?_
    refine bM h0 (fun h0 => ?_) (fun h0 => ?_)
    · refine cB aD 1 [(4, (eI (-1 : Int)))] ?_
      refine bN ?_
      obtain rfl := oI h0
      exact aG (aQ (aQ (Q_r hO)))
    refine bL ?_
    refine bG [] ?_
    refine cB aD 1 [(4, (eI (1 : Int)))] ?_
    refine bN ?_
    obtain rfl := oI h0
    exact aG (aQ (Q_r hO))
  refine bL ?_
  refine bG [(2, (.rp (aC a0))), (3, (.rp (aC b1)))] ?_
  refine eT (fun T H => ∃ a2 : aB, ∃ b3 : aB, Has T [(2, (.rp (aC a2))), (3, (.rp (aC b3)))] ∧ aJ ⟨H0, [], []⟩ H [] ∧ nF a2 b3 = some r) ?_ ?_
  · clear hO h0
    rintro T H ⟨a2, b3, hT, hO, h0⟩
    refine bA hT ?_
    clear hT
    unfold nF at h0
    refine aN ?_
    refine aS aD 7 [] [(70, (aE (!decide (((ByteArray.size a2.Text : Nat) : Int) = ((ByteArray.size b3.Text : Nat) : Int)))))] ?_
    refine bM h0 (fun h0 => ?_) (fun h0 => ?_)
    · refine aN ?_
      refine cB aD 7 [(77, (aE (decide (((ByteArray.size a2.Text : Nat) : Int) < ((ByteArray.size b3.Text : Nat) : Int)))))] ?_
      refine bM h0 (fun h0 => ?_) (fun h0 => ?_)
      · refine cB aD 1 [(4, (eI (-1 : Int)))] ?_
        refine bN ?_
        obtain rfl := oI h0
        exact aG (aQ (aQ (Q_r hO)))
      refine bL ?_
      refine bG [] ?_
      refine cB aD 1 [(4, (eI (1 : Int)))] ?_
      refine bN ?_
      obtain rfl := oI h0
      exact aG (aQ (Q_r hO))
    refine bL ?_
    refine bG [] ?_
    refine cB aD 1 [(4, (eI (0 : Int)))] ?_
    refine bN ?_
    obtain rfl := oI h0
    exact aG (Q_r hO)
  refine aS aD 1 [] [(5, (eI (0 : Int)))] ?_
  refine cE 0 ?_
  refine fT [(2, (.rp (aC a0))), (3, (.rp (aC b1))), (5, (eI (0 : Int)))] ?_
  refine eO (fun T H => ∃ a2 : aB, ∃ b3 : aB, ∃ i5 : Int, Has T [(2, (.rp (aC a2))), (3, (.rp (aC b3))), (5, (eI i5))] ∧ aJ ⟨H0, [], []⟩ H [] ∧ oY a2 b3 i5 = some r) ?_ ⟨a0, b1, (0 : Int), .eq (by kernel_rfl), hO, h0⟩
  clear hO h0
  rintro T H ⟨a2, b3, i5, hT, hO, h0⟩
  refine bA hT ?_
  clear hT
  unfold oY at h0
  obtain ⟨rr0, hl0, h0⟩ := aX h0
  refine cZ (by kernel_rfl) (fun (s : Int) T H => Has T [(2, (.rp (aC a2))), (3, (.rp (aC b3))), (5, (eI s))] ∧ aJ ⟨H0, [], []⟩ H []) hl0 ⟨.eq (by kernel_rfl), hO⟩ ?_
  clear hO
  rintro k0 s out1 T H ⟨hT, hO⟩ h1 ho0
  obtain ⟨i5, rfl⟩ : ∃ x, x = s := ⟨_, rfl⟩
  replace h1 : iA a2 b3 i5 = some out1 := h1
  refine bA hT ?_
  clear hT
  unfold iA at h1
  refine aN ?_
  refine aS aD 12 [] [(43, (aE ((decide (i5 < ((ByteArray.size a2.Text : Nat) : Int))) && (decide (i5 < ((ByteArray.size b3.Text : Nat) : Int))))))] ?_
  refine bM h1 (fun h1 => ?_) (fun h1 => ?_)
  · refine bL ?_
    refine bG [(2, (.rp (aC a2))), (3, (.rp (aC b3))), (5, (eI i5))] ?_
    refine aN ?_
    refine cE 1 ?_
    refine aN ?_
    refine fS (fR [47, 51]) aD 9 ?_
    obtain ⟨c15, h1⟩ := aV h1
    obtain ⟨c16, h1⟩ := aV h1
    refine BV (Ds := [0 ≤ i5 ∧ i5 < ((ByteArray.size a2.Text : Nat) : Int), 0 ≤ i5 ∧ i5 < ((ByteArray.size b3.Text : Nat) : Int)]) (by kernel_rfl) ⟨c15, c16, trivial⟩ ?_
    refine bY [] [(54, (aE (!decide ((bt a2.Text i5) = (bt b3.Text i5)))))] ?_
    refine bM h1 (fun h1 => ?_) (fun h1 => ?_)
    · refine aN ?_
      refine aN ?_
      refine fS (fR [56, 60]) aD 9 ?_
      obtain ⟨c18, h1⟩ := aV h1
      obtain ⟨c19, h1⟩ := aV h1
      refine BV (Ds := [0 ≤ i5 ∧ i5 < ((ByteArray.size a2.Text : Nat) : Int), 0 ≤ i5 ∧ i5 < ((ByteArray.size b3.Text : Nat) : Int)]) (by kernel_rfl) ⟨c18, c19, trivial⟩ ?_
      refine bG [(63, (aE (decide ((bt a2.Text i5) < (bt b3.Text i5)))))] ?_
      refine bM h1 (fun h1 => ?_) (fun h1 => ?_)
      · refine cB aD 1 [(4, (eI (-1 : Int)))] ?_
        refine bN ?_
        obtain rfl := oI h1
        obtain rfl : _ = rr0 := ho0
        replace h0 : some (-1 : Int) = some r := h0
        obtain rfl := oI h0
        exact aG (aQ (bO (aQ (aQ (bO (aQ (Q_r hO)))))))
      refine bL ?_
      refine bG [] ?_
      refine cB aD 1 [(4, (eI (1 : Int)))] ?_
      refine bN ?_
      obtain rfl := oI h1
      obtain rfl : _ = rr0 := ho0
      replace h0 : some (1 : Int) = some r := h0
      obtain rfl := oI h0
      exact aG (bO (aQ (aQ (bO (aQ (Q_r hO))))))
    refine bL ?_
    refine jA [(2, (.rp (aC a2))), (3, (.rp (aC b3))), (5, (eI i5))] ?_
    refine aG (aW (aF (?_)))
    refine aU aD 3 ?_
    refine bE ?_
    exact aG (aF (⟨rfl, _, (oI h1).symm, .eq (by kernel_rfl), hO⟩))
  refine gC 0 ?_
  obtain rfl := oI h1
  obtain rfl : _ = rr0 := ho0
  replace h0 : nF a2 b3 = some r := h0
  exact aG (aT (aT (bS (aF (⟨rfl, _, _, .eq (by kernel_rfl), hO, h0⟩)))))

theorem EP (a0 : (List aB)) (b1 : (List aB)) (r : Int) (h0 : nV a0 b1 = some r) : eB Try.prog 64 [(eL aC a0), (eL aC b1)] (eI r) := by
  intro H0
  refine dR Try.func64 ?_
  have hO := aJ.start H0
  unfold nV at h0
  refine aS aD 1 [] [] ?_
  refine aN ?_
  refine aN ?_
  refine aU aD 8 ?_
  refine bX 1 ?_
  obtain ⟨x1, hx2, h0⟩ := aX h0
  refine fC (CT a0 _ hx2) hO ?_
  intro H hO
  refine bX 5 ?_
  obtain ⟨x4, hx5, h0⟩ := aX h0
  refine nN [(10, false)] 62 [(eL aC b1)] (aE x4) (!(!x1)) (by kernel_rfl) (by kernel_rfl) (by kernel_rfl) (fun hb6 => (CT b1 _ (jR hx5 hb6))) hO ?_
  intro H hO
  refine bE ?_
  refine bY [] [(14, (aE ((!x1) || (!x4))))] ?_
  refine bM h0 (fun h0 => ?_) (fun h0 => ?_)
  · refine cB aD 1 [(4, (eI (0 : Int)))] ?_
    refine bN ?_
    obtain rfl := oI h0
    exact aG (aQ (Q_r hO))
  refine bL ?_
  refine bG [(0, (eL aC a0)), (1, (eL aC b1))] ?_
  refine eT (fun T H => Has T [(0, (eL aC a0)), (1, (eL aC b1))] ∧ aJ ⟨H0, [], []⟩ H [] ∧ nB a0 b1 = some r) ?_ ?_
  · clear hO h0
    rintro T H ⟨hT, hO, h0⟩
    refine bA hT ?_
    clear hT
    unfold nB at h0
    refine aN ?_
    refine aS aD 5 [] [(43, (aE (decide ((lN a0) < (lN b1)))))] ?_
    refine bM h0 (fun h0 => ?_) (fun h0 => ?_)
    · refine cB aD 1 [(4, (eI (-1 : Int)))] ?_
      refine bN ?_
      obtain rfl := oI h0
      exact aG (aQ (Q_r hO))
    refine bL ?_
    refine bG [(0, (eL aC a0)), (1, (eL aC b1))] ?_
    refine aN ?_
    refine cB aD 5 [(48, (aE (decide ((lN b1) < (lN a0)))))] ?_
    refine bM h0 (fun h0 => ?_) (fun h0 => ?_)
    · refine cB aD 1 [(4, (eI (1 : Int)))] ?_
      refine bN ?_
      obtain rfl := oI h0
      exact aG (aQ (Q_r hO))
    refine bL ?_
    refine bG [] ?_
    refine cB aD 1 [(4, (eI (0 : Int)))] ?_
    refine bN ?_
    obtain rfl := oI h0
    exact aG (Q_r hO)
  refine aS aD 1 [] [(5, (eI (0 : Int)))] ?_
  refine cE 0 ?_
  refine fT [(0, (eL aC a0)), (1, (eL aC b1)), (5, (eI (0 : Int)))] ?_
  refine eO (fun T H => ∃ i5 : Int, Has T [(0, (eL aC a0)), (1, (eL aC b1)), (5, (eI i5))] ∧ aJ ⟨H0, [], []⟩ H [] ∧ pF a0 b1 i5 = some r) ?_ ⟨(0 : Int), .eq (by kernel_rfl), hO, h0⟩
  clear hO h0
  rintro T H ⟨i5, hT, hO, h0⟩
  refine bA hT ?_
  clear hT
  unfold pF at h0
  obtain ⟨rr0, hl0, h0⟩ := aX h0
  refine cZ (by kernel_rfl) (fun (s : Int) T H => Has T [(0, (eL aC a0)), (1, (eL aC b1)), (5, (eI s))] ∧ aJ ⟨H0, [], []⟩ H []) hl0 ⟨.eq (by kernel_rfl), hO⟩ ?_
  clear hO
  rintro k0 s out1 T H ⟨hT, hO⟩ h1 ho0
  obtain ⟨i5, rfl⟩ : ∃ x, x = s := ⟨_, rfl⟩
  replace h1 : hU a0 b1 i5 = some out1 := h1
  refine bA hT ?_
  clear hT
  unfold hU at h1
  refine aN ?_
  refine aS aD 10 [] [(24, (aE ((decide (i5 < (lN a0))) && (decide (i5 < (lN b1))))))] ?_
  refine bM h1 (fun h1 => ?_) (fun h1 => ?_)
  · refine bL ?_
    refine bG [(0, (eL aC a0)), (1, (eL aC b1)), (5, (eI i5))] ?_
    refine aN ?_
    refine cE 1 ?_
    refine aN ?_
    refine fS (fR [30, 34, 35]) aD 10 ?_
    obtain ⟨c11, h1⟩ := aV h1
    obtain ⟨c12, h1⟩ := aV h1
    refine cF 8 [0 ≤ i5 ∧ i5 < (lN a0), 0 ≤ i5 ∧ i5 < (lN b1)] ⟨c11, c12, trivial⟩ ?_
    obtain ⟨x13, hx14, h1⟩ := aX h1
    refine DD (FL (gD a0 i5) (gD b1 i5) _ hx14) hO ?_
    intro H hO
    refine jZ ?_
    refine bY [] [(6, (eI x13))] ?_
    refine aS aD 2 [] [(37, (aE (!decide (x13 = (0 : Int)))))] ?_
    refine bM h1 (fun h1 => ?_) (fun h1 => ?_)
    · refine cB aD 2 [(4, (eI x13))] ?_
      refine bN ?_
      obtain rfl := oI h1
      obtain rfl : _ = rr0 := ho0
      replace h0 : some x13 = some r := h0
      obtain rfl := oI h0
      exact aG (bO (aQ (aQ (bO (aQ (Q_r hO))))))
    refine bL ?_
    refine jA [(0, (eL aC a0)), (1, (eL aC b1)), (5, (eI i5))] ?_
    refine aG (aW (aF (?_)))
    refine aU aD 3 ?_
    refine bE ?_
    exact aG (aF (⟨rfl, _, (oI h1).symm, .eq (by kernel_rfl), hO⟩))
  refine gC 0 ?_
  obtain rfl := oI h1
  obtain rfl : _ = rr0 := ho0
  replace h0 : nB a0 b1 = some r := h0
  exact aG (aT (aT (bS (aF (⟨rfl, .eq (by kernel_rfl), hO, h0⟩)))))

theorem wU (a0 : (List aB)) (b1 : (List aB)) (r : Bool) (h0 : nE a0 b1 = some r) : eB Try.prog 42 [(eL aC a0), (eL aC b1)] (aE r) := by
  intro H0
  refine dR Try.func42 ?_
  have hO := aJ.start H0
  unfold nE at h0
  refine aS aD 1 [] [] ?_
  refine aN ?_
  refine aS aD 5 [] [(10, (aE (!decide ((lN a0) = (lN b1)))))] ?_
  refine bM h0 (fun h0 => ?_) (fun h0 => ?_)
  · refine cB aD 1 [(4, (aE false))] ?_
    refine bN ?_
    obtain rfl := oI h0
    exact aG (aQ (Q_r hO))
  refine bL ?_
  refine bG [(0, (eL aC a0)), (1, (eL aC b1))] ?_
  refine eT (fun T H => Has T [] ∧ aJ ⟨H0, [], []⟩ H [] ∧ pP  = some r) ?_ ?_
  · clear hO h0
    rintro T H ⟨hT, hO, h0⟩
    refine bA hT ?_
    clear hT
    unfold pP at h0
    refine cB aD 1 [(4, (aE true))] ?_
    refine bN ?_
    obtain rfl := oI h0
    exact aG (Q_r hO)
  refine aS aD 1 [] [(5, (eI (0 : Int)))] ?_
  refine cE 0 ?_
  refine fT [(0, (eL aC a0)), (1, (eL aC b1)), (5, (eI (0 : Int)))] ?_
  refine eO (fun T H => ∃ i5 : Int, Has T [(0, (eL aC a0)), (1, (eL aC b1)), (5, (eI i5))] ∧ aJ ⟨H0, [], []⟩ H [] ∧ sU a0 b1 i5 = some r) ?_ ⟨(0 : Int), .eq (by kernel_rfl), hO, h0⟩
  clear hO h0
  rintro T H ⟨i5, hT, hO, h0⟩
  refine bA hT ?_
  clear hT
  unfold sU at h0
  obtain ⟨rr0, hl0, h0⟩ := aX h0
  refine cZ (by kernel_rfl) (fun (s : Int) T H => Has T [(0, (eL aC a0)), (1, (eL aC b1)), (5, (eI s))] ∧ aJ ⟨H0, [], []⟩ H []) hl0 ⟨.eq (by kernel_rfl), hO⟩ ?_
  clear hO
  rintro k0 s out1 T H ⟨hT, hO⟩ h1 ho0
  obtain ⟨i5, rfl⟩ : ∃ x, x = s := ⟨_, rfl⟩
  replace h1 : nS a0 b1 i5 = some out1 := h1
  refine bA hT ?_
  clear hT
  unfold nS at h1
  refine aN ?_
  refine aS aD 4 [] [(14, (aE (decide (i5 < (lN a0)))))] ?_
  refine bM h1 (fun h1 => ?_) (fun h1 => ?_)
  · refine bL ?_
    refine bG [(0, (eL aC a0)), (1, (eL aC b1)), (5, (eI i5))] ?_
    refine aN ?_
    refine cE 1 ?_
    refine aN ?_
    refine fS (fR [20, 24]) aD 9 ?_
    obtain ⟨c3, h1⟩ := aV h1
    obtain ⟨c4, h1⟩ := aV h1
    refine BV (Ds := [0 ≤ i5 ∧ i5 < (lN a0), 0 ≤ i5 ∧ i5 < (lN b1)]) (by kernel_rfl) ⟨c3, c4, trivial⟩ ?_
    refine bY [] [(25, (aE (!((decide (((gD a0 i5).Kind) = ((gD b1 i5).Kind))) && ((decide (((gD a0 i5).Num) = ((gD b1 i5).Num))) && ((lX ((gD a0 i5).Text) ((gD b1 i5).Text)) && true))))))] ?_
    refine bM h1 (fun h1 => ?_) (fun h1 => ?_)
    · refine cB aD 1 [(4, (aE false))] ?_
      refine bN ?_
      obtain rfl := oI h1
      obtain rfl : _ = rr0 := ho0
      replace h0 : some false = some r := h0
      obtain rfl := oI h0
      exact aG (bO (aQ (aQ (bO (aQ (Q_r hO))))))
    refine bL ?_
    refine jA [(0, (eL aC a0)), (1, (eL aC b1)), (5, (eI i5))] ?_
    refine aG (aW (aF (?_)))
    refine aU aD 3 ?_
    refine bE ?_
    exact aG (aF (⟨rfl, _, (oI h1).symm, .eq (by kernel_rfl), hO⟩))
  refine gC 0 ?_
  obtain rfl := oI h1
  obtain rfl : _ = rr0 := ho0
  replace h0 : pP  = some r := h0
  exact aG (aT (aT (bS (aF (⟨rfl, .eq (by kernel_rfl), hO, h0⟩)))))

theorem KP (l0 : (List aL)) (r : (List (List aB))) (h0 : qZ l0 = some r) : eB Try.prog 43 [(eL aO l0)] (eL (eL aC) r) := by
  intro H0
  refine dR Try.func43 ?_
  have hO := aJ.start H0
  unfold qZ at h0
  refine aS aD 1 [] [] ?_
  refine aN ?_
  refine aU aD 2 ?_
  refine mP (xs := []) (k := 1) (by kernel_rfl) (by kernel_rfl) ?_
  refine bE ?_
  refine bY [] [(3, (.sl true 0 (fun _ => .bad)))] ?_
  refine eT (fun T H => ∃ bF : List (List aB), ∃ lo1 : Nat, Has T [(3, (.msl 1 lo1 0 (List.length bF)))] ∧ aJ ⟨H0, [], []⟩ H [(lo1, 1, List.map (eL aC) bF)] ∧ tC bF = some r) ?_ ?_
  · clear hO h0
    rintro T H ⟨bF, lo1, hT, hO, h0⟩
    refine bA hT ?_
    clear hT
    unfold tC at h0
    refine cB aD 2 [(2, (.msl 1 lo1 0 (List.length bF)))] ?_
    refine bN ?_
    refine jA [(2, (.msl 1 lo1 0 (List.length bF)))] ?_
    refine rO (en := (eL aC)) bF 0 0 2 1 lo1 (List.length bF) hO (by kernel_rfl) (by kernel_rfl) (by kernel_rfl) (L' := []) (by kernel_rfl) ?_
    intro H2 hO
    obtain rfl := oI h0
    exact aG (Q_r hO)
  refine aS aD 1 [] [(4, (eI (0 : Int)))] ?_
  refine cE 0 ?_
  refine fT [(0, (eL aO l0)), (3, (.sl true 0 (fun _ => .bad))), (4, (eI (0 : Int)))] ?_
  refine yJ (el := (fun _ => .bad)) 1 3 1 hO (by kernel_rfl) ?_
  intro lo31 H32 hO
  refine eO (fun T H => ∃ bF : List (List aB), ∃ i4 : Int, ∃ lo4 : Nat, Has T [(0, (eL aO l0)), (3, (.msl 1 lo4 0 (List.length bF))), (4, (eI i4))] ∧ aJ ⟨H0, [], []⟩ H [(lo4, 1, List.map (eL aC) bF)] ∧ sZ l0 bF i4 = some r) ?_ ⟨([] : List (List aB)), (0 : Int), lo31, .eq (by kernel_rfl), hO, h0⟩
  clear hO h0
  rintro T H ⟨bF, i4, lo4, hT, hO, h0⟩
  refine bA hT ?_
  clear hT
  unfold sZ at h0
  obtain ⟨rr0, hl0, h0⟩ := aX h0
  refine cZ (by kernel_rfl) (fun (s : List (List aB) × Int) T H => ∃ lo4 : Nat, Has T [(0, (eL aO l0)), (3, (.msl 1 lo4 0 (List.length s.1))), (4, (eI s.2))] ∧ aJ ⟨H0, [], []⟩ H [(lo4, 1, List.map (eL aC) s.1)]) hl0 ⟨lo4, .eq (by kernel_rfl), hO⟩ ?_
  clear hO
  rintro k0 s out1 T H ⟨lo4, hT, hO⟩ h1 ho0
  obtain ⟨bF, i4⟩ := s
  replace h1 : lK l0 bF i4 = some out1 := h1
  try dsimp only at hT
  refine bA hT ?_
  clear hT
  unfold lK at h1
  refine aN ?_
  refine aS aD 4 [] [(11, (aE (decide (i4 < (lN l0)))))] ?_
  refine bM h1 (fun h1 => ?_) (fun h1 => ?_)
  · refine bL ?_
    refine bG [(0, (eL aO l0)), (3, (.msl 1 lo4 0 (List.length bF))), (4, (eI i4))] ?_
    refine eT (fun T H => ∃ bF : List (List aB), ∃ lo6 : Nat, Has T [(0, (eL aO l0)), (3, (.msl 1 lo6 0 (List.length bF))), (4, (eI i4))] ∧ aJ ⟨H0, [], []⟩ H [(lo6, 1, List.map (eL aC) bF)] ∧ pS l0 bF i4 = some out1) ?_ ?_
    · clear hO h1
      rintro T H ⟨bF, lo6, hT, hO, h1⟩
      refine bA hT ?_
      clear hT
      unfold pS at h1
      refine aU aD 3 ?_
      refine bE ?_
      exact aG (aF (⟨rfl, _, (oI h1).symm, _, .eq (by kernel_rfl), hO⟩))
    refine cE 1 ?_
    refine aS aD 1 [] [(5, (eI (0 : Int)))] ?_
    refine eT (fun T H => ∃ bF : List (List aB), ∃ at5 : Int, ∃ lo7 : Nat, Has T [(0, (eL aO l0)), (3, (.msl 1 lo7 0 (List.length bF))), (4, (eI i4)), (5, (eI at5))] ∧ aJ ⟨H0, [], []⟩ H [(lo7, 1, List.map (eL aC) bF)] ∧ pQ l0 bF i4 at5 = some out1) ?_ ?_
    · clear hO h1
      rintro T H ⟨bF, at5, lo7, hT, hO, h1⟩
      refine bA hT ?_
      clear hT
      unfold pQ at h1
      refine aN ?_
      refine aN ?_
      obtain ⟨c8, h1⟩ := aV h1
      obtain ⟨c9, h1⟩ := aV h1
      obtain ⟨x10, hx11, h1⟩ := aX h1
      refine fS (fR [46]) aD 16 ?_
      refine nT (K := fun T H => Has (lift T) [(0, (eL aO l0)), (3, (.msl 1 lo7 0 (List.length bF))), (4, (eI i4)), (5, (eI at5)), (48, (aE ((decide (at5 < (lN bF))) && x10)))] ∧ aJ ⟨H0, [], []⟩ H [(lo7, 1, List.map (eL aC) bF)]) ?_ ?_
      · refine oR 5 ?_
        refine mW (t := 37) (e := decide (at5 < (lN bF))) (by kernel_rfl) (fun hg12 => ?_) (fun hg12 => ?_)
        · refine cF 8 [0 ≤ at5 ∧ at5 < (lN bF)] ⟨(c8 hg12), trivial⟩ ?_
          refine iW 0 lo7 1 (0 + Int.toNat at5) (eL aC (gD bF at5)) (eL aC (gD bF at5)) (List.map (eL aC) bF) (by kernel_rfl) (by kernel_rfl) (by kernel_rfl) hO (by kernel_rfl) (bW (c8 hg12)) ?_
          refine cF 14 [0 ≤ i4 ∧ i4 < (lN l0)] ⟨(c9 hg12), trivial⟩ ?_
          refine mX 42 [(eL aC (gD bF at5)), (eL aC ((gD l0 i4).Row))] (aE x10) (by kernel_rfl) (by kernel_rfl) (wU (gD bF at5) ((gD l0 i4).Row) _ (jR hx11 hg12)) hO ?_
          intro H hO
          refine jZ ?_
          exact ⟨⟨[(0, (eL aO l0)), (3, (.msl 1 lo7 0 (List.length bF))), (4, (eI i4)), (5, (eI at5)), (48, (aE x10))], by kernel_rfl, rfl, ⟨aM.refl _, aM.refl _, aM.refl _, aM.refl _, aM.eq (congrArg aE (kW hg12 rfl).symm), trivial⟩⟩, hO⟩
        refine jZ ?_
        exact ⟨⟨[(0, (eL aO l0)), (3, (.msl 1 lo7 0 (List.length bF))), (4, (eI i4)), (5, (eI at5)), (48, (aE false))], by kernel_rfl, rfl, ⟨aM.refl _, aM.refl _, aM.refl _, aM.refl _, aM.eq (congrArg aE (kW hg12 rfl).symm), trivial⟩⟩, hO⟩
      · rintro T H ⟨hT, hO⟩
        refine dG hT ?_
        clear hT
        refine aG (aF ?_)
        refine bM h1 (fun h1 => ?_) (fun h1 => ?_)
        · refine gC 1 ?_
          exact aG (aT (bS (aF (⟨rfl, _, _, .eq (by kernel_rfl), hO, h1⟩))))
        refine bL ?_
        refine bG [(0, (eL aO l0)), (3, (.msl 1 lo7 0 (List.length bF))), (4, (eI i4)), (5, (eI at5))] ?_
        refine aN ?_
        refine aU aD 6 ?_
        refine mP (xs := []) (k := 1) (by kernel_rfl) (by kernel_rfl) ?_
        obtain ⟨c14, h1⟩ := aV h1
        refine tG 4 [0 ≤ at5 ∧ at5 ≤ (lN bF)] ⟨c14, trivial⟩ ?_
        obtain ⟨c16, h1⟩ := aV h1
        refine NV (e := (eL aC)) (List.take (Int.toNat at5) bF) (fun _ => .bad) 1 24 (.msl 1 lo7 0 (Int.toNat at5)) (fun lo15 => [(lo7, 1, List.map (eL aC) bF), (lo15, 1, List.map (eL aC) (List.take (Int.toNat at5) bF))]) (by kernel_rfl) (by kernel_rfl) hO (JV hO 0 (by kernel_rfl) (Int.toNat_le.2 (And.right c14))) c16 (fun _ => by kernel_rfl) ?_
        intro lo15 H hO
        refine bE ?_
        refine bY [] [(6, (.msl 1 lo15 0 (List.length (List.take (Int.toNat at5) bF))))] ?_
        refine aN ?_
        refine aU aD 9 ?_
        obtain ⟨c17, h1⟩ := aV h1
        refine tG 6 [0 ≤ i4 ∧ i4 < (lN l0)] ⟨c17, trivial⟩ ?_
        refine mP (xs := [(eL aC ((gD l0 i4).Row))]) (k := 1) (by kernel_rfl) (by kernel_rfl) ?_
        obtain ⟨c19, h1⟩ := aV h1
        refine tO (e := (eL aC)) (List.take (Int.toNat at5) bF) ([(gD l0 i4).Row]) 1 lo15 1 24 (kH [(eL aC ((gD l0 i4).Row))]) (fun lo18 => [(lo7, 1, List.map (eL aC) bF), (lo18, 1, List.map (eL aC) ((List.take (Int.toNat at5) bF) ++ ([(gD l0 i4).Row])))]) (by kernel_rfl) (by kernel_rfl) hO (by kernel_rfl) (by kernel_rfl) c19 (fun _ => by kernel_rfl) ?_
        intro lo18 H hO
        refine bE ?_
        refine bY [6] [(6, (.msl 1 lo18 0 (List.length ((List.take (Int.toNat at5) bF) ++ ([(gD l0 i4).Row])))))] ?_
        refine aU aD 6 ?_
        obtain ⟨c20, h1⟩ := aV h1
        refine tG 4 [0 ≤ at5 ∧ at5 ≤ (lN bF)] ⟨c20, trivial⟩ ?_
        obtain ⟨c22, h1⟩ := aV h1
        refine tO (e := (eL aC)) ((List.take (Int.toNat at5) bF) ++ ([(gD l0 i4).Row])) (List.drop (Int.toNat at5) bF) 1 lo18 1 24 (.msl 1 lo7 (0 + Int.toNat at5) (List.length bF - Int.toNat at5)) (fun lo21 => [(lo7, 1, List.map (eL aC) bF), (lo21, 1, List.map (eL aC) (((List.take (Int.toNat at5) bF) ++ ([(gD l0 i4).Row])) ++ (List.drop (Int.toNat at5) bF)))]) (by kernel_rfl) (by kernel_rfl) hO (by kernel_rfl) (LF hO 0 (by kernel_rfl) rfl (Int.toNat_le.2 (And.right c20))) c22 (fun _ => by kernel_rfl) ?_
        intro lo21 H hO
        refine bE ?_
        replace hO := hO.pick (L' := [(lo21, 1, List.map (eL aC) (((List.take (Int.toNat at5) bF) ++ ([(gD l0 i4).Row])) ++ (List.drop (Int.toNat at5) bF)))]) [1] (by decide) (by kernel_rfl)
        exact aG (aW (aF (⟨rfl, _, _, .eq (by kernel_rfl), hO, h1⟩)))
    refine cE 2 ?_
    refine fT [(0, (eL aO l0)), (3, (.msl 1 lo4 0 (List.length bF))), (4, (eI i4)), (5, (eI (0 : Int)))] ?_
    refine eO (fun T H => ∃ bF : List (List aB), ∃ at5 : Int, ∃ lo24 : Nat, Has T [(0, (eL aO l0)), (3, (.msl 1 lo24 0 (List.length bF))), (4, (eI i4)), (5, (eI at5))] ∧ aJ ⟨H0, [], []⟩ H [(lo24, 1, List.map (eL aC) bF)] ∧ sV l0 bF i4 at5 = some out1) ?_ ⟨bF, (0 : Int), lo4, .eq (by kernel_rfl), hO, h1⟩
    clear hO h1
    rintro T H ⟨bF, at5, lo24, hT, hO, h1⟩
    refine bA hT ?_
    clear hT
    unfold sV at h1
    obtain ⟨rr1, hl1, h1⟩ := aX h1
    refine cZ (by kernel_rfl) (fun (s : List (List aB) × Int) T H => ∃ lo24 : Nat, Has T [(0, (eL aO l0)), (3, (.msl 1 lo24 0 (List.length s.1))), (4, (eI i4)), (5, (eI s.2))] ∧ aJ ⟨H0, [], []⟩ H [(lo24, 1, List.map (eL aC) s.1)]) hl1 ⟨lo24, .eq (by kernel_rfl), hO⟩ ?_
    clear hO
    rintro k1 s out2 T H ⟨lo24, hT, hO⟩ h2 ho1
    obtain ⟨bF, at5⟩ := s
    replace h2 : kQ l0 i4 bF at5 = some out2 := h2
    try dsimp only at hT
    refine bA hT ?_
    clear hT
    unfold kQ at h2
    refine aN ?_
    refine aN ?_
    obtain ⟨c25, h2⟩ := aV h2
    obtain ⟨c26, h2⟩ := aV h2
    obtain ⟨x27, hx28, h2⟩ := aX h2
    refine fS (fR [27]) aD 17 ?_
    refine nT (K := fun T H => Has (lift T) [(0, (eL aO l0)), (3, (.msl 1 lo24 0 (List.length bF))), (4, (eI i4)), (5, (eI at5)), (30, (aE ((decide (at5 < (lN bF))) && (decide (x27 < (0 : Int))))))] ∧ aJ ⟨H0, [], []⟩ H [(lo24, 1, List.map (eL aC) bF)]) ?_ ?_
    · refine oR 5 ?_
      refine mW (t := 18) (e := decide (at5 < (lN bF))) (by kernel_rfl) (fun hg29 => ?_) (fun hg29 => ?_)
      · refine cF 8 [0 ≤ at5 ∧ at5 < (lN bF)] ⟨(c25 hg29), trivial⟩ ?_
        refine iW 0 lo24 1 (0 + Int.toNat at5) (eL aC (gD bF at5)) (eL aC (gD bF at5)) (List.map (eL aC) bF) (by kernel_rfl) (by kernel_rfl) (by kernel_rfl) hO (by kernel_rfl) (bW (c25 hg29)) ?_
        refine cF 14 [0 ≤ i4 ∧ i4 < (lN l0)] ⟨(c26 hg29), trivial⟩ ?_
        refine mX 64 [(eL aC (gD bF at5)), (eL aC ((gD l0 i4).Row))] (eI x27) (by kernel_rfl) (by kernel_rfl) (EP (gD bF at5) ((gD l0 i4).Row) _ (jR hx28 hg29)) hO ?_
        intro H hO
        refine jZ ?_
        exact ⟨⟨[(0, (eL aO l0)), (3, (.msl 1 lo24 0 (List.length bF))), (4, (eI i4)), (5, (eI at5)), (30, (aE (decide (x27 < (0 : Int)))))], by kernel_rfl, rfl, ⟨aM.refl _, aM.refl _, aM.refl _, aM.refl _, aM.eq (congrArg aE (kW hg29 rfl).symm), trivial⟩⟩, hO⟩
      refine jZ ?_
      exact ⟨⟨[(0, (eL aO l0)), (3, (.msl 1 lo24 0 (List.length bF))), (4, (eI i4)), (5, (eI at5)), (30, (aE false))], by kernel_rfl, rfl, ⟨aM.refl _, aM.refl _, aM.refl _, aM.refl _, aM.eq (congrArg aE (kW hg29 rfl).symm), trivial⟩⟩, hO⟩
    · rintro T H ⟨hT, hO⟩
      refine dG hT ?_
      clear hT
      refine aG (aF ?_)
      refine bM h2 (fun h2 => ?_) (fun h2 => ?_)
      · refine bL ?_
        refine bG [(0, (eL aO l0)), (3, (.msl 1 lo24 0 (List.length bF))), (4, (eI i4)), (5, (eI at5))] ?_
        refine cE 3 ?_
        refine aU aD 3 ?_
        refine bE ?_
        exact aG (aW (aF (⟨rfl, _, (oI h2).symm, _, .eq (by kernel_rfl), hO⟩)))
      refine gC 2 ?_
      obtain rfl := oI h2
      obtain rfl : _ = rr1 := ho1
      replace h1 : pQ l0 bF i4 at5 = some out1 := h1
      exact aG (aT (aT (bS (aF (⟨rfl, _, _, _, .eq (by kernel_rfl), hO, h1⟩)))))
  refine gC 0 ?_
  obtain rfl := oI h1
  obtain rfl : _ = rr0 := ho0
  replace h0 : tC bF = some r := h0
  exact aG (aT (aT (bS (aF (⟨rfl, _, _, .eq (by kernel_rfl), hO, h0⟩)))))

theorem IF (l0 : (List aL)) (r1 : (List aB)) (r : (List aI)) (h0 : pT l0 r1 = some r) : eB Try.prog 45 [(eL aO l0), (eL aC r1)] (eL aR r) := by
  intro H0
  refine dR Try.func45 ?_
  have hO := aJ.start H0
  unfold pT at h0
  refine aS aD 1 [] [] ?_
  refine aN ?_
  refine aU aD 2 ?_
  refine mP (xs := []) (k := 2) (by kernel_rfl) (by kernel_rfl) ?_
  refine bE ?_
  refine bY [] [(5, (.sl true 0 (fun _ => .bad)))] ?_
  refine eT (fun T H => ∃ f5 : List aI, ∃ lo1 : Nat, Has T [(5, (.msl 2 lo1 0 (List.length f5)))] ∧ aJ ⟨H0, [], []⟩ H [(lo1, 2, List.map aR f5)] ∧ rR f5 = some r) ?_ ?_
  · clear hO h0
    rintro T H ⟨f5, lo1, hT, hO, h0⟩
    refine bA hT ?_
    clear hT
    unfold rR at h0
    refine cB aD 2 [(4, (.msl 2 lo1 0 (List.length f5)))] ?_
    refine bN ?_
    refine jA [(4, (.msl 2 lo1 0 (List.length f5)))] ?_
    refine rO (en := aR) f5 0 0 4 2 lo1 (List.length f5) hO (by kernel_rfl) (by kernel_rfl) (by kernel_rfl) (L' := []) (by kernel_rfl) ?_
    intro H2 hO
    obtain rfl := oI h0
    exact aG (Q_r hO)
  refine aS aD 1 [] [(6, (eI (0 : Int)))] ?_
  refine cE 0 ?_
  refine fT [(0, (eL aO l0)), (1, (eL aC r1)), (5, (.sl true 0 (fun _ => .bad))), (6, (eI (0 : Int)))] ?_
  refine yJ (el := (fun _ => .bad)) 2 5 2 hO (by kernel_rfl) ?_
  intro lo16 H17 hO
  refine eO (fun T H => ∃ f5 : List aI, ∃ i6 : Int, ∃ lo4 : Nat, Has T [(0, (eL aO l0)), (1, (eL aC r1)), (5, (.msl 2 lo4 0 (List.length f5))), (6, (eI i6))] ∧ aJ ⟨H0, [], []⟩ H [(lo4, 2, List.map aR f5)] ∧ rT l0 r1 f5 i6 = some r) ?_ ⟨([] : List aI), (0 : Int), lo16, .eq (by kernel_rfl), hO, h0⟩
  clear hO h0
  rintro T H ⟨f5, i6, lo4, hT, hO, h0⟩
  refine bA hT ?_
  clear hT
  unfold rT at h0
  obtain ⟨rr0, hl0, h0⟩ := aX h0
  refine cZ (by kernel_rfl) (fun (s : List aI × Int) T H => ∃ lo4 : Nat, Has T [(0, (eL aO l0)), (1, (eL aC r1)), (5, (.msl 2 lo4 0 (List.length s.1))), (6, (eI s.2))] ∧ aJ ⟨H0, [], []⟩ H [(lo4, 2, List.map aR s.1)]) hl0 ⟨lo4, .eq (by kernel_rfl), hO⟩ ?_
  clear hO
  rintro k0 s out1 T H ⟨lo4, hT, hO⟩ h1 ho0
  obtain ⟨f5, i6⟩ := s
  replace h1 : kT l0 r1 f5 i6 = some out1 := h1
  try dsimp only at hT
  refine bA hT ?_
  clear hT
  unfold kT at h1
  refine aN ?_
  refine aS aD 4 [] [(11, (aE (decide (i6 < (lN l0)))))] ?_
  refine bM h1 (fun h1 => ?_) (fun h1 => ?_)
  · refine bL ?_
    refine bG [(0, (eL aO l0)), (1, (eL aC r1)), (5, (.msl 2 lo4 0 (List.length f5))), (6, (eI i6))] ?_
    refine eT (fun T H => ∃ f5 : List aI, ∃ lo6 : Nat, Has T [(0, (eL aO l0)), (1, (eL aC r1)), (5, (.msl 2 lo6 0 (List.length f5))), (6, (eI i6))] ∧ aJ ⟨H0, [], []⟩ H [(lo6, 2, List.map aR f5)] ∧ oV l0 r1 f5 i6 = some out1) ?_ ?_
    · clear hO h1
      rintro T H ⟨f5, lo6, hT, hO, h1⟩
      refine bA hT ?_
      clear hT
      unfold oV at h1
      refine aU aD 3 ?_
      refine bE ?_
      exact aG (aF (⟨rfl, _, (oI h1).symm, _, .eq (by kernel_rfl), hO⟩))
    refine cE 1 ?_
    refine aN ?_
    refine aU aD 7 ?_
    obtain ⟨c7, h1⟩ := aV h1
    refine tG 6 [0 ≤ i6 ∧ i6 < (lN l0)] ⟨c7, trivial⟩ ?_
    obtain ⟨x8, hx9, h1⟩ := aX h1
    refine fC (wU ((gD l0 i6).Row) r1 _ hx9) hO ?_
    intro H hO
    refine iP ?_
    refine bY [] [(20, (aE x8))] ?_
    refine bM h1 (fun h1 => ?_) (fun h1 => ?_)
    · refine fS (fR [26, 31, 33]) aD 15 ?_
      obtain ⟨c12, h1⟩ := aV h1
      obtain ⟨c13, h1⟩ := aV h1
      refine cF 12 [0 ≤ i6 ∧ i6 < (lN l0), 0 ≤ i6 ∧ i6 < (lN l0)] ⟨c12, c13, trivial⟩ ?_
      refine VY (xs := [(aR (aI.mk ((gD l0 i6).At) ((gD l0 i6).Net)))]) (k := 2) (by kernel_rfl) (by kernel_rfl) ?_
      obtain ⟨c15, h1⟩ := aV h1
      refine NI (e := aR) f5 ([aI.mk ((gD l0 i6).At) ((gD l0 i6).Net)]) 0 lo4 2 16 (kH [(aR (aI.mk ((gD l0 i6).At) ((gD l0 i6).Net)))]) (fun lo14 => [(lo14, 2, List.map aR (f5 ++ ([aI.mk ((gD l0 i6).At) ((gD l0 i6).Net)])))]) (by kernel_rfl) (by kernel_rfl) hO (by kernel_rfl) (by kernel_rfl) c15 (fun _ => by kernel_rfl) ?_
      intro lo14 H hO
      refine jZ ?_
      exact aG (aW (aF (⟨rfl, _, _, .eq (by kernel_rfl), hO, h1⟩)))
    refine bL ?_
    exact aG (aW (aF (⟨rfl, _, _, .eq (by kernel_rfl), hO, h1⟩)))
  refine gC 0 ?_
  obtain rfl := oI h1
  obtain rfl : _ = rr0 := ho0
  replace h0 : rR f5 = some r := h0
  exact aG (aT (aT (bS (aF (⟨rfl, _, _, .eq (by kernel_rfl), hO, h0⟩)))))

theorem IK (f0 : (List aI)) (t1 : Int) (r : Int) (h0 : nP f0 t1 = some r) : eB Try.prog 44 [(eL aR f0), (eI t1)] (eI r) := by
  intro H0
  refine dR Try.func44 ?_
  have hO := aJ.start H0
  unfold nP at h0
  refine aS aD 1 [] [] ?_
  refine aS aD 1 [] [(5, (eI (0 : Int)))] ?_
  refine eT (fun T H => ∃ v5 : Int, Has T [(5, (eI v5))] ∧ aJ ⟨H0, [], []⟩ H [] ∧ oO v5 = some r) ?_ ?_
  · clear hO h0
    rintro T H ⟨v5, hT, hO, h0⟩
    refine bA hT ?_
    clear hT
    unfold oO at h0
    refine cB aD 2 [(4, (eI v5))] ?_
    refine bN ?_
    obtain rfl := oI h0
    exact aG (Q_r hO)
  refine aS aD 1 [] [(6, (eI (0 : Int)))] ?_
  refine cE 0 ?_
  refine fT [(0, (eL aR f0)), (1, (eI t1)), (5, (eI (0 : Int))), (6, (eI (0 : Int)))] ?_
  refine eO (fun T H => ∃ v5 : Int, ∃ i6 : Int, Has T [(0, (eL aR f0)), (1, (eI t1)), (5, (eI v5)), (6, (eI i6))] ∧ aJ ⟨H0, [], []⟩ H [] ∧ sB f0 t1 v5 i6 = some r) ?_ ⟨(0 : Int), (0 : Int), .eq (by kernel_rfl), hO, h0⟩
  clear hO h0
  rintro T H ⟨v5, i6, hT, hO, h0⟩
  refine bA hT ?_
  clear hT
  unfold sB at h0
  obtain ⟨rr0, hl0, h0⟩ := aX h0
  refine cZ (by kernel_rfl) (fun (s : Int × Int) T H => Has T [(0, (eL aR f0)), (1, (eI t1)), (5, (eI s.1)), (6, (eI s.2))] ∧ aJ ⟨H0, [], []⟩ H []) hl0 ⟨.eq (by kernel_rfl), hO⟩ ?_
  clear hO
  rintro k0 s out1 T H ⟨hT, hO⟩ h1 ho0
  obtain ⟨v5, i6⟩ := s
  replace h1 : jF f0 t1 v5 i6 = some out1 := h1
  try dsimp only at hT
  refine bA hT ?_
  clear hT
  unfold jF at h1
  refine aN ?_
  refine aS aD 4 [] [(10, (aE (decide (i6 < (lN f0)))))] ?_
  refine bM h1 (fun h1 => ?_) (fun h1 => ?_)
  · refine bL ?_
    refine bG [(0, (eL aR f0)), (1, (eI t1)), (5, (eI v5)), (6, (eI i6))] ?_
    refine eT (fun T H => ∃ v5 : Int, Has T [(0, (eL aR f0)), (1, (eI t1)), (5, (eI v5)), (6, (eI i6))] ∧ aJ ⟨H0, [], []⟩ H [] ∧ mY f0 t1 v5 i6 = some out1) ?_ ?_
    · clear hO h1
      rintro T H ⟨v5, hT, hO, h1⟩
      refine bA hT ?_
      clear hT
      unfold mY at h1
      refine aU aD 3 ?_
      refine bE ?_
      exact aG (aF (⟨rfl, _, (oI h1).symm, .eq (by kernel_rfl), hO⟩))
    refine cE 1 ?_
    refine aN ?_
    refine aU aD 7 ?_
    obtain ⟨c2, h1⟩ := aV h1
    refine nL [0 ≤ i6 ∧ i6 < (lN f0)] ⟨c2, trivial⟩ ?_
    refine bY [] [(19, (aE (decide (((gD f0 i6).At) ≤ t1))))] ?_
    refine bM h1 (fun h1 => ?_) (fun h1 => ?_)
    · refine aU aD 8 ?_
      obtain ⟨c4, h1⟩ := aV h1
      refine nL [0 ≤ i6 ∧ i6 < (lN f0)] ⟨c4, trivial⟩ ?_
      exact aG (aW (aF (⟨rfl, _, .eq (by kernel_rfl), hO, h1⟩)))
    refine bL ?_
    exact aG (aW (aF (⟨rfl, _, .eq (by kernel_rfl), hO, h1⟩)))
  refine gC 0 ?_
  obtain rfl := oI h1
  obtain rfl : _ = rr0 := ho0
  replace h0 : oO v5 = some r := h0
  exact aG (aT (aT (bS (aF (⟨rfl, _, .eq (by kernel_rfl), hO, h0⟩)))))

theorem IJ (l0 : (List aL)) (t1 : Int) (r : (List aY)) (h0 : qB l0 t1 = some r) : eB Try.prog 18 [(eL aO l0), (eI t1)] (eL bH r) := by
  intro H0
  refine dR Try.func18 ?_
  have hO := aJ.start H0
  unfold qB at h0
  refine aS aD 1 [] [] ?_
  refine aN ?_
  refine aU aD 2 ?_
  refine mP (xs := []) (k := 2) (by kernel_rfl) (by kernel_rfl) ?_
  refine bE ?_
  refine bY [] [(5, (.sl true 0 (fun _ => .bad)))] ?_
  refine aN ?_
  refine aU aD 3 ?_
  refine bX 1 ?_
  obtain ⟨x1, hx2, h0⟩ := aX h0
  refine fC (KP l0 _ hx2) hO ?_
  intro H hO
  refine bE ?_
  refine bY [] [(6, (eL (eL aC) x1))] ?_
  refine eT (fun T H => ∃ out5 : List aY, ∃ lo4 : Nat, Has T [(5, (.msl 2 lo4 0 (List.length out5)))] ∧ aJ ⟨H0, [], []⟩ H [(lo4, 2, List.map bH out5)] ∧ rS out5 = some r) ?_ ?_
  · clear hO h0
    rintro T H ⟨out5, lo4, hT, hO, h0⟩
    refine bA hT ?_
    clear hT
    unfold rS at h0
    refine cB aD 2 [(4, (.msl 2 lo4 0 (List.length out5)))] ?_
    refine bN ?_
    refine jA [(4, (.msl 2 lo4 0 (List.length out5)))] ?_
    refine rO (en := bH) out5 0 0 4 2 lo4 (List.length out5) hO (by kernel_rfl) (by kernel_rfl) (by kernel_rfl) (L' := []) (by kernel_rfl) ?_
    intro H5 hO
    obtain rfl := oI h0
    exact aG (Q_r hO)
  refine aS aD 1 [] [(7, (eI (0 : Int)))] ?_
  refine cE 0 ?_
  refine fT [(0, (eL aO l0)), (1, (eI t1)), (5, (.sl true 0 (fun _ => .bad))), (6, (eL (eL aC) x1)), (7, (eI (0 : Int)))] ?_
  refine yJ (el := (fun _ => .bad)) 2 5 2 hO (by kernel_rfl) ?_
  intro lo21 H22 hO
  refine eO (fun T H => ∃ out5 : List aY, ∃ jK : (List (List aB)), ∃ i7 : Int, ∃ lo7 : Nat, Has T [(0, (eL aO l0)), (1, (eI t1)), (5, (.msl 2 lo7 0 (List.length out5))), (6, (eL (eL aC) jK)), (7, (eI i7))] ∧ aJ ⟨H0, [], []⟩ H [(lo7, 2, List.map bH out5)] ∧ rY l0 t1 out5 jK i7 = some r) ?_ ⟨([] : List aY), x1, (0 : Int), lo21, .eq (by kernel_rfl), hO, h0⟩
  clear hO h0
  rintro T H ⟨out5, jK, i7, lo7, hT, hO, h0⟩
  refine bA hT ?_
  clear hT
  unfold rY at h0
  obtain ⟨rr0, hl0, h0⟩ := aX h0
  refine cZ (by kernel_rfl) (fun (s : List aY × Int) T H => ∃ lo7 : Nat, Has T [(0, (eL aO l0)), (1, (eI t1)), (5, (.msl 2 lo7 0 (List.length s.1))), (6, (eL (eL aC) jK)), (7, (eI s.2))] ∧ aJ ⟨H0, [], []⟩ H [(lo7, 2, List.map bH s.1)]) hl0 ⟨lo7, .eq (by kernel_rfl), hO⟩ ?_
  clear hO
  rintro k0 s out1 T H ⟨lo7, hT, hO⟩ h1 ho0
  obtain ⟨out5, i7⟩ := s
  replace h1 : lP l0 t1 jK out5 i7 = some out1 := h1
  try dsimp only at hT
  refine bA hT ?_
  clear hT
  unfold lP at h1
  refine aN ?_
  refine aS aD 4 [] [(15, (aE (decide (i7 < (lN jK)))))] ?_
  refine bM h1 (fun h1 => ?_) (fun h1 => ?_)
  · refine bL ?_
    refine bG [(0, (eL aO l0)), (1, (eI t1)), (5, (.msl 2 lo7 0 (List.length out5))), (6, (eL (eL aC) jK)), (7, (eI i7))] ?_
    refine eT (fun T H => ∃ out5 : List aY, ∃ lo9 : Nat, Has T [(0, (eL aO l0)), (1, (eI t1)), (5, (.msl 2 lo9 0 (List.length out5))), (6, (eL (eL aC) jK)), (7, (eI i7))] ∧ aJ ⟨H0, [], []⟩ H [(lo9, 2, List.map bH out5)] ∧ mV l0 t1 out5 jK i7 = some out1) ?_ ?_
    · clear hO h1
      rintro T H ⟨out5, lo9, hT, hO, h1⟩
      refine bA hT ?_
      clear hT
      unfold mV at h1
      refine aU aD 3 ?_
      refine bE ?_
      exact aG (aF (⟨rfl, _, (oI h1).symm, _, .eq (by kernel_rfl), hO⟩))
    refine cE 1 ?_
    refine aN ?_
    refine aU aD 9 ?_
    obtain ⟨c10, h1⟩ := aV h1
    refine tG 5 [0 ≤ i7 ∧ i7 < (lN jK)] ⟨c10, trivial⟩ ?_
    obtain ⟨x11, hx12, h1⟩ := aX h1
    refine fC (IF l0 (gD jK i7) _ hx12) hO ?_
    intro H hO
    refine bX 7 ?_
    obtain ⟨x14, hx15, h1⟩ := aX h1
    refine fC (IK x11 t1 _ hx15) hO ?_
    intro H hO
    refine bE ?_
    refine bY [] [(8, (eI x14))] ?_
    refine aS aD 2 [] [(27, (aE (decide ((0 : Int) < x14))))] ?_
    refine bM h1 (fun h1 => ?_) (fun h1 => ?_)
    · refine aU aD 10 ?_
      obtain ⟨c18, h1⟩ := aV h1
      refine tG 7 [0 ≤ i7 ∧ i7 < (lN jK)] ⟨c18, trivial⟩ ?_
      refine mP (xs := [(bH (aY.mk (gD jK i7) x14))]) (k := 2) (by kernel_rfl) (by kernel_rfl) ?_
      obtain ⟨c20, h1⟩ := aV h1
      refine tO (e := bH) out5 ([aY.mk (gD jK i7) x14]) 0 lo7 2 32 (kH [(bH (aY.mk (gD jK i7) x14))]) (fun lo19 => [(lo19, 2, List.map bH (out5 ++ ([aY.mk (gD jK i7) x14])))]) (by kernel_rfl) (by kernel_rfl) hO (by kernel_rfl) (by kernel_rfl) c20 (fun _ => by kernel_rfl) ?_
      intro lo19 H hO
      refine bE ?_
      exact aG (aW (aF (⟨rfl, _, _, .eq (by kernel_rfl), hO, h1⟩)))
    refine bL ?_
    exact aG (aW (aF (⟨rfl, _, _, .eq (by kernel_rfl), hO, h1⟩)))
  refine gC 0 ?_
  obtain rfl := oI h1
  obtain rfl : _ = rr0 := ho0
  replace h0 : rS out5 = some r := h0
  exact aG (aT (aT (bS (aF (⟨rfl, _, _, .eq (by kernel_rfl), hO, h0⟩)))))

theorem BG (a0 : (List aY)) (b1 : (List aY)) (r : Bool) (h0 : mA a0 b1 = some r) : eB Try.prog 17 [(eL bH a0), (eL bH b1)] (aE r) := by
  intro H0
  refine dR Try.func17 ?_
  have hO := aJ.start H0
  unfold mA at h0
  refine aS aD 1 [] [] ?_
  refine aN ?_
  refine aS aD 5 [] [(10, (aE (!decide ((lN a0) = (lN b1)))))] ?_
  refine bM h0 (fun h0 => ?_) (fun h0 => ?_)
  · refine cB aD 1 [(4, (aE false))] ?_
    refine bN ?_
    obtain rfl := oI h0
    exact aG (aQ (Q_r hO))
  refine bL ?_
  refine bG [(0, (eL bH a0)), (1, (eL bH b1))] ?_
  refine eT (fun T H => Has T [] ∧ aJ ⟨H0, [], []⟩ H [] ∧ lM  = some r) ?_ ?_
  · clear hO h0
    rintro T H ⟨hT, hO, h0⟩
    refine bA hT ?_
    clear hT
    unfold lM at h0
    refine cB aD 1 [(4, (aE true))] ?_
    refine bN ?_
    obtain rfl := oI h0
    exact aG (Q_r hO)
  refine aS aD 1 [] [(5, (eI (0 : Int)))] ?_
  refine cE 0 ?_
  refine fT [(0, (eL bH a0)), (1, (eL bH b1)), (5, (eI (0 : Int)))] ?_
  refine eO (fun T H => ∃ i5 : Int, Has T [(0, (eL bH a0)), (1, (eL bH b1)), (5, (eI i5))] ∧ aJ ⟨H0, [], []⟩ H [] ∧ nJ a0 b1 i5 = some r) ?_ ⟨(0 : Int), .eq (by kernel_rfl), hO, h0⟩
  clear hO h0
  rintro T H ⟨i5, hT, hO, h0⟩
  refine bA hT ?_
  clear hT
  unfold nJ at h0
  obtain ⟨rr0, hl0, h0⟩ := aX h0
  refine cZ (by kernel_rfl) (fun (s : Int) T H => Has T [(0, (eL bH a0)), (1, (eL bH b1)), (5, (eI s))] ∧ aJ ⟨H0, [], []⟩ H []) hl0 ⟨.eq (by kernel_rfl), hO⟩ ?_
  clear hO
  rintro k0 s out1 T H ⟨hT, hO⟩ h1 ho0
  obtain ⟨i5, rfl⟩ : ∃ x, x = s := ⟨_, rfl⟩
  replace h1 : kM a0 b1 i5 = some out1 := h1
  refine bA hT ?_
  clear hT
  unfold kM at h1
  refine aN ?_
  refine aS aD 4 [] [(14, (aE (decide (i5 < (lN a0)))))] ?_
  refine bM h1 (fun h1 => ?_) (fun h1 => ?_)
  · refine bL ?_
    refine bG [(0, (eL bH a0)), (1, (eL bH b1)), (5, (eI i5))] ?_
    refine aN ?_
    refine cE 1 ?_
    refine aN ?_
    obtain ⟨c3, h1⟩ := aV h1
    obtain ⟨c4, h1⟩ := aV h1
    obtain ⟨c5, h1⟩ := aV h1
    obtain ⟨c6, h1⟩ := aV h1
    obtain ⟨x7, hx8, h1⟩ := aX h1
    refine fS (fR [21, 26, 33, 38]) aD 25 ?_
    refine nT (K := fun T H => Has (lift T) [(0, (eL bH a0)), (1, (eL bH b1)), (5, (eI i5)), (41, (aE ((!decide (((gD a0 i5).N) = ((gD b1 i5).N))) || (!x7))))] ∧ aJ ⟨H0, [], []⟩ H []) ?_ ?_
    · refine cF 12 [0 ≤ i5 ∧ i5 < (lN a0), 0 ≤ i5 ∧ i5 < (lN b1)] ⟨c3, c4, trivial⟩ ?_
      refine mW (t := 28) (e := !decide (((gD a0 i5).N) = ((gD b1 i5).N))) (by kernel_rfl) (fun hg9 => ?_) (fun hg9 => ?_)
      · refine jZ ?_
        exact ⟨⟨[(0, (eL bH a0)), (1, (eL bH b1)), (5, (eI i5)), (41, (aE true))], by kernel_rfl, rfl, ⟨aM.refl _, aM.refl _, aM.refl _, aM.eq (congrArg aE (YE hg9 rfl).symm), trivial⟩⟩, hO⟩
      refine cF 22 [0 ≤ i5 ∧ i5 < (lN a0), 0 ≤ i5 ∧ i5 < (lN b1)] ⟨(c5 (PA hg9)), (c6 (PA hg9)), trivial⟩ ?_
      refine mX 42 [(eL aC ((gD a0 i5).Row)), (eL aC ((gD b1 i5).Row))] (aE x7) (by kernel_rfl) (by kernel_rfl) (wU ((gD a0 i5).Row) ((gD b1 i5).Row) _ (jR hx8 (PA hg9))) hO ?_
      intro H hO
      refine jZ ?_
      exact ⟨⟨[(0, (eL bH a0)), (1, (eL bH b1)), (5, (eI i5)), (41, (aE (!x7)))], by kernel_rfl, rfl, ⟨aM.refl _, aM.refl _, aM.refl _, aM.eq (congrArg aE (YE hg9 rfl).symm), trivial⟩⟩, hO⟩
    · rintro T H ⟨hT, hO⟩
      refine dG hT ?_
      clear hT
      refine aG (aF ?_)
      refine bM h1 (fun h1 => ?_) (fun h1 => ?_)
      · refine cB aD 1 [(4, (aE false))] ?_
        refine bN ?_
        obtain rfl := oI h1
        obtain rfl : _ = rr0 := ho0
        replace h0 : some false = some r := h0
        obtain rfl := oI h0
        exact aG (bO (aQ (aQ (bO (aQ (Q_r hO))))))
      refine bL ?_
      refine jA [(0, (eL bH a0)), (1, (eL bH b1)), (5, (eI i5))] ?_
      refine aG (aW (aF (?_)))
      refine aU aD 3 ?_
      refine bE ?_
      exact aG (aF (⟨rfl, _, (oI h1).symm, .eq (by kernel_rfl), hO⟩))
  refine gC 0 ?_
  obtain rfl := oI h1
  obtain rfl : _ = rr0 := ho0
  replace h0 : lM  = some r := h0
  exact aG (aT (aT (bS (aF (⟨rfl, .eq (by kernel_rfl), hO, h0⟩)))))

theorem CE (l0 : (List aL)) (eN : Int) (t2 : Int) (r : Bool) (h0 : oG l0 eN t2 = some r) : eB Try.prog 5 [(eL aO l0), (eI eN), (eI t2)] (aE r) := by
  intro H0
  refine dR Try.func5 ?_
  have hO := aJ.start H0
  unfold oG at h0
  refine aS aD 1 [] [] ?_
  refine aN ?_
  refine aS aD 12 [] [(23, (aE (((decide ((200 : Int) < (lN l0))) || (decide (t2 < eN))) || (decide ((1125899906842624 : Int) ≤ t2)))))] ?_
  refine bM h0 (fun h0 => ?_) (fun h0 => ?_)
  · refine aN ?_
    refine aU aD 2 ?_
    obtain ⟨x2, hx3, h0⟩ := aX h0
    refine fC (wW  _ hx3) hO ?_
    intro H hO
    refine bE ?_
    refine bG [(6, (aE x2))] ?_
    refine bN ?_
    obtain rfl := oI h0
    exact aG (aQ (Q_r hO))
  refine bL ?_
  refine bG [(0, (eL aO l0)), (1, (eI eN)), (2, (eI t2))] ?_
  refine aN ?_
  refine aU aD 8 ?_
  refine bX 2 ?_
  obtain ⟨x5, hx6, h0⟩ := aX h0
  refine fC (BC l0 eN _ hx6) hO ?_
  intro H hO
  refine bE ?_
  refine bY [1] [(7, (eL cU x5.1)), (8, (eI x5.2))] ?_
  refine aN ?_
  refine aS aD 2 [8] [(32, (aE (!decide (x5.2 = (0 : Int)))))] ?_
  refine bM h0 (fun h0 => ?_) (fun h0 => ?_)
  · refine aN ?_
    refine aU aD 7 ?_
    obtain ⟨x9, hx10, h0⟩ := aX h0
    refine fC (wW  _ hx10) hO ?_
    intro H hO
    refine bE ?_
    refine bG [(6, (aE (x9 && (decide ((lN x5.1) = (0 : Int))))))] ?_
    refine bN ?_
    obtain rfl := oI h0
    exact aG (aQ (Q_r hO))
  refine bL ?_
  refine bG [(0, (eL aO l0)), (2, (eI t2)), (7, (eL cU x5.1))] ?_
  refine aN ?_
  refine aU aD 2 ?_
  refine mP (xs := []) (k := 2) (by kernel_rfl) (by kernel_rfl) ?_
  refine bE ?_
  refine bY [] [(9, (.sl true 0 (fun _ => .bad)))] ?_
  refine aS aD 1 [] [(10, (eI (0 : Int)))] ?_
  refine eT (fun T H => ∃ iS : (List aY), ∃ n10 : Int, Has T [(0, (eL aO l0)), (2, (eI t2)), (9, (eL bH iS)), (10, (eI n10))] ∧ aJ ⟨H0, [], []⟩ H [] ∧ mB l0 t2 iS n10 = some r) ?_ ?_
  · clear hO h0
    rintro T H ⟨iS, n10, hT, hO, h0⟩
    refine bA hT ?_
    clear hT
    unfold mB at h0
    refine aN ?_
    refine aU aD 13 ?_
    obtain ⟨x12, hx13, h0⟩ := aX h0
    refine fC (wW  _ hx13) hO ?_
    intro H hO
    refine bX 9 ?_
    obtain ⟨x15, hx16, h0⟩ := aX h0
    refine nN [(76, true)] 18 [(eL aO l0), (eI t2)] (eL bH x15) (x12 && (decide (n10 ≤ (1 : Int)))) (by kernel_rfl) (by kernel_rfl) (by kernel_rfl) (fun hb17 => (IJ l0 t2 _ (jR hx16 hb17))) hO ?_
    intro H hO
    obtain ⟨x18, hx19, h0⟩ := aX h0
    refine nN [(76, true)] 17 [(eL bH iS), (eL bH x15)] (aE x18) (x12 && (decide (n10 ≤ (1 : Int)))) (by kernel_rfl) (by kernel_rfl) (by kernel_rfl) (fun hb20 => (BG iS x15 _ (jR hx19 hb20))) hO ?_
    intro H hO
    refine bE ?_
    refine bG [(6, (aE ((x12 && (decide (n10 ≤ (1 : Int)))) && x18)))] ?_
    refine bN ?_
    obtain rfl := oI h0
    exact aG (Q_r hO)
  refine aS aD 1 [] [(11, (eI (0 : Int)))] ?_
  refine cE 0 ?_
  refine bA (l := [(0, (eL aO l0)), (2, (eI t2)), (7, (eL cU x5.1)), (9, (eL bH ([]))), (10, (eI (0 : Int))), (11, (eI (0 : Int)))]) ⟨[(0, (eL aO l0)), (2, (eI t2)), (7, (eL cU x5.1)), (9, (.sl true 0 (fun _ => .bad))), (10, (eI (0 : Int))), (11, (eI (0 : Int)))], by kernel_rfl, rfl, ⟨aM.refl _, aM.refl _, aM.refl _, nQ, aM.refl _, aM.refl _, trivial⟩⟩ ?_
  refine eO (fun T H => ∃ p7 : (List cD), ∃ iS : (List aY), ∃ n10 : Int, ∃ i11 : Int, Has T [(0, (eL aO l0)), (2, (eI t2)), (7, (eL cU p7)), (9, (eL bH iS)), (10, (eI n10)), (11, (eI i11))] ∧ aJ ⟨H0, [], []⟩ H [] ∧ nZ l0 t2 p7 iS n10 i11 = some r) ?_ ⟨x5.1, [], (0 : Int), (0 : Int), .eq (by kernel_rfl), hO, h0⟩
  clear hO h0
  rintro T H ⟨p7, iS, n10, i11, hT, hO, h0⟩
  refine bA hT ?_
  clear hT
  unfold nZ at h0
  obtain ⟨rr0, hl0, h0⟩ := aX h0
  refine cZ (by kernel_rfl) (fun (s : (List aY) × Int × Int) T H => Has T [(0, (eL aO l0)), (2, (eI t2)), (7, (eL cU p7)), (9, (eL bH s.1)), (10, (eI s.2.1)), (11, (eI s.2.2))] ∧ aJ ⟨H0, [], []⟩ H []) hl0 ⟨.eq (by kernel_rfl), hO⟩ ?_
  clear hO
  rintro k0 s out1 T H ⟨hT, hO⟩ h1 ho0
  obtain ⟨iS, n10, i11⟩ := s
  replace h1 : iV l0 t2 p7 iS n10 i11 = some out1 := h1
  try dsimp only at hT
  refine bA hT ?_
  clear hT
  unfold iV at h1
  refine aN ?_
  refine aS aD 4 [] [(43, (aE (decide (i11 < (lN p7)))))] ?_
  refine bM h1 (fun h1 => ?_) (fun h1 => ?_)
  · refine bL ?_
    refine bG [(0, (eL aO l0)), (2, (eI t2)), (7, (eL cU p7)), (9, (eL bH iS)), (10, (eI n10)), (11, (eI i11))] ?_
    refine eT (fun T H => ∃ iS : (List aY), ∃ n10 : Int, Has T [(0, (eL aO l0)), (2, (eI t2)), (7, (eL cU p7)), (9, (eL bH iS)), (10, (eI n10)), (11, (eI i11))] ∧ aJ ⟨H0, [], []⟩ H [] ∧ kU l0 t2 p7 iS n10 i11 = some out1) ?_ ?_
    · clear hO h1
      rintro T H ⟨iS, n10, hT, hO, h1⟩
      refine bA hT ?_
      clear hT
      unfold kU at h1
      refine aU aD 3 ?_
      refine bE ?_
      exact aG (aF (⟨rfl, _, (oI h1).symm, .eq (by kernel_rfl), hO⟩))
    refine cE 1 ?_
    refine aN ?_
    refine aU aD 18 ?_
    obtain ⟨c23, h1⟩ := aV h1
    obtain ⟨c24, h1⟩ := aV h1
    refine nL [0 ≤ i11 ∧ i11 < (lN p7), (((decide ((((gD p7 i11).Span).From) ≤ t2))) = true → 0 ≤ i11 ∧ i11 < (lN p7))] ⟨c23, c24, trivial⟩ ?_
    refine bY [] [(63, (aE ((decide ((((gD p7 i11).Span).From) ≤ t2)) && (decide (t2 < (((gD p7 i11).Span).To))))))] ?_
    refine bM h1 (fun h1 => ?_) (fun h1 => ?_)
    · refine aS aD 3 [9, 10, 63] [(10, (eI (wR (n10 + (1 : Int)))))] ?_
      refine aU aD 6 ?_
      obtain ⟨c26, h1⟩ := aV h1
      refine nL [0 ≤ i11 ∧ i11 < (lN p7)] ⟨c26, trivial⟩ ?_
      exact aG (aW (aF (⟨rfl, _, _, .eq (by kernel_rfl), hO, h1⟩)))
    refine bL ?_
    exact aG (aW (aF (⟨rfl, _, _, .eq (by kernel_rfl), hO, h1⟩)))
  refine gC 0 ?_
  obtain rfl := oI h1
  obtain rfl : _ = rr0 := ho0
  replace h0 : mB l0 t2 iS n10 = some r := h0
  exact aG (aT (aT (bS (aF (⟨rfl, _, _, .eq (by kernel_rfl), hO, h0⟩)))))

end Go.Abs
namespace Go.Abs
open Go Go.RowKit Go.Proofs
theorem BH {H : Type} {enc : TypeId × Value → H} {w : World} : tZ enc Try.prog w 53 aC wV :=
  BL Try.underlying53 (by kernel_rfl) (qD (c' := CI) (ok' := wV) (fun (a : Int) (b : Int × ByteArray × Unit) => (aB.mk a b.1 b.2.1 : aB)) (by kernel_rfl) (xJ Try.underlying51) (qD (c' := fun (b : Int × ByteArray × Unit) => (V.cells (cQ .i64 b.1) ++ (V.cells (uU b.2.1) ++ []))) (ok' := fun b => (uR b.1 ∧ ((fun s => s.size ≤ maxLen) b.2.1 ∧ True))) (fun a b => (a, b)) (by kernel_rfl) (xJ Try.underlying3) (qD (c' := fun (b : ByteArray × Unit) => (V.cells (uU b.1) ++ [])) (ok' := fun b => ((fun s => s.size ≤ maxLen) b.1 ∧ True)) (fun a b => (a, b)) (by kernel_rfl) (JC Try.underlying9) (FD ()) (fun _ _ => rfl) (fun _ _ h1 h2 => ⟨h1, h2⟩)) (fun _ _ => rfl) (fun _ _ h1 h2 => ⟨h1, h2⟩)) (fun _ _ => rfl) (fun _ _ h1 h2 => ⟨h1, h2⟩))

theorem CB {H : Type} {enc : TypeId × Value → H} {w : World} : tZ enc Try.prog w 57 aO sM :=
  BL Try.underlying57 (by kernel_rfl) (qD (c' := EK) (ok' := sM) (fun (a : (List aB)) (b : Int × Int × Unit) => (aL.mk a b.1 b.2.1 : aL)) (by kernel_rfl) (MB Try.underlying55 (by decide +kernel) (fun _ => by kernel_rfl) (fun _ => rfl) BH (by kernel_rfl)) (qD (c' := fun (b : Int × Int × Unit) => (V.cells (cQ .i64 b.1) ++ (V.cells (cQ .i64 b.2.1) ++ []))) (ok' := fun b => (uR b.1 ∧ (uR b.2.1 ∧ True))) (fun a b => (a, b)) (by kernel_rfl) (xJ Try.underlying3) (qD (c' := fun (b : Int × Unit) => (V.cells (cQ .i64 b.1) ++ [])) (ok' := fun b => (uR b.1 ∧ True)) (fun a b => (a, b)) (by kernel_rfl) (xJ Try.underlying3) (FD ()) (fun _ _ => rfl) (fun _ _ h1 h2 => ⟨h1, h2⟩)) (fun _ _ => rfl) (fun _ _ h1 h2 => ⟨h1, h2⟩)) (fun _ _ => rfl) (fun _ _ h1 h2 => ⟨h1, h2⟩))

end Go.Abs
namespace Go.Abs
open Go
theorem iG {n : Int} (h1 : -9223372036854775808 ≤ n) (h2 : n ≤ 9223372036854775807) : IntKind.i64.wrap n = n := by
  simp only [IntKind.wrap, IntKind.bits, IntKind.signed]
  simp
  split <;> omega

def qP {α st R : Type} (step : st → α → Option (st ⊕ R)) (fin : st → R) : st → List α → Option R
  | s, [] => some (fin s)
  | s, a :: r => match step s a with
    | some (.inl s') => qP step fin s' r
    | some (.inr x) => some x
    | none => none

theorem FJ {α st R : Type} {step : st → α → Option (st ⊕ R)} {fin : st → R} {s s' : st} {a : α} {r : List α} (h : step s a = some (.inl s')) : qP step fin s (a :: r) = qP step fin s' r := by
  simp only [qP, h]

theorem FO {α st R : Type} {step : st → α → Option (st ⊕ R)} {fin : st → R} {s : st} {x : R} {a : α} {r : List α} (h : step s a = some (.inr x)) : qP step fin s (a :: r) = some x := by
  simp only [qP, h]

theorem MY {α S st R : Type} {body : S → Option (S ⊕ R)} {l : List α} (mk : st → Int → S) (step : st → α → Option (st ⊕ R)) (fin : st → R)
    (hn : ∀ (i : Nat) a s, l[i]? = some a → (∀ s', step s a = some (.inl s') → body (mk s i) = some (.inl (mk s' ((i + 1 : Nat) : Int)))) ∧ (∀ x, step s a = some (.inr x) → body (mk s i) = some (.inr x)))
    (he : ∀ s, body (mk s (l.length : Nat)) = some (.inr (fin s))) : ∀ (m k : Nat) (s : st) (r : R), l.length - k = m → k ≤ l.length → qP step fin s (l.drop k) = some r → lp body (mk s k) = some r
  | 0, k, s, r, hm, hk, h => by
    have : k = l.length := by omega
    subst this
    rw [List.drop_length] at h
    simp only [qP, Option.some.injEq] at h
    subst h
    exact cS (he s)
  | m + 1, k, s, r, hm, hk, h => by
    have hlt : k < l.length := by omega
    have hd : l.drop k = l[k] :: l.drop (k + 1) := List.drop_eq_getElem_cons hlt
    rw [hd] at h
    simp only [qP] at h
    obtain ⟨h1, h2⟩ := hn k l[k] s (List.getElem?_eq_getElem hlt)
    split at h
    · rename_i s' hs
      rw [fH (h1 s' hs)]
      exact MY mk step fin hn he m (k + 1) s' r (by omega) (by omega) h
    · rename_i x hs
      simp at h; subst h
      exact cS (h2 x hs)
    · cases h

theorem LG {α S st R : Type} {body : S → Option (S ⊕ R)} {l : List α} (mk : st → Int → S) (step : st → α → Option (st ⊕ R)) (fin : st → R)
    (hn : ∀ (i : Nat) a s, l[i]? = some a → (∀ s', step s a = some (.inl s') → body (mk s i) = some (.inl (mk s' ((i + 1 : Nat) : Int)))) ∧ (∀ x, step s a = some (.inr x) → body (mk s i) = some (.inr x)))
    (he : ∀ s, body (mk s (l.length : Nat)) = some (.inr (fin s))) {s : st} {r : R} (h : qP step fin s l = some r) : lp body (mk s 0) = some r :=
  MY mk step fin hn he _ 0 s r rfl (Nat.zero_le _) (by simpa using h)

theorem idx {α : Type} [Inhabited α] {l : List α} {i : Nat} {a : α} (h : l[i]? = some a) (hl : l.length < 4611686018427387904) :
    decide ((i : Int) < ((l.length : Nat) : Int)) = true ∧ (0 ≤ (i : Int) ∧ (i : Int) < ((l.length : Nat) : Int)) ∧ l.getD (Int.toNat (i : Int)) default = a ∧ IntKind.i64.wrap ((i : Int) + 1) = ((i + 1 : Nat) : Int) := by
  have hlt : i < l.length := (List.getElem?_eq_some_iff.1 h).1
  refine ⟨by simpa using hlt, ⟨by omega, by omega⟩, ?_, ?_⟩
  · rw [Int.toNat_natCast, List.getD_eq_getElem?_getD, h]; rfl
  · rw [iG (by omega) (by omega)]; omega

theorem jT {n : Nat} : decide (((n : Nat) : Int) < ((n : Nat) : Int)) = false := by simp

theorem ZO {α : Type} {j : α} {r : List α} : (0 : Int) ≤ 0 ∧ (0 : Int) < ((List.length (j :: r) : Nat) : Int) := ⟨by omega, by simp⟩

theorem XT {α : Type} [Inhabited α] {j : α} {r : List α} : List.getD (j :: r) (Int.toNat (0 : Int)) default = j := rfl

end Go.Abs
namespace Go.Abs
open Go
theorem drop_cons {α : Type} {l r : List α} {a : α} {k : Nat} (h : l.drop k = a :: r) : l[k]? = some a ∧ l.drop (k + 1) = r := by
  have hk : k < l.length := by
    apply Classical.byContradiction; intro hn
    rw [List.drop_eq_nil_of_le (by omega)] at h; cases h
  rw [List.drop_eq_getElem_cons hk] at h
  obtain ⟨h1, h2⟩ := List.cons.inj h
  exact ⟨by rw [List.getElem?_eq_getElem hk, h1], h2⟩

theorem TJ {α S st R : Type} {body : S → Option (S ⊕ R)} {l : List α} (mk : st → Int → S) (G : st → List α → R) (Inv : st → List α → Prop)
    (hn : ∀ (i : Nat) a r s, l[i]? = some a → Inv s (a :: r) → (∃ s', body (mk s i) = some (.inl (mk s' ((i + 1 : Nat) : Int))) ∧ Inv s' r ∧ G s' r = G s (a :: r)) ∨ body (mk s i) = some (.inr (G s (a :: r))))
    (he : ∀ s, Inv s [] → body (mk s (l.length : Nat)) = some (.inr (G s []))) : ∀ (r : List α) (k : Nat) (s : st), l.drop k = r → k ≤ l.length → Inv s r → lp body (mk s k) = some (G s r)
  | [], k, s, hd, hk, hi => by
    have : k = l.length := by
      have := congrArg List.length hd
      simp only [List.length_drop, List.length_nil] at this; omega
    subst this
    exact cS (he s hi)
  | a :: r, k, s, hd, hk, hi => by
    obtain ⟨h1, h2⟩ := drop_cons hd
    have hlt : k < l.length := (List.getElem?_eq_some_iff.1 h1).1
    rcases hn k a r s h1 hi with ⟨s', hb, hi', hg⟩ | hb
    · rw [fH hb, TJ mk G Inv hn he r (k + 1) s' h2 (by omega) hi', hg]
    · exact cS hb

theorem rX {α S st R : Type} {body : S → Option (S ⊕ R)} {l : List α} (mk : st → Int → S) (G : st → List α → R) (Inv : st → List α → Prop) (s : st)
    (hn : ∀ (i : Nat) a r s, l[i]? = some a → Inv s (a :: r) → (∃ s', body (mk s i) = some (.inl (mk s' ((i + 1 : Nat) : Int))) ∧ Inv s' r ∧ G s' r = G s (a :: r)) ∨ body (mk s i) = some (.inr (G s (a :: r))))
    (he : ∀ s, Inv s [] → body (mk s (l.length : Nat)) = some (.inr (G s []))) (hi : Inv s l) : lp body (mk s 0) = some (G s l) :=
  TJ mk G Inv hn he l 0 s rfl (Nat.zero_le _) hi

theorem SG {α S R : Type} {body : S → Option (S ⊕ R)} {l : List α} (mk : Int → S) (bad : α → Bool) (x y : R)
    (hn : ∀ (i : Nat) a, l[i]? = some a → body (mk i) = some (if bad a then .inr x else .inl (mk ((i + 1 : Nat) : Int))))
    (he : body (mk (l.length : Nat)) = some (.inr y)) : lp body (mk 0) = some (if l.any bad then x else y) := by
  refine rX (st := Unit) (fun _ i => mk i) (fun _ r => if r.any bad then x else y) (fun _ _ => True) () ?_ ?_ trivial
  · intro i a r s ha _
    have hb := hn i a ha
    cases h : bad a
    · left; refine ⟨(), ?_, trivial, ?_⟩
      · simpa [h] using hb
      · simp [List.any_cons, h]
    · right; simpa [h, List.any_cons] using hb
  · intro _ _; simpa using he

end Go.Abs
namespace Go.Abs
open Go
variable {α : Type} [Inhabited α]
structure Cmp {β : Type} (ok : β → Prop) (le : β → β → Prop) (cmp : β → β → Option Int) : Prop where
  ans : ∀ x y, ok x → ok y → ∃ v, cmp x y = some v ∧ (v < 0 ↔ ¬ le y x)
  trans : ∀ x y z, ok x → ok y → ok z → le x y → le y z → le x z
  total : ∀ x y, ok x → ok y → le x y ∨ le y x

abbrev Srt {β : Type} (le : β → β → Prop) (l : List β) : Prop := l.Pairwise le

abbrev Oks {β : Type} (ok : β → Prop) (l : List β) : Prop := ∀ x ∈ l, ok x

section ins
variable {ok : α → Prop} {le : α → α → Prop} {cmp : α → α → Option Int}
end ins
end Go.Abs
namespace Go.Abs
open Go
variable {α : Type} [Inhabited α]
section sym
variable {ok : α → Prop} {le : α → α → Prop} {cmp : α → α → Option Int}
theorem Cmp.refl {β : Type} {ok : β → Prop} {le : β → β → Prop} {cmp : β → β → Option Int} (C : Cmp ok le cmp) {x : β} (h : ok x) : le x x := by rcases C.total x x h h with h | h <;> exact h

end sym
end Go.Abs
namespace Go.Abs
open Go
variable {α : Type} [Inhabited α] {ok : α → Prop} {le : α → α → Prop} {cmp : α → α → Option Int}
inductive GX {β : Type} (le : β → β → Prop) (n : Nat) : List β → Prop
  | last {l : List β} : l.length ≤ n → Srt le l → GX le n l
  | cons {x l : List β} : x.length = n → Srt le x → GX le n l → GX le n (x ++ l)

theorem GX.split {β : Type} {le : β → β → Prop} {n : Nat} {l : List β} (h : GX le n l) (hl : n < l.length) : ∃ x r, l = x ++ r ∧ x.length = n ∧ Srt le x ∧ GX le n r := by
  cases h with
  | last h' _ => omega
  | cons hx hs hr => exact ⟨_, _, rfl, hx, hs, hr⟩

theorem Oks.perm {β : Type} {ok : β → Prop} {l l' : List β} (h : Oks ok l) (hp : l'.Perm l) : Oks ok l' := fun x hx => h x (hp.mem_iff.1 hx)

end Go.Abs
namespace Go.Abs
open Go
structure ZM where
  Row : (List aB)
  Span : jI
  deriving Inhabited, DecidableEq

structure ZQ where
  Kind : Int
  Input : Int
  Edges : (List aL)
  At : Int
  deriving Inhabited, DecidableEq

end Go.Abs
namespace Go.Abs
open Go
def IV (n : Int) : Bool := decide (n ≤ 1048576) && decide (-1048576 ≤ n)

theorem XJ (n : Int) : vG n = some (IV n) := rfl

def yW (last : Int) (j : aI) : Bool := decide (j.At ≤ last) || decide (1125899906842624 ≤ j.At) || decide (j.Net = 0) || !IV j.Net

def chk (last : Int) : List aI → Bool
  | [] => true
  | j :: r => !yW last j && chk j.At r

def lE (f : List aI) : Bool := decide (f.length ≤ 1024) && chk (-2) f

theorem LN {f : List aI} {i : Nat} {a : aI} {last : Int} (ha : f[i]? = some a) (hl : f.length < 4611686018427387904) :
    kZ f (f.length : Nat) last i = some (if yW last a then .inr (.inr false) else .inl (a.At, ((i + 1 : Nat) : Int))) := by
  obtain ⟨d1, d2, d3, d4⟩ := idx ha hl
  simp only [kZ, d1, cond_true, aK d2, d3, d4, XJ]
  unfold yW
  cases h : (decide (a.At ≤ last) || decide (1125899906842624 ≤ a.At) || decide (a.Net = 0)) <;> cases h2 : IV a.Net <;> simp [dD]

theorem LJ : ∀ (f : List aI) (last : Int), qP (fun last (j : aI) => some (if yW last j then .inr (.inr false) else .inl j.At)) (fun _ => (.inl () : Unit ⊕ Bool)) last f = some (if chk last f then .inl () else .inr false)
  | [], last => by simp [qP, chk]
  | j :: r, last => by
    cases h : yW last j
    · rw [FJ (s' := j.At) (by simp [h])]
      rw [LJ r j.At]
      simp [chk, h]
    · rw [FO (x := .inr false) (by simp [h])]
      simp [chk, h]

theorem EH (f : List aI) : mR f = some (lE f) := by
  unfold mR lE
  by_cases hl : f.length ≤ 1024
  · have h1 : decide ((1024 : Int) < ((f.length : Nat) : Int)) = false := by simp; omega
    rw [h1, cond_false]
    unfold vF
    have key := LG (l := f) (body := fun s : Int × Int => kZ f (f.length : Nat) s.1 s.2) (fun last i => (last, i)) _ _
      (fun i a s ha => by
        constructor
        · intro s' hs
          show kZ f (f.length : Nat) s i = _
          rw [LN ha (by omega)]
          split at hs <;> simp_all
        · intro x hs
          show kZ f (f.length : Nat) s i = _
          rw [LN ha (by omega)]
          split at hs <;> simp_all)
      (fun s => by show kZ f (f.length : Nat) s (f.length : Nat) = _; simp only [kZ, jT, cond_false]) (LJ f (-2))
    rw [key]
    cases h : chk (-2) f <;> simp [sI, hl]
  · have h1 : decide ((1024 : Int) < ((f.length : Nat) : Int)) = true := by simp; omega
    rw [h1, cond_true]
    simp [hl]

theorem mO {last : Int} {j : aI} : yW last j = false ↔ last < j.At ∧ j.At < 1125899906842624 ∧ j.Net ≠ 0 ∧ j.Net ≤ 1048576 ∧ -1048576 ≤ j.Net := by
  simp [yW, IV]
  omega

def rE (last : Int) : List aI → Prop
  | [] => True
  | j :: r => (last < j.At ∧ j.At < 1125899906842624 ∧ j.Net ≠ 0 ∧ j.Net ≤ 1048576 ∧ -1048576 ≤ j.Net) ∧ rE j.At r

theorem NX : ∀ {f : List aI} {last : Int}, chk last f = true ↔ rE last f
  | [], last => by simp [chk, rE]
  | j :: r, last => by simp [chk, rE, mO, NX]

theorem rV {f : List aI} : lE f = true ↔ f.length ≤ 1024 ∧ rE (-2) f := by simp [lE, NX]

theorem rE.above : ∀ {f : List aI} {last : Int}, rE last f → ∀ j ∈ f, last < j.At ∧ j.At < 1125899906842624 ∧ j.Net ≠ 0 ∧ j.Net ≤ 1048576 ∧ -1048576 ≤ j.Net
  | [], _, _, j, hj => by simp at hj
  | a :: r, last, h, j, hj => by
    rcases List.mem_cons.1 hj with rfl | hj
    · exact h.1
    · have := h.2.above j hj
      have h1 := h.1.1
      exact ⟨by omega, this.2⟩

def val (f : List aI) (t : Int) : Int := (f.map fun j => if j.At ≤ t then j.Net else 0).sum

theorem NK (t : Int) : val [] t = 0 := rfl

theorem jY (j : aI) (r : List aI) (t : Int) : val (j :: r) t = (if j.At ≤ t then j.Net else 0) + val r t := by simp [val]

theorem xK {f : List aI} {t : Int} (h : ∀ j ∈ f, t < j.At) : val f t = 0 := by
  induction f with
  | nil => rfl
  | cons j r ih =>
    rw [jY, ih (fun k hk => h k (List.mem_cons_of_mem _ hk))]
    have := h j (List.mem_cons_self ..)
    rw [if_neg (by omega)]; rfl

theorem NG {f : List aI} {i : Nat} {a : aI} {t v : Int} (ha : f[i]? = some a) (hl : f.length < 4611686018427387904) :
    lV t f (f.length : Nat) v i = some (if t < a.At then .inr v else .inl (IntKind.i64.wrap (v + a.Net), ((i + 1 : Nat) : Int))) := by
  obtain ⟨d1, d2, d3, d4⟩ := idx ha hl
  simp only [lV, d1, cond_true, aK d2, d3, d4]
  by_cases h : t < a.At <;> simp [h]

theorem WL {t : Int} (f : List aI) : ∀ (last v : Int), rE last f → v ≤ 1048576 * (2048 - f.length) → -(1048576 * (2048 - f.length)) ≤ v → f.length ≤ 1024 →
    qP (fun v (j : aI) => some (if t < j.At then .inr v else .inl (IntKind.i64.wrap (v + j.Net)))) (fun v => (v : Int)) v f = some (v + val f t) := by
  induction f with
  | nil => intro last v _ _ _ _; simp [qP, val]
  | cons j r ih =>
    intro last v h h1 h2 hl
    simp only [List.length_cons] at h1 h2 hl
    by_cases hj : t < j.At
    · rw [FO (x := v) (by simp [hj])]
      rw [xK (fun k hk => by
        rcases List.mem_cons.1 hk with rfl | hk
        · exact hj
        · have := (h.2.above k hk).1; omega)]
      simp
    · have hj1 := h.1
      have hw : IntKind.i64.wrap (v + j.Net) = v + j.Net := iG (by omega) (by omega)
      rw [FJ (s' := v + j.Net) (by simp [hj, hw])]
      rw [ih j.At (v + j.Net) h.2 (by omega) (by omega) (by omega), jY, if_pos (by omega)]
      congr 1
      omega

theorem VR (f : List aI) (t : Int) : vK f t = some (if lE f then val f t else 0) := by
  unfold vK
  rw [EH]
  simp only [Option.bind_some]
  cases h : lE f
  · simp
  · obtain ⟨hl, hr⟩ := rV.1 h
    simp only [Bool.not_true, cond_false, if_true]
    unfold wC
    have key := LG (l := f) (body := fun s : Int × Int => lV t f (f.length : Nat) s.1 s.2) (fun v i => (v, i)) _ _
      (fun i a s ha => by
        constructor
        · intro s' hs
          show lV t f (f.length : Nat) s i = _
          rw [NG ha (by omega)]
          split at hs <;> simp_all
        · intro x hs
          show lV t f (f.length : Nat) s i = _
          rw [NG ha (by omega)]
          split at hs <;> simp_all)
      (fun s => by show lV t f (f.length : Nat) s (f.length : Nat) = _; simp only [lV, jT, cond_false]) (WL (t := t) f (-2) 0 hr (by omega) (by omega) hl)
    rw [key]
    simp [rU]

end Go.Abs
namespace Go.Abs
open Go
section both
variable {op : Int → Int → Option Int} {f g r : List aI} {out : List aI} {a b was t : Int} {j : aI}
end both
def emit (p v was : Int) : List aI := if v = was then [] else [⟨p, v - was⟩]

def VX (was : Int) : List (Int × Int) → List aI
  | [] => []
  | x :: r => emit x.1 x.2 was ++ VX x.2 r

def merge (f g : List aI) (a b : Int) : List (Int × Int × Int) :=
  match f, g with
  | [], [] => []
  | j :: f, [] => (j.At, a + j.Net, b) :: merge f [] (a + j.Net) b
  | [], k :: g => (k.At, a, b + k.Net) :: merge [] g a (b + k.Net)
  | j :: f, k :: g =>
    if j.At < k.At then (j.At, a + j.Net, b) :: merge f (k :: g) (a + j.Net) b
    else if k.At < j.At then (k.At, a, b + k.Net) :: merge (j :: f) g a (b + k.Net)
    else (j.At, a + j.Net, b + k.Net) :: merge f g (a + j.Net) (b + k.Net)

termination_by f.length + g.length
end Go.Abs
namespace Go.Abs
open Go
def comb (OP : Int → Int → Int) (f g : List aI) : List aI := VX 0 ((merge f g 0 0).map fun x => (x.1, OP x.2.1 x.2.2))

def told (f : List aI) : List aI × Int := if lE f then (f, 0) else ([], 7)

def two (OP : Int → Int → Int) (f g : List aI) : List aI × Int := if lE f && lE g then told (comb OP f g) else ([], 2)

end Go.Abs
namespace Go.Abs
open Go
theorem rE.yG {l t : Int} {f : List aI} (h : rE l f) (ht : t ≤ l) : val f t = 0 := xK fun j hj => by have := (h.above j hj).1; omega

end Go.Abs
namespace Go.Abs
open Go
def XZ (f : List aI) : Int := (f.map aI.Net).sum

def UY (t : Int) : List aI → List aI
  | [] => []
  | j :: r => if t ≤ j.At then [] else j :: UY t r

def aft (t : Int) : List aI → List aI
  | [] => []
  | j :: r => if t ≤ j.At then j :: r else aft t r

end Go.Abs
namespace Go.Abs
open Go
def ZK (t : Int) (f : List aI) : List aI := (if XZ (UY t f) = 0 then [] else [⟨-1, XZ (UY t f)⟩]) ++ aft t f

def rest (f : List aI) (t : Int) : List aI × Int :=
  if lE f then (if 1125899906842624 ≤ t then ([], 0) else if t ≤ -1 then (f, 0) else told (ZK t f)) else ([], 2)

end Go.Abs
namespace Go.Abs
open Go
def Up (last : Int) : List aI → Prop
  | [] => True
  | j :: r => (last < j.At ∧ j.At < 1125899906842624 ∧ j.Net ≠ 0) ∧ Up j.At r

theorem Up.above : ∀ {f : List aI} {last : Int}, Up last f → ∀ j ∈ f, last < j.At ∧ j.At < 1125899906842624 ∧ j.Net ≠ 0
  | [], _, _, j, hj => by simp at hj
  | a :: r, last, h, j, hj => by
    rcases List.mem_cons.1 hj with rfl | hj
    · exact h.1
    · have := h.2.above j hj
      have h1 := h.1.1
      exact ⟨by omega, this.2⟩

theorem Up.yG {l t : Int} {f : List aI} (h : Up l f) (ht : t ≤ l) : val f t = 0 := xK fun j hj => by have := (h.above j hj).1; omega

theorem Up.weaken {a b : Int} {f : List aI} (h : Up b f) (hab : a ≤ b) : Up a f := by
  cases f with
  | nil => trivial
  | cons j r => exact ⟨⟨by have := h.1.1; omega, h.1.2⟩, h.2⟩

theorem rE.up : ∀ {f : List aI} {last : Int}, rE last f → Up last f
  | [], _, _ => trivial
  | _ :: _, _, h => ⟨⟨h.1.1, h.1.2.1, h.1.2.2.1⟩, h.2.up⟩

theorem Up.ext : ∀ {f g : List aI} {last : Int}, Up last f → Up last g → (∀ t, last < t → t < 1125899906842624 → val f t = val g t) → f = g
  | [], [], _, _, _, _ => rfl
  | j :: r, [], last, hf, _, h => by
    have := h j.At hf.1.1 hf.1.2.1
    rw [jY, if_pos (Int.le_refl _), hf.2.yG (Int.le_refl _), NK] at this
    exact absurd (by omega) hf.1.2.2
  | [], k :: s, last, _, hg, h => by
    have := h k.At hg.1.1 hg.1.2.1
    rw [jY, if_pos (Int.le_refl _), hg.2.yG (Int.le_refl _), NK] at this
    exact absurd (by omega) hg.1.2.2
  | j :: r, k :: s, last, hf, hg, h => by
    have h1 := h j.At hf.1.1 hf.1.2.1
    have h2 := h k.At hg.1.1 hg.1.2.1
    rw [jY, if_pos (Int.le_refl _), hf.2.yG (Int.le_refl _), jY] at h1
    rw [jY, jY k, if_pos (Int.le_refl _), hg.2.yG (Int.le_refl _)] at h2
    have n1 := hf.1.2.2
    have n2 := hg.1.2.2
    have he : j.At = k.At := by
      rcases Int.lt_trichotomy j.At k.At with h3 | h3 | h3
      · rw [if_neg (by omega), hg.2.yG (by omega)] at h1; omega
      · exact h3
      · rw [if_neg (by omega), hf.2.yG (by omega)] at h2; omega
    rw [if_pos (by omega), hg.2.yG (by omega)] at h1
    have hj : j = k := by
      obtain ⟨a, b⟩ := j; obtain ⟨c, d⟩ := k
      simp only at he h1
      simp only [Int.add_zero] at h1
      rw [he, h1]
    subst hj
    rw [hf.2.ext hg.2 (fun t ht ht' => by
      have := h t (by have := hf.1.1; omega) ht'
      rw [jY, jY] at this; omega)]

def Inc (last : Int) : List Int → Prop
  | [] => True
  | p :: r => (last < p ∧ p < 1125899906842624) ∧ Inc p r

theorem Inc.above : ∀ {ps : List Int} {last : Int}, Inc last ps → ∀ p ∈ ps, last < p ∧ p < 1125899906842624
  | [], _, _, j, hj => by simp at hj
  | a :: r, last, h, j, hj => by
    rcases List.mem_cons.1 hj with rfl | hj
    · exact h.1
    · have := h.2.above j hj
      have h1 := h.1.1
      exact ⟨by omega, this.2⟩

end Go.Abs
namespace Go.Abs
open Go
theorem MG {f : List aI} (t : Int) (hb : ∀ j ∈ f, j.Net ≤ 1048576 ∧ -1048576 ≤ j.Net) (hl : f.length ≤ 1099511627776) : nP f t = some (val f t) := by
  unfold nP sB
  rw [rX (l := f) (body := fun s : Int × Int => jF f t s.1 s.2) (fun v i => (v, i)) (fun v r => v + val r t)
    (fun v r => (∀ j ∈ r, j.Net ≤ 1048576 ∧ -1048576 ≤ j.Net) ∧ r.length ≤ 1099511627776 ∧ v ≤ 1048576 * (1099511627776 - r.length) ∧ -(1048576 * (1099511627776 - r.length)) ≤ v) 0 ?_ ?_ ?_]
  · simp [oO]
  · intro i a r v ha ⟨h1, h2, h3, h4⟩
    obtain ⟨d1, d2, d3, d4⟩ := idx ha (by omega)
    have hj := h1 a (List.mem_cons_self ..)
    simp only [List.length_cons] at h2 h3 h4
    left
    by_cases h : a.At ≤ t
    · refine ⟨v + a.Net, ?_, ⟨fun j hj => h1 j (List.mem_cons_of_mem _ hj), by omega, by omega, by omega⟩, ?_⟩
      · show jF f t v i = _
        have hw : IntKind.i64.wrap (v + a.Net) = v + a.Net := iG (by omega) (by omega)
        simp only [jF, mY, d1, cond_true, aK d2, d3, d4, h, decide_true, hw]
      · show v + a.Net + val r t = v + val (a :: r) t
        rw [jY, if_pos h]; omega
    · refine ⟨v, ?_, ⟨fun j hj => h1 j (List.mem_cons_of_mem _ hj), by omega, by omega, by omega⟩, ?_⟩
      · show jF f t v i = _
        simp only [jF, mY, d1, cond_true, aK d2, d3, d4, h, decide_false, cond_false]
      · show v + val r t = v + val (a :: r) t
        rw [jY, if_neg h]; omega
  · intro s _
    show jF f t s (f.length : Nat) = _
    simp only [jF, jT, cond_false]
    simp [val]
  · exact ⟨hb, hl, by omega, by omega⟩

theorem JL {f : List aI} (h : lE f = true) : ∀ j ∈ f, j.Net ≤ 1048576 ∧ -1048576 ≤ j.Net := fun j hj => by have := (rV.1 h).2.above j hj; omega

theorem AJ {f : List aI} (h : lE f = true) (t : Int) : nP f t = some (val f t) :=
  MG t (JL h) (by have := (rV.1 h).1; omega)

def nH (t : Int) : List Int → List Int
  | [] => [t]
  | p :: r => if p = t then p :: r else if t < p then t :: p :: r else p :: nH t r

theorem HB {t x : Int} : ∀ {ps : List Int}, x ∈ nH t ps ↔ x = t ∨ x ∈ ps
  | [] => by simp [nH]
  | p :: r => by
    unfold nH
    split
    · rename_i h; subst h; simp
    · split
      · simp
      · simp only [List.mem_cons, HB (ps := r)]; constructor <;> (intro h; rcases h with h | h | h <;> simp [h])

theorem HQ {t : Int} : ∀ {ps : List Int} {last : Int}, Inc last ps → last < t → t < 1125899906842624 → Inc last (nH t ps)
  | [], last, _, h1, h2 => ⟨⟨h1, h2⟩, trivial⟩
  | p :: r, last, h, h1, h2 => by
    unfold nH
    split
    · exact h
    · split
      · rename_i h3 h4
        exact ⟨⟨h1, h2⟩, ⟨h4, h.1.2⟩, h.2⟩
      · exact ⟨h.1, HQ h.2 (by omega) h2⟩

theorem HZ {t : Int} : ∀ {ps : List Int}, (nH t ps).length ≤ ps.length + 1
  | [] => by simp [nH]
  | p :: r => by
    unfold nH
    split
    · simp
    · split
      · simp
      · simp only [List.length_cons]; have := HZ (t := t) (ps := r); omega

theorem FE {t : Int} : ∀ {ps : List Int} {last : Int}, Inc last ps → t ∈ ps → nH t ps = ps
  | [], _, _, h => by simp at h
  | p :: r, last, hi, h => by
    unfold nH
    split
    · rfl
    · rename_i hp
      rcases List.mem_cons.1 h with h | h
      · exact absurd h.symm hp
      · have := (hi.2.above t h).1
        rw [if_neg (by omega), FE hi.2 h]

end Go.Abs
namespace Go.Abs
open Go
def mn (a b : Int) : Int := if b < a then b else a

def parts (v : Int) : List aI → List Int
  | [] => []
  | j :: r => (v + j.Net) :: parts (v + j.Net) r

def FC (f : List aI) : Int := (f.map fun j => val f j.At).foldl mn (val f (-1))

theorem parts_eq : ∀ {f : List aI} {l v : Int}, rE l f → parts v f = f.map fun j => v + val f j.At
  | [], _, _, _ => rfl
  | j :: r, l, v, h => by
    simp only [parts, List.map_cons]
    rw [parts_eq h.2, jY, if_pos (Int.le_refl _), h.2.yG (Int.le_refl _), Int.add_zero]
    congr 1
    apply List.map_congr_left
    intro k hk
    have := (h.2.above k hk).1
    rw [jY, if_pos (by omega)]; omega

theorem RK {j : aI} {r : List aI} (h : rE (-2) (j :: r)) : val (j :: r) (-1) = if j.At = -1 then j.Net else 0 := by
  have := h.1.1
  by_cases e : j.At = -1
  · rw [if_pos e, jY, if_pos (by omega), h.2.yG (by omega)]; omega
  · rw [if_neg e, xK]
    intro k hk
    rcases List.mem_cons.1 hk with rfl | hk
    · omega
    · have := (h.2.above k hk).1; omega

theorem EO {f : List aI} (hf : lE f = true) (m : Int) (hm : -1125899906842624 ≤ m ∧ m ≤ 1125899906842624) : pO 0 m f (f.length : Nat) 0 = some ((f.map fun j => val f j.At).foldl mn m) := by
  obtain ⟨hl, hr⟩ := rV.1 hf
  unfold pO
  rw [rX (l := f) (body := fun s : Int × Int × Int => lJ f (f.length : Nat) s.1 s.2.1 s.2.2) (fun (s : Int × Int) i => (s.1, s.2, i)) (fun s r => (parts s.1 r).foldl mn s.2)
    (fun s r => (∀ j ∈ r, j.Net ≤ 1048576 ∧ -1048576 ≤ j.Net) ∧ r.length ≤ 1024 ∧ s.1 ≤ 1048576 * (1024 - r.length) ∧ -(1048576 * (1024 - r.length)) ≤ s.1) (0, m) ?_ ?_ ?_]
  · simp only [Option.bind_some, pZ, parts_eq hr, Int.zero_add]
  · rintro i a r ⟨v, m⟩ ha ⟨h1, h2, h3, h4⟩
    obtain ⟨d1, d2, d3, d4⟩ := idx ha (by omega)
    have hj := h1 a (List.mem_cons_self ..)
    simp only [List.length_cons] at h2 h3 h4
    have hw : IntKind.i64.wrap (v + a.Net) = v + a.Net := iG (by omega) (by omega)
    left
    refine ⟨(v + a.Net, mn m (v + a.Net)), ?_, ⟨fun j hj => h1 j (List.mem_cons_of_mem _ hj), by omega, by simp only; omega, by simp only; omega⟩, rfl⟩
    show lJ f (f.length : Nat) v m i = _
    simp only [lJ, d1, cond_true, aK d2, d3, d4, hw, mn]
  · rintro ⟨v, m⟩ _
    show lJ f (f.length : Nat) v m (f.length : Nat) = _
    simp only [lJ, jT, cond_false, parts, List.foldl_nil]
  · exact ⟨JL hf, hl, by simp only; omega, by simp only; omega⟩

theorem UE (f : List aI) : qU f = some (if lE f then FC f else 0) := by
  unfold qU
  rw [EH]
  cases h : lE f
  · simp
  · cases f with
    | nil => simp [FC, val]
    | cons j r =>
      obtain ⟨hl, hr⟩ := rV.1 h
      have hne : decide (((List.length (j :: r) : Nat) : Int) = 0) = false := by simp; omega
      simp only [Option.bind_some, Bool.not_true, Bool.false_or, hne, cond_false, aK ZO, XT, if_true]
      have hj := hr.1
      unfold FC
      rw [RK hr]
      by_cases e : j.At = -1
      · simp only [e, decide_true, cond_true, if_true, nR]
        exact EO h j.Net (by omega)
      · simp only [e, decide_false, cond_false, if_false, nR]
        exact EO h 0 (by omega)

theorem HR {s t : Int} (hst : s ≤ t) : ∀ {f : List aI}, (∀ j ∈ f, ¬ (s < j.At ∧ j.At ≤ t)) → val f s = val f t
  | [], _ => rfl
  | j :: r, h => by
    have hj := h j (List.mem_cons_self ..)
    rw [jY, jY, HR hst (fun k hk => h k (List.mem_cons_of_mem _ hk))]
    by_cases e : j.At ≤ s
    · rw [if_pos e, if_pos (by omega)]
    · rw [if_neg e, if_neg (by omega)]

theorem WH : lE [] = true := by decide

end Go.Abs
namespace Go.Abs
open Go
theorem w1 : IntKind.i64.wrap (0 + 1) = 1 := by rw [iG] <;> omega

theorem w2 : IntKind.i64.wrap (1 + 1) = 2 := by rw [iG] <;> omega

theorem w3 : IntKind.i64.wrap (1 - 1) = 0 := by rw [iG] <;> omega

theorem v0 : IntKind.i64.wrap 0 = 0 := by rw [iG] <;> omega

theorem v1 : IntKind.i64.wrap 1 = 1 := by rw [iG] <;> omega

theorem v2 : IntKind.i64.wrap 2 = 2 := by rw [iG] <;> omega

theorem v3 : IntKind.i64.wrap (-1) = -1 := by rw [iG] <;> omega

end Go.Abs
namespace Go.Abs
open Go
variable {α : Type} [Inhabited α]
noncomputable def mU (f1 : α → Option Bool) (s0 : (List α)) (t7 : Int) (t8 : Int) : Option ((Int) ⊕ (Unit ⊕ Int)) :=
  cond (decide (t8 < t7))
  (aZ (0 ≤ t8 ∧ t8 < ((List.length s0 : Nat) : Int)) <|
  (f1 (List.getD s0 (Int.toNat t8) default)).bind fun x2 =>
  cond x2
  (some (.inr (.inr t8)))
  (some (.inl (IntKind.i64.wrap (t8 + (1 : Int))))))
  (some (.inr (.inl ())))

theorem KG {l : List α} {f : α → Option Bool} {g : α → Bool} (hl : l.length ≤ 1099511627776) (hf : ∀ x ∈ l, f x = some (g x)) : ∀ (r : List α) (k : Nat), l.drop k = r → k ≤ l.length →
    ∃ x, lp (fun s => mU f l (l.length : Nat) s) (k : Int) = some x ∧ ((x = .inl () ∧ r.any g = false) ∨ (∃ i : Nat, x = .inr (i : Int) ∧ k ≤ i ∧ i < l.length ∧ r.any g = true ∧ g (l.getD i default) = true ∧ ∀ j, k ≤ j → j < i → g (l.getD j default) = false))
  | [], k, hd, hk => by
    have : k = l.length := by
      have := congrArg List.length hd
      simp only [List.length_drop, List.length_nil] at this; omega
    subst this
    refine ⟨.inl (), cS ?_, Or.inl ⟨rfl, rfl⟩⟩
    show mU f l _ _ = _
    simp only [mU, jT, cond_false]
  | a :: r, k, hd, hk => by
    obtain ⟨h1, h2⟩ := drop_cons hd
    have hlt : k < l.length := (List.getElem?_eq_some_iff.1 h1).1
    obtain ⟨d1, d2, d3, d4⟩ := idx h1 (by omega)
    have hga : l.getD k default = a := by rw [Int.toNat_natCast] at d3; exact d3
    have hb : (fun s => mU f l (l.length : Nat) s) (k : Int) = some (if g a then .inr (.inr (k : Int)) else .inl ((k + 1 : Nat) : Int)) := by
      show mU f l _ _ = _
      simp only [mU, d1, cond_true, aK d2, d3, d4, hf a (List.mem_of_getElem? h1), Option.bind_some]
      cases g a <;> simp
    cases hg : g a
    · rw [hg] at hb
      obtain ⟨x, e, hx⟩ := KG hl hf r (k + 1) h2 (by omega)
      refine ⟨x, by rw [fH hb]; exact e, ?_⟩
      rcases hx with ⟨rfl, h⟩ | ⟨i, rfl, h3, h4, h5, h6, h7⟩
      · exact Or.inl ⟨rfl, by simp [hg, h]⟩
      · refine Or.inr ⟨i, rfl, by omega, h4, by simp [h5], h6, fun j hj hj' => ?_⟩
        by_cases e : j = k
        · subst e; rw [hga, hg]
        · exact h7 j (by omega) hj'
    · rw [hg] at hb
      exact ⟨.inr (k : Int), cS hb, Or.inr ⟨k, rfl, Nat.le_refl _, hlt, by simp [hg], by rw [hga, hg], fun j h h' => by omega⟩⟩

end Go.Abs
namespace Go.Abs
open Go
theorem HN (x y : ByteArray) : lX x y = decide (x = y) := by
  unfold lX
  rw [ByteArray.toList_eq, ByteArray.toList_eq]
  by_cases h : x = y
  · simp [h]
  · have : x.data.toList ≠ y.data.toList := by
      intro he
      apply h
      cases x; cases y
      congr 1
      exact Array.toList_inj.1 he
    have h2 : (x.data.toList == y.data.toList) = false := by simpa using this
    rw [h2]; simp [h]

theorem veq (a b : aB) : ((decide (a.Kind = b.Kind)) && ((decide (a.Num = b.Num)) && ((lX a.Text b.Text) && true))) = decide (a = b) := by
  rw [HN]
  obtain ⟨a1, a2, a3⟩ := a
  obtain ⟨b1, b2, b3⟩ := b
  by_cases h1 : a1 = b1 <;> by_cases h2 : a2 = b2 <;> by_cases h3 : a3 = b3 <;> simp [h1, h2, h3]

def yE (v : aB) : Bool := decide (v.Kind = 1) && lX v.Text (⟨#[]⟩ : ByteArray)

def xW (v : aB) : Bool := ((decide (v.Kind = 2)) && (decide (v.Num = 0))) && (decide (((ByteArray.size v.Text : Nat) : Int) ≤ 64))

def pH (v : aB) : Bool := yE v || xW v

def kY (r : List aB) : Bool := decide (r.length ≤ 8) && r.all pH

theorem of_eq (v : aB) : kP v = some (if yE v then (.k_number v.Num, true) else if xW v then (.k_words v.Text, true) else (.none_, false)) := by
  unfold kP yE xW
  cases (decide (v.Kind = 1) && lX v.Text (⟨#[]⟩ : ByteArray)) <;> cases (((decide (v.Kind = 2)) && (decide (v.Num = 0))) && (decide (((ByteArray.size v.Text : Nat) : Int) ≤ 64))) <;> rfl

theorem WT (v : aB) : sQ v = some (pH v) := by
  unfold sQ pH
  rw [of_eq]
  cases yE v <;> cases xW v <;> rfl

theorem ES (v : aB) : oD v = some (pH v) := by
  unfold oD pH yE xW
  by_cases h : v.Kind = 1
  · simp [h]
  · simp [h]

theorem JY {l : List aB} {f : aB → Option Bool} {g : aB → Bool} (hl : l.length ≤ 1099511627776) (hf : ∀ x ∈ l, f x = some (g x)) : eR l f = some (l.any g) := by
  unfold eR gV gR
  obtain ⟨x, e, hx⟩ := KG hl hf l 0 rfl (Nat.zero_le _)
  have e' : lp (fun s => gQ f l (l.length : Nat) s) 0 = some x := e
  rw [e']
  rcases hx with ⟨rfl, h⟩ | ⟨i, rfl, _, _, h, _⟩
  · simp [eX, h]
  · simp [h]

theorem GG (r : List aB) : rL r = some (kY r) := by
  unfold rL kY
  by_cases h : r.length ≤ 8
  · have h1 : decide ((8 : Int) < ((r.length : Nat) : Int)) = false := by simp; omega
    rw [h1, cond_false, JY (g := fun v => !pH v) (by omega) (fun x _ => by simp [sO, WT])]
    simp only [Option.bind_some, h, decide_true, Bool.true_and]
    congr 1
    rw [List.all_eq_not_any_not]
  · have h1 : decide ((8 : Int) < ((r.length : Nat) : Int)) = true := by simp; omega
    rw [h1, cond_true]
    simp [h]

theorem FX (r : List aB) (hl : r.length ≤ 1099511627776 * 16) : qK r = some (kY r) := by
  unfold qK uM
  have hl9 : (r.take 9).length ≤ 9 := by simp; omega
  rw [SG (l := r.take 9) (fun i => i) (fun v => !pH v) (.inr false) (.inl ()) ?_ ?_]
  · unfold kY
    by_cases h : r.length ≤ 8
    · have ht : r.take 9 = r := List.take_of_length_le (by omega)
      rw [ht, List.all_eq_not_any_not]
      cases h1 : (r.any fun v => !pH v)
      · have : ((r.length : Nat) : Int) ≤ 8 := by omega
        simp [oP, this, h]
      · simp
    · cases h1 : ((r.take 9).any fun v => !pH v)
      · have : ¬ ((r.length : Nat) : Int) ≤ 8 := by omega
        simp [oP, this, h]
      · simp [h]
  · intro i a ha
    have hi : i < (r.take 9).length := (List.getElem?_eq_some_iff.1 ha).1
    have hi2 : i < r.length := by simp at hi; omega
    have ha2 : r[i]? = some a := by
      rw [List.getElem?_take] at ha
      split at ha
      · exact ha
      · cases ha
    obtain ⟨d1, d2, d3, d4⟩ := idx ha2 (by omega)
    have h9 : decide ((i : Int) < 9) = true := by simp; omega
    show mZ r i = _
    simp only [mZ, d1, h9, Bool.and_self, cond_true, aK d2, d3, d4, ES, Option.bind_some]
    cases pH a <;> simp
  · show mZ r _ = _
    have : ((decide ((((r.take 9).length : Nat) : Int) < ((r.length : Nat) : Int))) && (decide ((((r.take 9).length : Nat) : Int) < 9))) = false := by
      rw [Bool.and_eq_false_iff]
      by_cases h : r.length ≤ 8
      · left; simp; omega
      · right; simp; omega
    simp only [mZ, this, cond_false]

theorem OZ {α : Type} [DecidableEq α] {f g : List α} {body : Int → Option (Int ⊕ (Unit ⊕ Bool))} (he : f.length = g.length)
    (hb : ∀ (i : Nat) a b, f[i]? = some a → g[i]? = some b → body i = some (if a = b then .inl ((i + 1 : Nat) : Int) else .inr (.inr false)))
    (hend : body (f.length : Nat) = some (.inr (.inl ()))) : ∀ (m k : Nat), f.length - k = m → k ≤ f.length → lp body (k : Int) = some (if f.drop k = g.drop k then .inl () else .inr false)
  | 0, k, hm, hk => by
    have : k = f.length := by omega
    subst this
    rw [List.drop_length, he, List.drop_length, if_pos rfl]
    rw [← he]
    exact cS hend
  | m + 1, k, hm, hk => by
    have h1 : k < f.length := by omega
    have h2 : k < g.length := by omega
    have hbk := hb k _ _ (List.getElem?_eq_getElem h1) (List.getElem?_eq_getElem h2)
    have e1 : f.drop k = f[k] :: f.drop (k + 1) := List.drop_eq_getElem_cons h1
    have e2 : g.drop k = g[k] :: g.drop (k + 1) := List.drop_eq_getElem_cons h2
    have hiff : (f.drop k = g.drop k) ↔ (f[k] = g[k] ∧ f.drop (k + 1) = g.drop (k + 1)) := by rw [e1, e2, List.cons.injEq]
    by_cases h : f[k] = g[k]
    · rw [if_pos h] at hbk
      rw [fH hbk, OZ he hb hend m (k + 1) (by omega) (by omega)]
      simp only [hiff, h, true_and]
    · rw [if_neg h] at hbk
      rw [cS hbk]
      simp only [hiff, h, false_and, if_false]

theorem RW {α : Type} {f g : List α} (h : f.length ≠ g.length) : (!decide (((f.length : Nat) : Int) = ((g.length : Nat) : Int))) = true := by simp; omega

theorem KJ {α : Type} {f g : List α} (h : f.length = g.length) : (!decide (((f.length : Nat) : Int) = ((g.length : Nat) : Int))) = false := by simp [h]

theorem PU (a b : List aB) (hl : a.length ≤ 17592186044416) : uG a b = some (decide (a = b)) := by
  unfold uG iY
  by_cases he : a.length = b.length
  · rw [KJ he, cond_false]
    unfold iR
    have := OZ (f := a) (g := b) (body := fun s => eS a b (a.length : Nat) s) he ?_ ?_ a.length 0 rfl (Nat.zero_le _)
    · simp only [Int.natCast_zero, List.drop_zero] at this
      rw [this]
      by_cases h : a = b <;> simp [h, fW]
    · intro i x y hx hy
      obtain ⟨d1, d2, d3, d4⟩ := idx hx (by omega)
      obtain ⟨_, e2, e3, _⟩ := idx hy (by omega)
      simp only [eS, d1, cond_true, aK d2, aK e2, d3, e3, d4, veq]
      by_cases h : x = y <;> simp [h]
    · simp only [eS, jT, cond_false]
  · rw [RW he, cond_true]
    have : a ≠ b := fun h => he (by rw [h])
    simp [this]

theorem vS (a b : List aB) (hl : a.length ≤ 17592186044416) : nE a b = some (decide (a = b)) := by
  unfold nE
  by_cases he : a.length = b.length
  · rw [KJ he, cond_false]
    unfold sU
    have := OZ (f := a) (g := b) (body := fun s => nS a b s) he ?_ ?_ a.length 0 rfl (Nat.zero_le _)
    · simp only [Int.natCast_zero, List.drop_zero] at this
      rw [this]
      by_cases h : a = b <;> simp [h, pP]
    · intro i x y hx hy
      obtain ⟨d1, d2, d3, d4⟩ := idx hx (by omega)
      obtain ⟨_, e2, e3, _⟩ := idx hy (by omega)
      simp only [nS, d1, cond_true, aK d2, aK e2, d3, e3, d4, veq]
      by_cases h : x = y <;> simp [h]
    · simp only [nS, jT, cond_false]
  · rw [RW he, cond_true]
    have : a ≠ b := fun h => he (by rw [h])
    simp [this]

structure AS {α : Type} (c : α → α → Int) : Prop where
  eq : ∀ a b, c a b = 0 ↔ a = b
  anti : ∀ a b, c a b < 0 ↔ 0 < c b a
  trans : ∀ a b d, c a b < 0 → c b d < 0 → c a d < 0

def lZ (x y : Int) : Int := if x < y then -1 else if y < x then 1 else 0

theorem wT : AS lZ where
  eq a b := by unfold lZ; (repeat' split) <;> omega
  anti a b := by unfold lZ; (repeat' split) <;> omega
  trans a b d := by unfold lZ; (repeat' split) <;> omega

def gT {α : Type} [DecidableEq α] (c : α → α → Int) : List α → List α → Int
  | [], [] => 0
  | [], _ :: _ => -1
  | _ :: _, [] => 1
  | a :: r, b :: s => if a = b then gT c r s else c a b

theorem AS.list {α : Type} [DecidableEq α] {c : α → α → Int} (h : AS c) : AS (gT c) where
  eq := by
    intro a
    induction a with
    | nil => intro b; cases b <;> simp [gT]
    | cons x r ih =>
      intro b
      cases b with
      | nil => simp [gT]
      | cons y s =>
        unfold gT
        split
        · rename_i e; subst e; rw [ih]; simp
        · rename_i e
          have := h.eq x y
          constructor
          · intro h0; exact absurd (this.1 h0) e
          · intro h0; cases h0; exact absurd rfl e
  anti := by
    intro a
    induction a with
    | nil => intro b; cases b <;> simp [gT]
    | cons x r ih =>
      intro b
      cases b with
      | nil => simp [gT]
      | cons y s =>
        unfold gT
        by_cases e : x = y
        · subst e; simp only [if_true]; exact ih s
        · rw [if_neg e, if_neg (fun e' => e e'.symm)]; exact h.anti x y
  trans := by
    intro a
    induction a with
    | nil =>
      intro b d
      cases b <;> cases d <;> simp [gT]
    | cons x r ih =>
      intro b d
      cases b with
      | nil => simp [gT]
      | cons y s =>
        cases d with
        | nil => simp [gT]
        | cons z t =>
          unfold gT
          by_cases e1 : x = y
          · subst e1
            rw [if_pos rfl]
            by_cases e2 : x = z
            · subst e2; rw [if_pos rfl, if_pos rfl]; exact ih s t
            · rw [if_neg e2, if_neg e2]; exact fun _ h => h
          · rw [if_neg e1]
            by_cases e2 : y = z
            · have hz : ¬ x = z := fun e => e1 (e.trans e2.symm)
              intro h _
              rw [if_neg hz, ← e2]; exact h
            · rw [if_neg e2]
              intro h1 h2
              by_cases e3 : x = z
              · subst e3
                have h3 := (h.anti x y).1 h1
                omega
              · rw [if_neg e3]; exact h.trans x y z h1 h2

def vV (a b : UInt8) : Int := if a < b then -1 else if b < a then 1 else 0

theorem DC : AS vV where
  eq a b := by
    unfold vV
    constructor
    · intro h
      split at h
      · cases h
      · split at h
        · cases h
        · rename_i h1 h2
          rw [UInt8.lt_iff_toNat_lt] at h1 h2
          exact UInt8.toNat_inj.1 (by omega)
    · rintro rfl
      have : ¬ a < a := by rw [UInt8.lt_iff_toNat_lt]; omega
      simp [this]
  anti a b := by
    unfold vV
    simp only [UInt8.lt_iff_toNat_lt]
    (repeat' split) <;> omega
  trans a b d := by
    unfold vV
    simp only [UInt8.lt_iff_toNat_lt]
    (repeat' split) <;> omega

theorem xL : ∀ (a b : List UInt8), Go.Lib.compareBytes a b = gT vV a b
  | [], [] => rfl
  | [], _ :: _ => rfl
  | _ :: _, [] => rfl
  | a :: r, b :: s => by
    unfold Go.Lib.compareBytes gT
    rw [xL r s]
    by_cases e : a = b
    · subst e
      have : ¬ a < a := by rw [UInt8.lt_iff_toNat_lt]; omega
      simp [this]
    · rw [if_neg e]
      unfold vV
      have : ¬ (¬ a < b ∧ ¬ b < a) := by
        rintro ⟨h1, h2⟩
        rw [UInt8.lt_iff_toNat_lt] at h1 h2
        exact e (UInt8.toNat_inj.1 (by omega))
      by_cases h1 : a < b
      · simp [h1]
      · have h2 : b < a := Classical.byContradiction fun h2 => this ⟨h1, h2⟩
        simp [h1, h2]

def FZ (a b : ByteArray) : Int := gT vV a.data.toList b.data.toList

theorem WI (a b : ByteArray) : GL a b = FZ a b := xL _ _

theorem data_inj {x y : ByteArray} (h : x.data.toList = y.data.toList) : x = y := by
  cases x; cases y
  congr 1
  exact Array.toList_inj.1 h

theorem zJ : AS FZ where
  eq a b := by unfold FZ; rw [(DC.list).eq]; exact ⟨data_inj, fun h => by rw [h]⟩
  anti a b := (DC.list).anti _ _
  trans a b d := (DC.list).trans _ _ _

def tN (a b : aB) : Int := if a.Kind = b.Kind then (if a.Num = b.Num then FZ a.Text b.Text else lZ a.Num b.Num) else lZ a.Kind b.Kind

theorem zL : AS tN where
  eq a b := by
    obtain ⟨a1, a2, a3⟩ := a
    obtain ⟨b1, b2, b3⟩ := b
    unfold tN
    simp only [aB.mk.injEq]
    by_cases h1 : a1 = b1
    · by_cases h2 : a2 = b2
      · simp [h1, h2, zJ.eq]
      · simp [h1, h2, wT.eq]
    · simp [h1, wT.eq]
  anti a b := by
    unfold tN
    by_cases h1 : a.Kind = b.Kind
    · rw [if_pos h1, if_pos h1.symm]
      by_cases h2 : a.Num = b.Num
      · rw [if_pos h2, if_pos h2.symm]; exact zJ.anti _ _
      · rw [if_neg h2, if_neg (fun h => h2 h.symm)]; exact wT.anti _ _
    · rw [if_neg h1, if_neg (fun h => h1 h.symm)]; exact wT.anti _ _
  trans a b d := by
    unfold tN
    intro h1 h2
    have lt : ∀ {x y : Int}, lZ x y < 0 → x < y := fun {x y} h => by unfold lZ at h; split at h <;> (try split at h) <;> omega
    have mk : ∀ {x y : Int}, x < y → lZ x y < 0 := fun {x y} h => by unfold lZ; rw [if_pos h]; omega
    by_cases e1 : a.Kind = b.Kind
    · rw [if_pos e1] at h1
      by_cases e2 : b.Kind = d.Kind
      · rw [if_pos e2] at h2
        rw [if_pos (e1.trans e2)]
        by_cases f1 : a.Num = b.Num
        · rw [if_pos f1] at h1
          by_cases f2 : b.Num = d.Num
          · rw [if_pos f2] at h2
            rw [if_pos (f1.trans f2)]
            exact zJ.trans _ _ _ h1 h2
          · rw [if_neg f2] at h2
            rw [f1, if_neg f2]; exact h2
        · rw [if_neg f1] at h1
          have g1 := lt h1
          by_cases f2 : b.Num = d.Num
          · rw [← f2, if_neg f1]; exact h1
          · rw [if_neg f2] at h2
            have g2 := lt h2
            rw [if_neg (by omega)]
            exact mk (by omega)
      · rw [if_neg e2] at h2
        rw [e1, if_neg e2]; exact h2
    · rw [if_neg e1] at h1
      have g1 := lt h1
      by_cases e2 : b.Kind = d.Kind
      · rw [← e2, if_neg e1]; exact h1
      · rw [if_neg e2] at h2
        have g2 := lt h2
        rw [if_neg (by omega)]
        exact mk (by omega)

def jB (a b : List aB) : Int := gT tN a b

theorem tM : AS jB := zL.list

end Go.Abs
namespace Go.Abs
open Go
theorem TB (x y : Int) : mM x y = some (lZ x y) := by
  unfold mM kK lZ
  by_cases h1 : x < y
  · simp [h1]
  · by_cases h2 : y < x <;> simp [h1, h2]

theorem RH (x y : Int) : fJ x y = some (lZ x y) := by
  unfold fJ jX lZ
  by_cases h1 : x < y
  · simp [h1]
  · by_cases h2 : y < x <;> simp [h1, h2]

theorem wJ {v : aB} (h : yE v = true) : v.Kind = 1 ∧ v.Text = (⟨#[]⟩ : ByteArray) := by
  simp only [yE, HN, Bool.and_eq_true, decide_eq_true_eq] at h; exact h

theorem uQ {v : aB} (h : xW v = true) : v.Kind = 2 ∧ v.Num = 0 ∧ v.Text.size ≤ 64 := by
  simp only [xW, Bool.and_eq_true, decide_eq_true_eq] at h; exact ⟨h.1.1, h.1.2, by omega⟩

theorem BT {v : aB} (h : pH v = true) : yE v = true ∨ (yE v = false ∧ xW v = true) := by
  unfold pH at h
  cases hn : yE v
  · rw [hn] at h; exact .inr ⟨rfl, by simpa using h⟩
  · exact .inl rfl

theorem QY (a : ByteArray) : FZ a a = 0 := (zJ.eq a a).2 rfl

theorem xQ (a : Int) : lZ a a = 0 := (wT.eq a a).2 rfl

theorem SK {a b : aB} (ha : pH a = true) (hb : pH b = true) : nU a b = some (tN a b) := by
  unfold nU
  simp only [of_eq, Option.bind_some]
  rcases BT ha with h1 | ⟨h1, h1'⟩ <;> rcases BT hb with h2 | ⟨h2, h2'⟩
  · obtain ⟨k1, t1⟩ := wJ h1
    obtain ⟨k2, t2⟩ := wJ h2
    simp only [h1, h2, if_true, Bool.not_true, Bool.or_self, cond_false, RH, Option.bind_some]
    unfold tN
    rw [k1, k2, t1, t2, if_pos rfl, QY]
    by_cases hn : a.Num = b.Num
    · rw [if_pos hn, hn, xQ]
    · rw [if_neg hn]
  · obtain ⟨k1, t1⟩ := wJ h1
    obtain ⟨k2, n2, _⟩ := uQ h2'
    simp only [h1, h2, h2', if_true, Bool.false_eq_true, if_false, Bool.not_true, Bool.or_self, cond_false]
    unfold tN
    rw [k1, k2]; rfl
  · obtain ⟨k1, n1, _⟩ := uQ h1'
    obtain ⟨k2, t2⟩ := wJ h2
    simp only [h1, h1', h2, if_true, Bool.false_eq_true, if_false, Bool.not_true, Bool.or_self, cond_false]
    unfold tN
    rw [k1, k2]; rfl
  · obtain ⟨k1, n1, _⟩ := uQ h1'
    obtain ⟨k2, n2, _⟩ := uQ h2'
    simp only [h1, h1', h2, h2', if_true, Bool.false_eq_true, if_false, Bool.not_true, Bool.or_self, cond_false]
    unfold tN lF iX
    rw [k1, k2, n1, n2, if_pos rfl, if_pos rfl]
    simp [WI]

theorem uT {r : List aB} (h : kY r = true) : r.length ≤ 8 ∧ ∀ v ∈ r, pH v = true := by
  simp only [kY, Bool.and_eq_true, decide_eq_true_eq, List.all_eq_true] at h; exact h

theorem KH {a b : List aB} {k : Nat} (hk : k = a.length ∨ k = b.length) (h1 : k ≤ a.length) (h2 : k ≤ b.length) : jB (a.drop k) (b.drop k) = lZ a.length b.length := by
  rcases hk with rfl | rfl
  · rw [List.drop_length]
    by_cases h : a.length = b.length
    · rw [h, List.drop_length, xQ]; rfl
    · rw [List.drop_eq_getElem_cons (by omega)]
      show (-1 : Int) = _
      unfold lZ; rw [if_pos (by omega)]
  · rw [List.drop_length]
    by_cases h : a.length = b.length
    · rw [← h, List.drop_length, xQ]; rfl
    · rw [List.drop_eq_getElem_cons (by omega)]
      show (1 : Int) = _
      unfold lZ; rw [if_neg (by omega), if_pos (by omega)]

theorem NO {a b : List aB} (hl : a.length ≤ 8) (hlb : b.length ≤ 8) (n : Nat) (hn : n = min a.length b.length) : ∀ (m k : Nat), n - k = m → k ≤ n →
    ∃ x, lp (fun s : Int × Int => cC (fun st y0 => (jH y0 st b).bind fun o => some (o.2, o.1)) (a.take n) (n : Nat) s.1 s.2) ((k : Int) - 1, (k : Int)) = some x ∧
      ((∃ sg, x = .inl sg ∧ jB (a.drop k) (b.drop k) = lZ a.length b.length) ∨
        (∃ i : Nat, x = .inr ((i : Int), (i : Int)) ∧ i < a.length ∧ i < b.length ∧ jB (a.drop k) (b.drop k) = tN (a.getD i default) (b.getD i default)))
  | 0, k, hm, hk => by
    have : k = n := by omega
    subst this
    refine ⟨.inl ((k : Int) - 1), cS ?_, .inl ⟨_, rfl, KH (by omega) (by omega) (by omega)⟩⟩
    show cC _ _ _ _ _ = _
    simp only [cC, jT, cond_false]
  | m + 1, k, hm, hk => by
    have h1 : k < a.length := by omega
    have h2 : k < b.length := by omega
    have ht : (a.take n)[k]? = some a[k] := by
      rw [List.getElem?_take_of_lt (by omega)]; exact List.getElem?_eq_getElem h1
    obtain ⟨d1, d2, d3, d4⟩ := idx ht (by simp; omega)
    have hlt : (a.take n).length = n := by simp; omega
    rw [hlt] at d1 d2
    obtain ⟨_, e2, e3, _⟩ := idx (List.getElem?_eq_getElem h2) (by omega)
    have hw : IntKind.i64.wrap ((k : Int) - 1 + 1) = (k : Int) := by rw [iG (by omega) (by omega)]; omega
    have hb : (fun s : Int × Int => cC (fun st y0 => (jH y0 st b).bind fun o => some (o.2, o.1)) (a.take n) (n : Nat) s.1 s.2) ((k : Int) - 1, (k : Int)) =
        some (if a[k] = b[k] then .inl ((k : Int), ((k + 1 : Nat) : Int)) else .inr (.inr ((k : Int), (k : Int)))) := by
      show cC _ _ _ _ _ = _
      simp only [cC, d1, cond_true, hlt, aK d2, d3, d4, jH, hw, aK e2, e3, veq, Option.bind_some]
      by_cases h : a[k] = b[k] <;> simp [h]
    have ea : a.drop k = a[k] :: a.drop (k + 1) := List.drop_eq_getElem_cons h1
    have eb : b.drop k = b[k] :: b.drop (k + 1) := List.drop_eq_getElem_cons h2
    by_cases h : a[k] = b[k]
    · rw [if_pos h] at hb
      obtain ⟨x, e, hx⟩ := NO hl hlb n hn m (k + 1) (by omega) (by omega)
      have hc : jB (a.drop k) (b.drop k) = jB (a.drop (k + 1)) (b.drop (k + 1)) := by
        rw [ea, eb]; unfold jB; rw [gT, if_pos h]
      refine ⟨x, ?_, by rw [hc]; exact hx⟩
      rw [fH hb]
      rw [show ((k + 1 : Nat) : Int) - 1 = (k : Int) by omega] at e
      exact e
    · rw [if_neg h] at hb
      refine ⟨_, cS hb, .inr ⟨k, rfl, h1, h2, ?_⟩⟩
      rw [ea, eb]; unfold jB; rw [gT, if_neg h]
      simp [List.getD_eq_getElem?_getD, h1, h2]

theorem SN (a b : List aB) : pU a b = some (if kY a && kY b then jB a b else 0) := by
  unfold pU
  rw [GG]
  simp only [Option.bind_some]
  cases ha : kY a
  · simp [dD]
  · simp only [Bool.not_true, Bool.not_false, dD, cond_true, GG, Option.bind_some, Bool.false_or]
    cases hb : kY b
    · simp
    · obtain ⟨la, ma⟩ := uT ha
      obtain ⟨lb, mb⟩ := uT hb
      have hif : (if ((List.length b : Nat) : Int) < ((List.length a : Nat) : Int) then ((List.length b : Nat) : Int) else ((List.length a : Nat) : Int)) = ((min a.length b.length : Nat) : Int) := by split <;> omega
      have hlt : (a.take (min a.length b.length)).length = min a.length b.length := by rw [List.length_take]; omega
      simp only [Bool.not_true, cond_false, hif, Int.toNat_natCast, qO, Option.bind_some, gK, gH, hlt, Bool.and_self, if_true]
      rw [aK ⟨by omega, by omega⟩]
      obtain ⟨x, e, hx⟩ := NO (a := a) (b := b) la lb _ rfl _ 0 rfl (Nat.zero_le _)
      have e' : lp (fun s : Int × Int => cC (fun st y0 => (jH y0 st b).bind fun o => some (o.2, o.1)) (a.take (min a.length b.length)) (min a.length b.length : Nat) s.1 s.2) ((-1 : Int), (0 : Int)) = some x := e
      rw [e']
      simp only [List.drop_zero] at hx
      rcases hx with ⟨sg, rfl, h⟩ | ⟨i, rfl, h1, h2, h⟩
      · simp [eP, TB, h]
      · have hi : decide ((i : Int) < 0) = false := by simp
        simp only [Option.bind_some, Sum.elim_inr, hi, cond_false, Int.toNat_natCast]
        rw [aK ⟨by omega, by omega⟩, aK ⟨by omega, by omega⟩]
        have g1 : a.getD i default ∈ a := by simp [List.getD_eq_getElem?_getD, h1]
        have g2 : b.getD i default ∈ b := by simp [List.getD_eq_getElem?_getD, h2]
        rw [SK (ma _ g1) (mb _ g2), h]
        simp only [Option.bind_some]

theorem VO {s : ByteArray} {i : Nat} (h : i < s.data.toList.length) : bt s (i : Int) = ((s.data.toList[i]).toNat : Int) := by
  have h' : i < s.data.size := by simpa using h
  unfold bt
  simp only [Int.toNat_natCast, Array.getElem_toList]
  rw [Array.getD_eq_getD_getElem?, Array.getElem?_eq_getElem h']
  rfl

theorem LH {a b : aB} (ha : a.Text.size ≤ 64) (hb : b.Text.size ≤ 64) : ∀ (m k : Nat), min a.Text.size b.Text.size - k = m → k ≤ min a.Text.size b.Text.size →
    ∃ x, lp (fun s => iA a b s) (k : Int) = some x ∧
      ((x = .inl () ∧ gT vV (a.Text.data.toList.drop k) (b.Text.data.toList.drop k) = lZ a.Text.size b.Text.size) ∨ (∃ v, x = .inr v ∧ gT vV (a.Text.data.toList.drop k) (b.Text.data.toList.drop k) = v))
  | 0, k, hm, hk => by
    have hsa : a.Text.data.toList.length = a.Text.size := by rw [Array.length_toList]; rfl
    have hsb : b.Text.data.toList.length = b.Text.size := by rw [Array.length_toList]; rfl
    refine ⟨.inl (), cS ?_, .inl ⟨rfl, ?_⟩⟩
    · show iA a b _ = _
      have : ((decide ((k : Int) < ((ByteArray.size a.Text : Nat) : Int))) && (decide ((k : Int) < ((ByteArray.size b.Text : Nat) : Int)))) = false := by
        rw [Bool.and_eq_false_iff]
        simp only [decide_eq_false_iff_not]
        omega
      simp only [iA, this, cond_false]
    · by_cases h1 : a.Text.size ≤ k
      · rw [List.drop_eq_nil_of_le (by omega)]
        by_cases h2 : b.Text.size ≤ k
        · rw [List.drop_eq_nil_of_le (by omega)]
          have : a.Text.size = b.Text.size := by omega
          rw [this, xQ]; rfl
        · rw [List.drop_eq_getElem_cons (by omega)]
          show (-1 : Int) = _
          unfold lZ; rw [if_pos (by omega)]
      · have h2 : b.Text.size ≤ k := by omega
        rw [@List.drop_eq_nil_of_le _ b.Text.data.toList k (by omega), List.drop_eq_getElem_cons (by omega)]
        show (1 : Int) = _
        unfold lZ; rw [if_neg (by omega), if_pos (by omega)]
  | m + 1, k, hm, hk => by
    have hsa : a.Text.data.toList.length = a.Text.size := by rw [Array.length_toList]; rfl
    have hsb : b.Text.data.toList.length = b.Text.size := by rw [Array.length_toList]; rfl
    have h1 : k < a.Text.data.toList.length := by omega
    have h2 : k < b.Text.data.toList.length := by omega
    have c1 : decide ((k : Int) < ((ByteArray.size a.Text : Nat) : Int)) = true := by simp; omega
    have c2 : decide ((k : Int) < ((ByteArray.size b.Text : Nat) : Int)) = true := by simp; omega
    have p1 : 0 ≤ (k : Int) ∧ (k : Int) < ((ByteArray.size a.Text : Nat) : Int) := ⟨by omega, by omega⟩
    have p2 : 0 ≤ (k : Int) ∧ (k : Int) < ((ByteArray.size b.Text : Nat) : Int) := ⟨by omega, by omega⟩
    have hw : IntKind.i64.wrap ((k : Int) + 1) = ((k + 1 : Nat) : Int) := by rw [iG (by omega) (by omega)]; omega
    have ea := List.drop_eq_getElem_cons h1
    have eb := List.drop_eq_getElem_cons h2
    have hb' : iA a b (k : Int) = some (if a.Text.data.toList[k] = b.Text.data.toList[k] then .inl ((k + 1 : Nat) : Int) else .inr (.inr (vV a.Text.data.toList[k] b.Text.data.toList[k]))) := by
      simp only [iA, c1, c2, Bool.and_self, cond_true, aK p1, aK p2, VO h1, VO h2, hw]
      generalize a.Text.data.toList[k] = x
      generalize b.Text.data.toList[k] = y
      by_cases e : x = y
      · subst e; simp
      · have e' : ¬ ((x.toNat : Int) = (y.toNat : Int)) := fun h => e (UInt8.toNat_inj.1 (by omega))
        simp only [e', decide_false, Bool.not_false, cond_true, if_neg e]
        unfold vV
        simp only [UInt8.lt_iff_toNat_lt]
        by_cases l : x.toNat < y.toNat
        · have : ((x.toNat : Int) < (y.toNat : Int)) := by omega
          simp [l]
        · have l2 : y.toNat < x.toNat := by
            rcases Nat.lt_or_ge y.toNat x.toNat with h | h
            · exact h
            · exact absurd (UInt8.toNat_inj.1 (by omega)) e
          simp [l, l2]
    by_cases e : a.Text.data.toList[k] = b.Text.data.toList[k]
    · rw [if_pos e] at hb'
      obtain ⟨x, hx1, hx2⟩ := LH ha hb m (k + 1) (by omega) (by omega)
      refine ⟨x, by rw [fH (show (fun s => iA a b s) (k : Int) = _ from hb')]; exact hx1, ?_⟩
      rw [ea, eb, gT, if_pos e]; exact hx2
    · rw [if_neg e] at hb'
      refine ⟨_, cS (show (fun s => iA a b s) (k : Int) = _ from hb'), .inr ⟨_, rfl, ?_⟩⟩
      rw [ea, eb, gT, if_neg e]

theorem HM {v : aB} (h : pH v = true) : v.Text.size ≤ 64 := by
  rcases BT h with h | ⟨_, h⟩
  · rw [(wJ h).2]; decide
  · exact (uQ h).2.2

theorem HW {v : aB} (h : pH v = true) : v.Kind = 1 ∨ v.Kind = 2 := by
  rcases BT h with h | ⟨_, h⟩
  · exact .inl (wJ h).1
  · exact .inr (uQ h).1

theorem LD {a b : aB} (ha : pH a = true) (hb : pH b = true) : nX a b = some (tN a b) := by
  unfold nX
  simp only [ES, ha, hb, Option.bind_some, Bool.not_true, Bool.not_false, dD, cond_true, Bool.or_self, cond_false]
  unfold tN
  by_cases hk : a.Kind = b.Kind
  · rw [if_pos hk]
    by_cases hn : a.Num = b.Num
    · rw [if_pos hn]
      simp only [hk, hn, decide_true, Bool.not_true, cond_false, oY]
      obtain ⟨x, e, hx⟩ := LH (HM ha) (HM hb) _ 0 rfl (Nat.zero_le _)
      simp only [Int.natCast_zero, List.drop_zero] at e hx
      rw [e]
      have ht : FZ a.Text b.Text = gT vV a.Text.data.toList b.Text.data.toList := rfl
      rcases hx with ⟨rfl, h⟩ | ⟨v, rfl, h⟩
      · rw [ht, h]
        simp only [Option.bind_some, Sum.elim_inl, nF]
        unfold lZ
        by_cases h1 : a.Text.size = b.Text.size
        · have h1' : ((a.Text.size : Nat) : Int) = ((b.Text.size : Nat) : Int) := by omega
          simp [h1']
        · have h1' : ¬ ((a.Text.size : Nat) : Int) = ((b.Text.size : Nat) : Int) := by omega
          by_cases h2 : ((a.Text.size : Nat) : Int) < ((b.Text.size : Nat) : Int)
          · simp only [h1', h2, decide_false, decide_true, Bool.not_false, cond_true, if_true]
          · have h3 : ((b.Text.size : Nat) : Int) < ((a.Text.size : Nat) : Int) := by omega
            simp only [h1', h2, h3, decide_false, Bool.not_false, cond_true, cond_false, if_true, if_false]
      · rw [ht, h]; rfl
    · rw [if_neg hn]
      simp only [hk, hn, decide_true, decide_false, Bool.not_true, Bool.not_false, cond_false, cond_true]
      unfold lZ
      by_cases h1 : a.Num < b.Num
      · simp [h1]
      · have h2 : b.Num < a.Num := by omega
        simp [h1, h2]
  · rw [if_neg hk]
    simp only [hk, decide_false, Bool.not_false, cond_true]
    rcases HW ha with h1 | h1 <;> rcases HW hb with h2 | h2
    · exact absurd (h1.trans h2.symm) hk
    · rw [h1, h2]; rfl
    · rw [h1, h2]; rfl
    · exact absurd (h1.trans h2.symm) hk

theorem HX {a b : List aB} (ha : kY a = true) (hb : kY b = true) : ∀ (m k : Nat), min a.length b.length - k = m → k ≤ min a.length b.length →
    ∃ x, lp (fun s => hU a b s) (k : Int) = some x ∧ ((x = .inl () ∧ jB (a.drop k) (b.drop k) = lZ a.length b.length) ∨ (∃ v, x = .inr v ∧ jB (a.drop k) (b.drop k) = v))
  | 0, k, hm, hk => by
    refine ⟨.inl (), cS ?_, .inl ⟨rfl, KH (by omega) (by omega) (by omega)⟩⟩
    show hU a b _ = _
    have : ((decide ((k : Int) < ((a.length : Nat) : Int))) && (decide ((k : Int) < ((b.length : Nat) : Int)))) = false := by
      rw [Bool.and_eq_false_iff]
      simp only [decide_eq_false_iff_not]
      omega
    simp only [hU, this, cond_false]
  | m + 1, k, hm, hk => by
    obtain ⟨la, ma⟩ := uT ha
    obtain ⟨lb, mb⟩ := uT hb
    have h1 : k < a.length := by omega
    have h2 : k < b.length := by omega
    obtain ⟨d1, d2, d3, d4⟩ := idx (List.getElem?_eq_getElem h1) (by omega)
    obtain ⟨e1, e2, e3, _⟩ := idx (List.getElem?_eq_getElem h2) (by omega)
    have ea := List.drop_eq_getElem_cons h1
    have eb := List.drop_eq_getElem_cons h2
    have hb' : hU a b (k : Int) = some (if a[k] = b[k] then .inl ((k + 1 : Nat) : Int) else .inr (.inr (tN a[k] b[k]))) := by
      simp only [hU, d1, e1, Bool.and_self, cond_true, aK d2, aK e2, d3, e3, d4, LD (ma _ (List.getElem_mem h1)) (mb _ (List.getElem_mem h2)), Option.bind_some]
      by_cases h : a[k] = b[k]
      · have := (zL.eq a[k] b[k]).2 h
        simp [h, (zL.eq b[k] b[k]).2 rfl]
      · have : ¬ tN a[k] b[k] = 0 := fun h' => h ((zL.eq _ _).1 h')
        simp [h, this]
    by_cases h : a[k] = b[k]
    · rw [if_pos h] at hb'
      obtain ⟨x, hx1, hx2⟩ := HX ha hb m (k + 1) (by omega) (by omega)
      refine ⟨x, by rw [fH (show (fun s => hU a b s) (k : Int) = _ from hb')]; exact hx1, ?_⟩
      have hc : jB (a.drop k) (b.drop k) = jB (a.drop (k + 1)) (b.drop (k + 1)) := by
        rw [ea, eb]; unfold jB; rw [gT, if_pos h]
      rw [hc]; exact hx2
    · rw [if_neg h] at hb'
      refine ⟨_, cS (show (fun s => hU a b s) (k : Int) = _ from hb'), .inr ⟨_, rfl, ?_⟩⟩
      rw [ea, eb]; unfold jB; rw [gT, if_neg h]

theorem JE (a b : List aB) (hla : a.length ≤ 17592186044416) (hlb : b.length ≤ 17592186044416) : nV a b = some (if kY a && kY b then jB a b else 0) := by
  unfold nV
  rw [FX a (by omega)]
  simp only [Option.bind_some]
  cases ha : kY a
  · simp [dD]
  · simp only [Bool.not_true, Bool.not_false, dD, cond_true, FX b (by omega), Option.bind_some, Bool.false_or]
    cases hb : kY b
    · simp
    · simp only [Bool.not_true, cond_false, pF, Bool.and_self, if_true]
      obtain ⟨x, e, hx⟩ := HX ha hb _ 0 rfl (Nat.zero_le _)
      simp only [Int.natCast_zero, List.drop_zero] at e hx
      rw [e]
      rcases hx with ⟨rfl, h⟩ | ⟨v, rfl, h⟩
      · rw [h]
        simp only [Option.bind_some, Sum.elim_inl, nB]
        unfold lZ
        by_cases h1 : a.length < b.length
        · simp [h1]
        · by_cases h2 : b.length < a.length <;> simp [h1, h2]
      · rw [h]; rfl

end Go.Abs
namespace Go.Abs
open Go
def jE (e : aL) : aI := ⟨e.At, e.Net⟩

def gA (r : List aB) (f : List aI) : List aL → List (List aB × List aI)
  | [] => [(r, f)]
  | e :: l => if e.Row = r then gA r (f ++ [jE e]) l else (r, f) :: gA e.Row [jE e] l

def groups : List aL → List (List aB × List aI)
  | [] => []
  | e :: l => gA e.Row [jE e] l

def itG {σ : Type} (y : σ → List aB → List aI → Option (σ × Bool)) : List (List aB × List aI) → σ → Option σ
  | [], s => some s
  | g :: gs, s => (y s g.1 g.2).bind fun x => if x.2 then itG y gs x.1 else some x.1

def okL (l : List aL) : Prop := l.length ≤ 3518437208783 ∧ ∀ e ∈ l, e.Row.length ≤ 4398046510976

theorem OJ {r : List aB} (h : r.length ≤ 4398046510976) : tX r = some r := by
  unfold tX
  rw [aK ⟨by omega, by omega, by omega⟩, aK (by simp only [List.length_nil, Nat.zero_add]; omega)]
  rfl

theorem FQ {σ : Type} {y : σ → List aB → List aI → Option (σ × Bool)} {l : List aL} (hl : okL l) (row : List aB) (sg : σ) : ∀ (r : List aL) (k : Nat) (f : List aI), l.drop k = r → k ≤ l.length → f.length ≤ k →
    ∃ k' f', k ≤ k' ∧ k' ≤ l.length ∧ f'.length ≤ k' ∧ lp (fun s : σ × Int × List aI => iZ y l row s.1 s.2.1 s.2.2) (sg, (k : Int), f) = some (sg, ((k' : Nat) : Int), f') ∧
      gA row f r = (row, f') :: groups (l.drop k') ∧ (∀ e r', r = e :: r' → e.Row = row → k < k')
  | [], k, f, hd, hk, hf => by
    have : k = l.length := by
      have := congrArg List.length hd
      simp only [List.length_drop, List.length_nil] at this; omega
    subst this
    refine ⟨l.length, f, Nat.le_refl _, Nat.le_refl _, hf, cS ?_, by simp [gA, groups], fun e r' h => by cases h⟩
    show iZ _ _ _ _ _ _ = _
    simp only [iZ, jT, dD, cond_false, Option.bind_some, Bool.false_and]
    exact aK (fun h => by cases h)
  | a :: r, k, f, hd, hk, hf => by
    obtain ⟨h1, h2⟩ := drop_cons hd
    have hlt : k < l.length := (List.getElem?_eq_some_iff.1 h1).1
    obtain ⟨hll, hlr⟩ := hl
    obtain ⟨d1, d2, d3, d4⟩ := idx h1 (by omega)
    have har := hlr a (List.mem_of_getElem? h1)
    have hb : (fun s : σ × Int × List aI => iZ y l row s.1 s.2.1 s.2.2) (sg, (k : Int), f) = some (if a.Row = row then .inl (sg, ((k + 1 : Nat) : Int), f ++ [jE a]) else .inr (sg, (k : Int), f)) := by
      show iZ _ _ _ _ _ _ = _
      simp only [iZ, d1, d3, d4, dD, cond_true, PU a.Row row (by omega), Option.bind_some, Bool.true_and]
      rw [aK (fun _ => d2)]
      by_cases e : a.Row = row
      · simp only [e, decide_true, cond_true, if_true]
        rw [aK d2, aK d2, aK (by simp only [List.length_cons, List.length_nil]; omega)]
        rfl
      · simp [e]
    by_cases e : a.Row = row
    · rw [if_pos e] at hb
      obtain ⟨k', f', g1, g2, g3, g4, g5, _⟩ := FQ ⟨hll, hlr⟩ row sg r (k + 1) (f ++ [jE a]) h2 (by omega) (by simp; omega) (y := y)
      refine ⟨k', f', by omega, g2, g3, by rw [fH hb]; exact g4, by simp [gA, e, g5], fun _ _ _ _ => by omega⟩
    · rw [if_neg e] at hb
      refine ⟨k, f, Nat.le_refl _, hk, hf, cS hb, ?_, fun b r' h hr => by cases h; exact absurd hr e⟩
      rw [hd]; simp [gA, e, groups]

theorem OK {σ : Type} {y : σ → List aB → List aI → Option (σ × Bool)} {l : List aL} (hl : okL l) : ∀ (m k : Nat) (sg s' : σ), l.length - k ≤ m → k ≤ l.length → itG y (groups (l.drop k)) sg = some s' →
    ∃ x, lp (fun s : σ × Int => gZ y l s.1 s.2) (sg, (k : Int)) = some x ∧ Sum.elim id id x = s' := by
  have stop : ∀ (sg s' : σ), itG y (groups (l.drop l.length)) sg = some s' → ∃ x, lp (fun s : σ × Int => gZ y l s.1 s.2) (sg, ((l.length : Nat) : Int)) = some x ∧ Sum.elim id id x = s' := by
    intro sg s' h
    rw [List.drop_length] at h
    simp only [groups, itG, Option.some.injEq] at h
    refine ⟨.inl sg, cS ?_, h⟩
    show gZ _ _ _ _ = _
    simp only [gZ, jT, cond_false]
  intro m
  induction m with
  | zero =>
    intro k sg s' hm hk h
    have : k = l.length := by omega
    subst this; exact stop sg s' h
  | succ m ih =>
    intro k sg s' hm hk h
    by_cases he : k = l.length
    · subst he; exact stop sg s' h
    · have hlt : k < l.length := by omega
      have hd : l.drop k = l[k] :: l.drop (k + 1) := List.drop_eq_getElem_cons hlt
      obtain ⟨d1, d2, d3, d4⟩ := idx (List.getElem?_eq_getElem hlt) (by have := hl.1; omega)
      obtain ⟨k', f', g1, g2, g3, g4, g5, g6⟩ := FQ hl l[k].Row sg (l.drop k) k [] rfl hk (by simp) (y := y)
      have hk' := g6 _ _ hd rfl
      have hg : groups (l.drop k) = (l[k].Row, f') :: groups (l.drop k') := by
        rw [← g5, hd]; simp [groups, gA]
      rw [hg] at h
      simp only [itG] at h
      obtain ⟨x, hx, h⟩ := aX h
      have hrow := hl.2 _ (List.getElem_mem hlt)
      have hb : (fun s : σ × Int => gZ y l s.1 s.2) (sg, (k : Int)) = some (if x.2 then .inl (x.1, ((k' : Nat) : Int)) else .inr (.inr x.1)) := by
        show gZ _ _ _ _ = _
        simp only [gZ, d1, cond_true, aK d2, d3, oX, g4, Option.bind_some, nG, OJ hrow, hx]
        cases x.2 <;> simp
      cases hx2 : x.2
      · rw [hx2] at hb h
        simp only [Bool.false_eq_true, if_false, Option.some.injEq] at hb h
        exact ⟨_, cS hb, h⟩
      · rw [hx2] at hb h
        simp only [if_true] at hb h
        obtain ⟨z, hz1, hz2⟩ := ih k' x.1 s' (by omega) g2 h
        exact ⟨z, by rw [fH hb]; exact hz1, hz2⟩

theorem MV {σ : Type} {y : σ → List aB → List aI → Option (σ × Bool)} {l : List aL} (hl : okL l) {s s' : σ} (h : itG y (groups l) s = some s') : mD y l s = some s' := by
  unfold mD pK
  obtain ⟨x, h1, h2⟩ := OK hl l.length 0 s s' (by omega) (Nat.zero_le _) (by simpa using h)
  simp only [Int.natCast_zero] at h1
  rw [h1]
  cases x <;> simpa using h2

def ahd (last : Option (List aB)) (r : List aB) : Bool := match last with
  | none => true
  | some q => decide (jB q r < 0)

def tA (p : List aI → Bool) : Option (List aB) → List (List aB × List aI) → Bool
  | _, [] => true
  | last, g :: gs => (kY g.1 && ahd last g.1 && p g.2) && tA p (some g.1) gs

theorem NU {holds : List aI → Option Bool} {p : List aI → Bool} (hp : ∀ f, holds f = some (p f)) (c : List aL) (t : Bool) : ∀ (gs : List (List aB × List aI)) (last : List aB) (b : Bool), (b = true → kY last = true) →
    ∃ x, itG (fun st r f => rnd (fun (s : Bool × (List aB) × Bool) => nA holds c s.1 s.2.1 s.2.2 r f) st) gs (.inl (t, last, b)) = some x ∧
      (if tA p (if b then some last else none) gs then ∃ u, x = .inl (t, u) else ∃ u, x = .inr (false, u))
  | [], last, b, _ => ⟨_, rfl, by simp [tA]⟩
  | g :: gs, last, b, hb => by
    have hy : nA holds c t last b g.1 g.2 = some (if kY g.1 && ahd (if b then some last else none) g.1 && p g.2 then .inl (t, g.1, true) else .inr (false, last, b)) := by
      unfold nA
      simp only [GG, Option.bind_some, SN, hp]
      cases hm : kY g.1
      · simp [dD]
      · cases b
        · cases h2 : p g.2 <;> simp [dD, ahd, h2]
        · have hl := hb rfl
          by_cases h1 : jB last g.1 < 0
          · have h1' : ¬ (0 ≤ jB last g.1) := by omega
            cases h2 : p g.2 <;> simp [dD, ahd, h2, hl, h1, h1']
          · have h1' : 0 ≤ jB last g.1 := by omega
            simp [dD, ahd, hl, h1, h1']
    cases hc : (kY g.1 && ahd (if b then some last else none) g.1 && p g.2)
    · rw [hc] at hy
      simp only [itG, rnd, hy, Option.bind_some, tA, hc]
      exact ⟨.inr (false, last, b), by simp, by simp⟩
    · rw [hc] at hy
      simp only [itG, rnd, hy, Option.bind_some, tA, hc]
      have hm : kY g.1 = true := by simp only [Bool.and_eq_true] at hc; exact hc.1.1
      obtain ⟨x, h1, h2⟩ := NU hp c t gs g.1 true (fun _ => hm)
      refine ⟨x, ?_, ?_⟩
      · simpa [rnd] using h1
      · simpa using h2

theorem NH {l : List aL} (hl : okL l) {holds : List aI → Option Bool} {p : List aI → Bool} (hp : ∀ f, holds f = some (p f)) : qH l holds = some (decide (l.length ≤ 4096) && tA p none (groups l)) := by
  unfold qH
  by_cases h : l.length ≤ 4096
  · have h1 : decide ((4096 : Int) < ((l.length : Nat) : Int)) = false := by simp; omega
    rw [h1, cond_false]
    simp only [qG, Option.bind_some, uO]
    obtain ⟨x, e1, e2⟩ := NU hp l false (groups l) [] false (fun h => by cases h)
    rw [MV hl e1]
    simp only [Bool.false_eq_true, if_false] at e2
    simp only [h, decide_true, Bool.true_and]
    cases hc : tA p none (groups l)
    · rw [hc] at e2
      simp only [Bool.false_eq_true, if_false] at e2
      obtain ⟨u, rfl⟩ := e2
      rfl
    · rw [hc] at e2
      simp only [if_true] at e2
      obtain ⟨u, rfl⟩ := e2
      rfl
  · have h1 : decide ((4096 : Int) < ((l.length : Nat) : Int)) = true := by simp; omega
    rw [h1, cond_true]
    simp [h]

def qY (l : List aL) : Bool := decide (l.length ≤ 4096) && tA lE none (groups l)

theorem NQ {l : List aL} (hl : okL l) : sA l = some (qY l) := by
  unfold sA
  rw [NH hl (p := lE) (fun f => EH f)]; rfl

def VC (f : List aI) : Bool := lE f && decide (0 ≤ FC f)

def BN (l : List aL) : Bool := decide (l.length ≤ 4096) && tA VC none (groups l)

theorem QX {l : List aL} (hl : okL l) : rF l = some (BN l) := by
  unfold rF
  rw [NH hl (p := VC) (fun f => by
    unfold oL VC
    rw [EH]
    cases h : lE f <;> simp [dD, UE, h])]
  rfl

def uF (r : List aB) (f : List aI) : List aL := f.map fun j => ⟨r, j.At, j.Net⟩

def flat (gs : List (List aB × List aI)) : List aL := gs.flatMap fun g => uF g.1 g.2

theorem GP : ∀ (l : List aL) (r : List aB) (f : List aI), flat (gA r f l) = uF r f ++ l
  | [], r, f => by simp [gA, flat]
  | e :: l, r, f => by
    unfold gA
    split
    · rename_i h
      rw [GP l r]
      simp [uF, jE, ← h]
    · have := GP l e.Row [jE e]
      simp only [flat, List.flatMap_cons] at this ⊢
      rw [this]
      simp [uF, jE]

theorem sP (l : List aL) : flat (groups l) = l := by
  cases l with
  | nil => rfl
  | cons e l => unfold groups; rw [GP]; simp [uF, jE]

theorem LS {r : List aB} : ∀ {l : List aL} {f : List aI} {g : List aB × List aI}, g ∈ gA r f l → f ≠ [] → g.2 ≠ [] ∧ (g.1 = r ∨ ∃ e ∈ l, g.1 = e.Row)
  | [], f, g, h, hf => by simp only [gA, List.mem_singleton] at h; subst h; exact ⟨hf, .inl rfl⟩
  | e :: l, f, g, h, hf => by
    unfold gA at h
    split at h
    · obtain ⟨h1, h2⟩ := LS h (by simp)
      exact ⟨h1, h2.imp id fun ⟨x, hx, hx'⟩ => ⟨x, by simp [hx], hx'⟩⟩
    · rcases List.mem_cons.1 h with rfl | h
      · exact ⟨hf, .inl rfl⟩
      · obtain ⟨h1, h2⟩ := LS (r := e.Row) h (by simp)
        refine ⟨h1, .inr ?_⟩
        rcases h2 with h2 | ⟨x, hx, hx'⟩
        · exact ⟨e, by simp, h2⟩
        · exact ⟨x, by simp [hx], hx'⟩

theorem zK {l : List aL} {g : List aB × List aI} (h : g ∈ groups l) : g.2 ≠ [] ∧ ∃ e ∈ l, g.1 = e.Row := by
  cases l with
  | nil => simp [groups] at h
  | cons e l =>
    obtain ⟨h1, h2⟩ := LS h (by simp)
    refine ⟨h1, ?_⟩
    rcases h2 with h2 | ⟨x, hx, hx'⟩
    · exact ⟨e, by simp, h2⟩
    · exact ⟨x, by simp [hx], hx'⟩

end Go.Abs
namespace Go.Abs
open Go
def jG (l : List aL) (r : List aB) : List aI := (l.filter fun e => decide (e.Row = r)).map jE

theorem yQ (a b : List aL) (r : List aB) : jG (a ++ b) r = jG a r ++ jG b r := by simp [jG]

theorem II (q : List aB) (f : List aI) (r : List aB) : jG (uF q f) r = if q = r then f else [] := by
  induction f with
  | nil => simp [jG, uF]
  | cons j f ih =>
    have h1 : uF q (j :: f) = [⟨q, j.At, j.Net⟩] ++ uF q f := rfl
    rw [h1, yQ, ih]
    by_cases h : q = r <;> simp [jG, jE, h]

def look : List (List aB × List aI) → List aB → List aI
  | [], _ => []
  | g :: gs, r => if g.1 = r then g.2 else look gs r

theorem xH (g : List aB × List aI) (gs : List (List aB × List aI)) (r : List aB) : look (g :: gs) r = if g.1 = r then g.2 else look gs r := rfl

abbrev ltG (a b : List aB × List aI) : Prop := jB a.1 b.1 < 0

abbrev DE (gs : List (List aB × List aI)) : Prop := gs.Pairwise ltG

theorem uS {a : List aB} : ¬ jB a a < 0 := by rw [(tM.eq a a).2 rfl]; omega

theorem HO : ∀ {gs : List (List aB × List aI)} {r : List aB}, (∀ g ∈ gs, g.1 ≠ r) → look gs r = []
  | [], _, _ => rfl
  | g :: gs, r, h => by
    rw [xH]
    rw [if_neg (h g (by simp))]
    exact HO fun q hq => h q (by simp [hq])

theorem OQ (gs : List (List aB × List aI)) (r : List aB) : (look gs r = [] ∧ ∀ g ∈ gs, g.1 ≠ r) ∨ ∃ g ∈ gs, g.1 = r ∧ look gs r = g.2 := by
  induction gs with
  | nil => exact .inl ⟨rfl, by simp⟩
  | cons g gs ih =>
    rw [xH]
    by_cases h : g.1 = r
    · rw [if_pos h]; exact .inr ⟨g, by simp, h, rfl⟩
    · rw [if_neg h]
      rcases ih with ⟨h1, h2⟩ | ⟨q, hq, h1, h2⟩
      · refine .inl ⟨h1, fun q hq => ?_⟩
        rcases List.mem_cons.1 hq with rfl | hq
        · exact h
        · exact h2 q hq
      · exact .inr ⟨q, by simp [hq], h1, h2⟩

theorem KB {gs : List (List aB × List aI)} (hs : DE gs) {g : List aB × List aI} (hg : g ∈ gs) : look gs g.1 = g.2 := by
  induction gs with
  | nil => simp at hg
  | cons q gs ih =>
    have hs' := List.pairwise_cons.1 hs
    rw [xH]
    rcases List.mem_cons.1 hg with rfl | hg
    · rw [if_pos rfl]
    · rw [if_neg (fun e => by have := hs'.1 g hg; simp only [ltG, e] at this; exact uS this)]
      exact ih hs'.2 hg

theorem RX (g : List aB × List aI) (gs : List (List aB × List aI)) : flat (g :: gs) = uF g.1 g.2 ++ flat gs := rfl

theorem AB : ∀ {gs : List (List aB × List aI)}, DE gs → ∀ r, jG (flat gs) r = look gs r
  | [], _, r => rfl
  | g :: gs, hs, r => by
    have hs' := List.pairwise_cons.1 hs
    rw [RX, yQ, II, AB hs'.2, xH]
    by_cases h : g.1 = r
    · rw [if_pos h, if_pos h, HO, List.append_nil]
      intro q hq e
      have := hs'.1 q hq
      simp only [ltG, h, e] at this; exact uS this
    · rw [if_neg h, if_neg h]; rfl

theorem BA {p : List aI → Bool} : ∀ {gs : List (List aB × List aI)} {last : Option (List aB)}, tA p last gs = true ↔ (∀ g ∈ gs, kY g.1 = true ∧ p g.2 = true) ∧ DE gs ∧ (∀ q, last = some q → ∀ g ∈ gs, jB q g.1 < 0)
  | [], last => by simp [tA]
  | g :: gs, last => by
    unfold tA
    simp only [Bool.and_eq_true, BA (gs := gs), List.mem_cons, List.pairwise_cons]
    constructor
    · rintro ⟨⟨⟨h1, h2⟩, h3⟩, h4, h5, h6⟩
      refine ⟨?_, ⟨fun q hq => h6 _ rfl q hq, h5⟩, ?_⟩
      · rintro q (rfl | hq)
        · exact ⟨h1, h3⟩
        · exact h4 q hq
      · rintro q rfl x (rfl | hx)
        · simpa [ahd] using h2
        · simp only [ahd, decide_eq_true_eq] at h2
          exact tM.trans _ _ _ h2 (h6 _ rfl x hx)
    · rintro ⟨h1, ⟨h2, h3⟩, h4⟩
      refine ⟨⟨⟨(h1 g (.inl rfl)).1, ?_⟩, (h1 g (.inl rfl)).2⟩, fun q hq => h1 q (.inr hq), h3, ?_⟩
      · unfold ahd
        split
        · rfl
        · exact decide_eq_true (h4 _ rfl g (.inl rfl))
      · rintro q hq x hx
        cases hq
        exact h2 x hx

theorem tP {l : List aL} (h : qY l = true) : l.length ≤ 4096 ∧ (∀ g ∈ groups l, kY g.1 = true ∧ lE g.2 = true) ∧ DE (groups l) := by
  simp only [qY, Bool.and_eq_true, decide_eq_true_eq] at h
  obtain ⟨h1, h2, _⟩ := BA.1 h.2
  exact ⟨h.1, h1, h2⟩

theorem TA {l : List aL} (h : qY l = true) (r : List aB) : lE (look (groups l) r) = true := by
  rcases OQ (groups l) r with ⟨h1, _⟩ | ⟨g, hg, _, h1⟩
  · rw [h1]; exact WH
  · rw [h1]; exact ((tP h).2.1 g hg).2

theorem zV {l : List aL} (h : DE (groups l)) (r : List aB) : look (groups l) r = jG l r := by
  rw [← AB h, sP]

theorem NS (r : List aB) (f : List aI) (e : aL) (l : List aL) : gA r f (e :: l) = if e.Row = r then gA r (f ++ [jE e]) l else (r, f) :: gA e.Row [jE e] l := rfl

theorem RY {l : List aL} (hl : okL l) {g : List aB × List aI} (hg : g ∈ groups l) : g.1.length ≤ 4398046510976 := by
  obtain ⟨_, e, he, h⟩ := zK hg
  rw [h]; exact hl.2 e he

theorem vT : ∀ (l : List aL) (r : List aB) (f : List aI), (gA r f l).length ≤ l.length + 1
  | [], _, _ => by simp [gA]
  | e :: l, r, f => by
    rw [NS]
    split
    · have := vT l r (f ++ [jE e]); simp only [List.length_cons]; omega
    · have := vT l e.Row [jE e]; simp only [List.length_cons]; omega

theorem EX (l : List aL) : (groups l).length ≤ l.length := by
  cases l with
  | nil => simp [groups]
  | cons e l => exact vT l e.Row [jE e]

end Go.Abs
namespace Go.Abs
open Go
abbrev leE (x y : aL) : Prop := jB x.Row y.Row < 0 ∨ (x.Row = y.Row ∧ x.At ≤ y.At)

theorem LU : ∀ {l : List aL} {r : List aB} {f : List aI}, Srt leE l → (∀ e ∈ l, e.Row = r ∨ jB r e.Row < 0) → DE (gA r f l) ∧ ∀ g ∈ gA r f l, g.1 = r ∨ jB r g.1 < 0
  | [], r, f, _, _ => by simp [gA]
  | e :: l, r, f, hs, hr => by
    have hs' := List.pairwise_cons.1 hs
    rw [NS]
    by_cases h : e.Row = r
    · rw [if_pos h]
      exact LU hs'.2 (fun x hx => hr x (by simp [hx]))
    · rw [if_neg h]
      have hlt : jB r e.Row < 0 := (hr e (by simp)).resolve_left h
      obtain ⟨h1, h2⟩ := LU (r := e.Row) (f := [jE e]) hs'.2 (fun x hx => by
        rcases hs'.1 x hx with h | ⟨h, _⟩
        · exact .inr h
        · exact .inl h.symm)
      have key : ∀ g ∈ gA e.Row [jE e] l, jB r g.1 < 0 := fun g hg => by
        rcases h2 g hg with h | h
        · rw [h]; exact hlt
        · exact tM.trans _ _ _ hlt h
      refine ⟨List.pairwise_cons.2 ⟨key, h1⟩, ?_⟩
      intro g hg
      rcases List.mem_cons.1 hg with rfl | hg
      · exact .inl rfl
      · exact .inr (key g hg)

theorem zH {l : List aL} (hs : Srt leE l) : DE (groups l) := by
  cases l with
  | nil => exact List.Pairwise.nil
  | cons e l =>
    have hs' := List.pairwise_cons.1 hs
    exact (LU hs'.2 (fun x hx => by
      rcases hs'.1 x hx with h | ⟨h, _⟩
      · exact .inr h
      · exact .inl h.symm)).1

abbrev AA (rs : List (List aB)) : Prop := rs.Pairwise fun a b => jB a b < 0

def pJ (r : List aB) : List (List aB) → List (List aB)
  | [] => [r]
  | x :: xs => if jB x r < 0 then x :: pJ r xs else if x = r then x :: xs else r :: x :: xs

def rowsOf (l : List aL) : List (List aB) := l.foldl (fun rs e => pJ e.Row rs) []

theorem zC {r x : List aB} : ∀ {rs : List (List aB)}, x ∈ pJ r rs ↔ x = r ∨ x ∈ rs
  | [] => by simp [pJ]
  | y :: ys => by
    unfold pJ
    split
    · simp only [List.mem_cons, zC (rs := ys)]
      constructor
      · rintro (h | h | h)
        · exact .inr (.inl h)
        · exact .inl h
        · exact .inr (.inr h)
      · rintro (h | h | h)
        · exact .inr (.inl h)
        · exact .inl h
        · exact .inr (.inr h)
    · split
      · rename_i h; subst h; simp
      · simp

theorem JX {r : List aB} : ∀ {rs : List (List aB)}, AA rs → AA (pJ r rs)
  | [], _ => by simp [pJ]
  | y :: ys, hs => by
    have hs' := List.pairwise_cons.1 hs
    unfold pJ
    split
    · rename_i h
      refine List.pairwise_cons.2 ⟨fun z hz => ?_, JX hs'.2⟩
      rcases zC.1 hz with rfl | hz
      · exact h
      · exact hs'.1 z hz
    · rename_i h
      split
      · exact hs
      · rename_i hne
        have hlt : jB r y < 0 := by
          have h0 : jB y r ≠ 0 := fun e => hne ((tM.eq _ _).1 e)
          exact (tM.anti _ _).2 (by omega)
        refine List.pairwise_cons.2 ⟨fun z hz => ?_, hs⟩
        rcases List.mem_cons.1 hz with rfl | hz
        · exact hlt
        · exact tM.trans _ _ _ hlt (hs'.1 z hz)

theorem AE : ∀ (l : List aL) (rs : List (List aB)), AA rs → AA (l.foldl (fun rs e => pJ e.Row rs) rs) ∧ ∀ x, x ∈ l.foldl (fun rs e => pJ e.Row rs) rs ↔ x ∈ rs ∨ ∃ e ∈ l, e.Row = x
  | [], rs, hs => ⟨hs, by simp⟩
  | e :: l, rs, hs => by
    obtain ⟨h1, h2⟩ := AE l (pJ e.Row rs) (JX hs)
    refine ⟨h1, fun x => ?_⟩
    simp only [List.foldl_cons]
    rw [h2 x, zC]
    simp only [List.mem_cons, exists_eq_or_imp]
    constructor
    · rintro ((h | h) | h)
      · exact .inr (.inl h.symm)
      · exact .inl h
      · exact .inr (.inr h)
    · rintro (h | h | h)
      · exact .inl (.inr h)
      · exact .inl (.inl h.symm)
      · exact .inr h

theorem OF (l : List aL) : AA (rowsOf l) := (AE l [] List.Pairwise.nil).1

theorem ER {l : List aL} {x : List aB} : x ∈ rowsOf l ↔ ∃ e ∈ l, e.Row = x := by
  have := (AE l [] List.Pairwise.nil).2 x
  simpa [rowsOf] using this

theorem LR : ∀ {a b : List (List aB)}, AA a → AA b → (∀ x, x ∈ a ↔ x ∈ b) → a = b
  | [], [], _, _, _ => rfl
  | [], y :: ys, _, _, h => absurd ((h y).2 (by simp)) (by simp)
  | x :: xs, [], _, _, h => absurd ((h x).1 (by simp)) (by simp)
  | x :: xs, y :: ys, ha, hb, h => by
    have ha' := List.pairwise_cons.1 ha
    have hb' := List.pairwise_cons.1 hb
    have e : x = y := by
      rcases List.mem_cons.1 ((h x).1 (by simp)) with h1 | h1
      · exact h1
      · rcases List.mem_cons.1 ((h y).2 (by simp)) with h2 | h2
        · exact h2.symm
        · exact absurd (tM.trans _ _ _ (hb'.1 x h1) (ha'.1 y h2)) uS
    subst e
    rw [LR ha'.2 hb'.2 fun z => ?_]
    constructor
    · intro hz
      rcases List.mem_cons.1 ((h z).1 (by simp [hz])) with h1 | h1
      · subst h1; exact absurd (ha'.1 z hz) uS
      · exact h1
    · intro hz
      rcases List.mem_cons.1 ((h z).2 (by simp [hz])) with h1 | h1
      · subst h1; exact absurd (hb'.1 z hz) uS
      · exact h1

def PG (l : List aL) : List (List aB × List aI) := (rowsOf l).map fun r => (r, jG l r)

theorem MJ {l l' : List aL} (hp : l'.Perm l) (hs : Srt leE l') : (groups l').map (·.1) = rowsOf l := by
  refine LR ?_ (OF l) fun x => ?_
  · rw [AA, List.pairwise_map]; exact zH hs
  · rw [ER]
    constructor
    · intro h
      obtain ⟨g, hg, rfl⟩ := List.mem_map.1 h
      obtain ⟨_, e, he, h1⟩ := zK hg
      exact ⟨e, hp.mem_iff.1 he, h1.symm⟩
    · rintro ⟨e, he, rfl⟩
      have he' : e ∈ flat (groups l') := by rw [sP]; exact hp.mem_iff.2 he
      obtain ⟨g, hg, h1⟩ := List.mem_flatMap.1 he'
      obtain ⟨j, _, rfl⟩ := List.mem_map.1 h1
      exact List.mem_map.2 ⟨g, hg, rfl⟩

end Go.Abs
namespace Go.Abs
open Go
def vL : aB := ⟨1, 1, ByteArray.empty⟩

end Go.Abs
namespace Go.Abs
open Go
theorem CS {σ : Type} {y : σ → List aB → List aI → Option (σ × Bool)} (c : List aL) : ∀ (gs : List (List aB × List aI)) (s s' : σ), itG y gs s = some s' →
    ∃ x, itG (fun st t10 t11 => rnd (fun (s : σ) => kC y c s t10 t11) st) gs (.inl s) = some x ∧ Sum.elim id id x = s'
  | [], s, s', h => by simp only [itG, Option.some.injEq] at h; exact ⟨_, rfl, h⟩
  | g :: gs, s, s', h => by
    simp only [itG] at h
    obtain ⟨z, hz, h⟩ := aX h
    have hl : kC y c s g.1 g.2 = some (if z.2 then .inl z.1 else .inr z.1) := by
      unfold kC
      rw [hz]
      obtain ⟨z1, z2⟩ := z
      cases z2 <;> rfl
    cases h2 : z.2
    · rw [h2] at h hl
      simp only [Bool.false_eq_true, if_false, Option.some.injEq] at h hl
      refine ⟨.inr z.1, ?_, h⟩
      simp [itG, rnd, hl]
    · rw [h2] at h hl
      simp only [if_true] at h hl
      obtain ⟨x, h3, h4⟩ := CS c gs z.1 s' h
      refine ⟨x, ?_, h4⟩
      simp only [itG, rnd, hl, Option.bind_some, Sum.isLeft_inl, if_true]
      exact h3

theorem OM {σ : Type} {y : σ → List aB → List aI → Option (σ × Bool)} {l : List aL} (hl : okL l) {s s' : σ} (h : itG y (if qY l then groups l else []) s = some s') : mL y l s = some s' := by
  unfold mL
  rw [NQ hl]
  cases hm : qY l
  · rw [hm] at h
    simp only [Bool.false_eq_true, if_false, itG] at h
    simpa using h
  · rw [hm] at h
    simp only [if_true] at h
    simp only [Option.bind_some, Bool.not_true, cond_false, qG, nW]
    obtain ⟨x, h1, h2⟩ := CS l (groups l) s s' h
    rw [MV hl h1]
    cases x <;> simpa using h2

theorem vZ {l : List aL} (hm : qY l = true) {e : aL} (he : e ∈ l) : kY e.Row = true ∧ -2 < e.At ∧ e.At < 1125899906842624 ∧ e.Net ≠ 0 ∧ e.Net ≤ 1048576 ∧ -1048576 ≤ e.Net := by
  obtain ⟨_, h2, _⟩ := tP hm
  have he' : e ∈ flat (groups l) := by rw [sP]; exact he
  obtain ⟨g, hg, h1⟩ := List.mem_flatMap.1 he'
  obtain ⟨j, hj, rfl⟩ := List.mem_map.1 h1
  obtain ⟨a, b⟩ := h2 g hg
  exact ⟨a, (rV.1 b).2.above j hj⟩

theorem yZ {l : List aL} (hm : qY l = true) (r : List aB) : lE (jG l r) = true := by
  rw [← zV (tP hm).2.2]; exact TA hm r

end Go.Abs
namespace Go.Abs
open Go
theorem CK {l : List aL} (hl : okL l) (hn : l.length ≤ 1099511627776) {r : List aB} : pT l r = some (jG l r) := by
  unfold pT rT
  rw [rX (l := l) (body := fun s : List aI × Int => kT l r s.1 s.2) (fun o i => (o, i)) (fun o t => o ++ jG t r) (fun o t => o.length + t.length ≤ 1099511627776) [] ?_ ?_ (by simpa using hn)]
  · rfl
  · intro i a t o ha hi
    left
    obtain ⟨d1, d2, d3, d4⟩ := idx ha (by omega)
    simp only [List.length_cons] at hi
    have hr := hl.2 a (List.mem_of_getElem? ha)
    have hb : kT l r o (i : Int) = some (.inl (if a.Row = r then o ++ [jE a] else o, ((i + 1 : Nat) : Int))) := by
      simp only [kT, oV, d1, cond_true, aK d2, d3, d4, vS a.Row r (by omega), Option.bind_some]
      by_cases e : a.Row = r
      · simp only [e, decide_true, cond_true, if_true]
        rw [aK (by simp only [List.length_cons, List.length_nil]; omega)]; rfl
      · simp [e]
    refine ⟨_, hb, ?_, ?_⟩
    · split
      · simp; omega
      · omega
    · by_cases e : a.Row = r <;> simp [jG, e]
  · intro o _
    show kT _ _ _ _ = _
    simp only [kT, jT, cond_false]
    simp [jG]

theorem KO (r : List aB) : ∀ rs : List (List aB), (pJ r rs).length ≤ rs.length + 1
  | [] => by simp [pJ]
  | x :: xs => by
    unfold pJ
    split
    · simp only [List.length_cons]; have := KO r xs; omega
    · split <;> simp

def sD (r : List aB) : List (List aB) → Nat
  | [] => 0
  | x :: xs => if jB x r < 0 then sD r xs + 1 else 0

theorem MW (r : List aB) : ∀ rs, sD r rs ≤ rs.length
  | [] => by simp [sD]
  | x :: xs => by unfold sD; split <;> simp [MW r xs]

theorem LM (r : List aB) : ∀ rs, pJ r rs = if rs[sD r rs]? = some r then rs else rs.take (sD r rs) ++ [r] ++ rs.drop (sD r rs)
  | [] => by simp [pJ]
  | x :: xs => by
    unfold pJ sD
    by_cases h : jB x r < 0
    · rw [if_pos h, if_pos h, LM r xs]
      simp only [List.getElem?_cons_succ, List.take_succ_cons, List.drop_succ_cons]
      split <;> simp
    · rw [if_neg h, if_neg h]
      by_cases e : x = r <;> simp [e]

theorem FT {l : List aL} {rs : List (List aB)} {e : aL} {i : Nat} (hi : l[i]? = some e) (hl : okL l) (he : kY e.Row = true) (hr : ∀ x ∈ rs, kY x = true) (hn : rs.length ≤ 1099511627776) : ∀ (t : List (List aB)) (k : Nat), rs.drop k = t → k ≤ rs.length →
    lp (fun s : List (List aB) × Int => kQ l (i : Int) s.1 s.2) (rs, (k : Int)) = some (rs, ((k + sD e.Row t : Nat) : Int))
  | [], k, hd, hk => by
    have : k = rs.length := by
      have := congrArg List.length hd
      simp only [List.length_drop, List.length_nil] at this; omega
    subst this
    refine cS ?_
    show kQ _ _ _ _ = _
    simp only [kQ, jT, dD, cond_false, Option.bind_some, Bool.false_and]
    rw [aK (fun h => by cases h), aK (fun h => by cases h)]
    simp [sD]
  | x :: t, k, hd, hk => by
    obtain ⟨h1, h2⟩ := drop_cons hd
    have hlt := (List.getElem?_eq_some_iff.1 h1).1
    obtain ⟨d1, d2, d3, d4⟩ := idx h1 (by omega)
    obtain ⟨_, c2, c3, _⟩ := idx hi (by have := hl.1; omega)
    have hx := hr x (List.mem_of_getElem? h1)
    have hb : (fun s : List (List aB) × Int => kQ l (i : Int) s.1 s.2) (rs, (k : Int)) = some (if jB x e.Row < 0 then .inl (rs, ((k + 1 : Nat) : Int)) else .inr (rs, (k : Int))) := by
      show kQ _ _ _ _ = _
      simp only [kQ, d1, dD, cond_true, d3, c3, d4, Bool.true_and]
      rw [aK (fun _ => d2), aK (fun _ => c2), JE x e.Row (by have := (uT hx).1; omega) (by have := (uT he).1; omega), hx, he]
      simp only [Bool.and_self, if_true, Option.bind_some]
      by_cases h : jB x e.Row < 0 <;> simp [h]
    unfold sD
    by_cases h : jB x e.Row < 0
    · rw [if_pos h] at hb
      rw [fH hb, FT hi hl he hr hn t (k + 1) h2 (by omega), if_pos h]
      congr 3; omega
    · rw [if_neg h] at hb
      rw [cS hb, if_neg h]; rfl

theorem PF {l : List aL} (hl : okL l) (hm : ∀ e ∈ l, kY e.Row = true) (hn : l.length ≤ 1099511627776) : qZ l = some (rowsOf l) := by
  unfold qZ sZ
  rw [rX (l := l) (body := fun s : List (List aB) × Int => lK l s.1 s.2) (fun o i => (o, i)) (fun o t => t.foldl (fun rs e => pJ e.Row rs) o) (fun o t => o.length + t.length ≤ 1099511627776 ∧ ∀ x ∈ o, kY x = true) [] ?_ ?_ ⟨by simpa using hn, by simp⟩]
  · rfl
  · rintro i e t rs hi ⟨h1, h2⟩
    left
    obtain ⟨d1, d2, d3, d4⟩ := idx hi (by omega)
    have he := hm e (List.mem_of_getElem? hi)
    simp only [List.length_cons] at h1
    refine ⟨pJ e.Row rs, ?_, ⟨by have := KO e.Row rs; omega, fun x hx => by
      rcases zC.1 hx with rfl | h
      · exact he
      · exact h2 x h⟩, rfl⟩
    show lK _ _ _ = _
    have hin := FT hi hl he h2 (by omega) rs 0 rfl (Nat.zero_le _)
    simp only [Int.natCast_zero, Nat.zero_add] at hin
    have hple := MW e.Row rs
    simp only [lK, d1, cond_true, sV, hin, Option.bind_some, pQ, pS, d3, d4]
    rw [LM]
    by_cases hp : sD e.Row rs < rs.length
    · have hx : rs[sD e.Row rs]? = some rs[sD e.Row rs] := List.getElem?_eq_getElem hp
      obtain ⟨f1, f2, f3, _⟩ := idx hx (by omega)
      have hrow := h2 _ (List.mem_of_getElem? hx)
      simp only [f1, f3, dD, cond_true, Bool.true_and]
      rw [aK (fun _ => f2), aK (fun _ => d2), vS _ _ (by have := (uT hrow).1; omega)]
      by_cases hq : rs[sD e.Row rs] = e.Row
      · simp [hq, hx]
      · simp only [hq, decide_false, cond_false, Option.bind_some, hx, Option.some.injEq, if_false, Int.toNat_natCast]
        rw [aK ⟨by omega, by omega⟩, aK ⟨by simp; omega, by simp; omega⟩, aK d2, aK ⟨by simp; omega, by simp; omega⟩, aK ⟨by omega, by omega⟩, aK ⟨by simp; omega, by simp; omega⟩]
    · have hpe : sD e.Row rs = rs.length := by omega
      rw [hpe]
      simp only [jT, dD, cond_false, Option.bind_some, Bool.false_and]
      rw [aK (fun h => by cases h), aK (fun h => by cases h)]
      have hnone : rs[rs.length]? = none := by simp
      simp only [hnone, reduceCtorEq, if_false, Int.toNat_natCast]
      rw [aK ⟨by omega, by omega⟩, aK ⟨by simp; omega, by simp; omega⟩, aK d2, aK ⟨by simp; omega, by simp; omega⟩, aK ⟨by omega, by omega⟩, aK ⟨by simp; omega, by simp; omega⟩]
  · rintro rs ⟨_, _⟩
    show lK _ _ _ = _
    simp only [lK, jT, cond_false]
    rfl

end Go.Abs
namespace Go.Abs
open Go
abbrev ltE (x y : aL) : Prop := jB x.Row y.Row < 0 ∨ (x.Row = y.Row ∧ x.At < y.At)

theorem xF : ∀ {f : List aI} {last : Int}, rE last f ↔ (∀ j ∈ f, yW last j = false) ∧ f.Pairwise fun a b => a.At < b.At
  | [], last => by simp [rE]
  | j :: f, last => by
    rw [List.pairwise_cons]
    unfold rE
    rw [← mO]
    constructor
    · rintro ⟨h1, h2⟩
      have h3 := xF.1 h2
      have h4 := mO.1 h1
      refine ⟨fun k hk => ?_, fun k hk => (mO.1 (h3.1 k hk)).1, h3.2⟩
      rcases List.mem_cons.1 hk with rfl | hk
      · exact h1
      · have := mO.1 (h3.1 k hk)
        exact mO.2 (by omega)
    · rintro ⟨h1, h2, h3⟩
      refine ⟨h1 j (by simp), xF.2 ⟨fun k hk => ?_, h3⟩⟩
      have := mO.1 (h1 k (by simp [hk]))
      have := h2 k hk
      exact mO.2 (by omega)

theorem UK {l : List aL} : qY l = true ↔ l.length ≤ 4096 ∧ (∀ e ∈ l, kY e.Row = true ∧ yW (-2) (jE e) = false) ∧ l.Pairwise ltE ∧ ∀ r ∈ rowsOf l, (jG l r).length ≤ 1024 := by
  constructor
  · intro h
    obtain ⟨h1, h2, h3⟩ := tP h
    refine ⟨h1, fun e he => ?_, ?_, fun r _ => (rV.1 (yZ h r)).1⟩
    · obtain ⟨a, b, c, d, e1, e2⟩ := vZ h he
      exact ⟨a, mO.2 ⟨b, c, d, e1, e2⟩⟩
    · rw [← sP l]
      unfold flat
      rw [List.flatMap, List.pairwise_flatten, List.pairwise_map]
      constructor
      · intro x hx
        obtain ⟨g, hg, rfl⟩ := List.mem_map.1 hx
        have := (xF.1 (rV.1 (h2 g hg).2).2).2
        rw [uF, List.pairwise_map]
        exact this.imp fun h => .inr ⟨rfl, h⟩
      · refine h3.imp fun {a b} h x hx y hy => ?_
        obtain ⟨j, _, rfl⟩ := List.mem_map.1 hx
        obtain ⟨k, _, rfl⟩ := List.mem_map.1 hy
        exact .inl h
  · rintro ⟨h1, h2, h3, h4⟩
    have hs : Srt leE l := h3.imp fun h => by
      rcases h with h | ⟨h, h'⟩
      · exact .inl h
      · exact .inr ⟨h, by omega⟩
    have hg := zH hs
    unfold qY
    rw [Bool.and_eq_true]
    refine ⟨by simpa using h1, BA.2 ⟨fun g hg' => ?_, hg, fun q hq => by cases hq⟩⟩
    obtain ⟨_, e, he, h5⟩ := zK hg'
    have hj : g.2 = jG l g.1 := by rw [← zV hg, KB hg hg']
    refine ⟨by rw [h5]; exact (h2 e he).1, ?_⟩
    rw [hj]
    refine rV.2 ⟨h4 _ (ER.2 ⟨e, he, h5.symm⟩), xF.2 ⟨fun j hj => ?_, ?_⟩⟩
    · obtain ⟨e, he, rfl⟩ := List.mem_map.1 hj
      exact (h2 e (List.mem_filter.1 he).1).2
    · unfold jG
      rw [List.pairwise_map, List.pairwise_filter]
      refine h3.imp fun {a b} h ha hb => ?_
      rcases h with h | ⟨_, h⟩
      · simp only [decide_eq_true_eq] at ha hb
        rw [ha, hb] at h
        exact absurd h uS
      · exact h

end Go.Abs
namespace Go.Abs
open Go
theorem CV {l : List aL} (hm : qY l = true) : PG l = groups l := by
  obtain ⟨_, _, hp, _⟩ := UK.1 hm
  have hs : Srt leE l := hp.imp fun h => by
    rcases h with h | ⟨h, h'⟩
    · exact .inl h
    · exact .inr ⟨h, by omega⟩
  have hg := zH hs
  unfold PG
  rw [← MJ (List.Perm.refl l) hs, List.map_map]
  conv => rhs; rw [← List.map_id (groups l)]
  refine List.map_congr_left fun g hg' => ?_
  simp only [Function.comp, id]
  rw [← zV hg, KB hg hg']

end Go.Abs
namespace Go.Abs
open Go
abbrev gN (d : List Int) (i : Nat) : Int := d.getD i default

def swp (d : List Int) (i j : Nat) : List Int := (d.set i (gN d j)).set j (gN d i)

theorem RA {d : List Int} {i k : Nat} {x : Int} (h : i < d.length) : gN (d.set i x) k = if k = i then x else gN d k := by
  simp only [gN, List.getD_eq_getElem?_getD, List.getElem?_set]
  by_cases e : i = k
  · subst e; simp [h]
  · rw [if_neg e, if_neg (fun h => e h.symm)]

theorem fZ (d : List Int) (i j : Nat) : (swp d i j).length = d.length := by simp [swp]

theorem qF {d : List Int} {i j : Nat} (hi : i < d.length) (hj : j < d.length) (k : Nat) : gN (swp d i j) k = if k = j then gN d i else if k = i then gN d j else gN d k := by
  unfold swp
  rw [RA (by simpa using hj), RA hi]

theorem UL {d : List Int} {i j : Nat} (hi : i < d.length) (hj : j < d.length) : (swp d i j).Perm d := by
  have h1 : gN d i = d[i] := by simp [gN, List.getD_eq_getElem?_getD, List.getElem?_eq_getElem hi]
  have h2 : gN d j = d[j] := by simp [gN, List.getD_eq_getElem?_getD, List.getElem?_eq_getElem hj]
  unfold swp
  rw [h1, h2]
  exact List.set_set_perm hi hj

structure Rel (a b : Nat) (d d' : List Int) : Prop where
  len : d'.length = d.length
  perm : d'.Perm d
  out : ∀ k, k < a ∨ b ≤ k → gN d' k = gN d k
  src : ∀ k, a ≤ k → k < b → ∃ k', a ≤ k' ∧ k' < b ∧ gN d' k = gN d k'

theorem Rel.refl (a b : Nat) (d : List Int) : Rel a b d d := ⟨rfl, .refl _, fun _ _ => rfl, fun k h1 h2 => ⟨k, h1, h2, rfl⟩⟩

theorem Rel.trans {a b : Nat} {d d' d'' : List Int} (h : Rel a b d d') (h' : Rel a b d' d'') : Rel a b d d'' :=
  ⟨h'.len.trans h.len, h'.perm.trans h.perm, fun k hk => (h'.out k hk).trans (h.out k hk), fun k h1 h2 => by
    obtain ⟨k1, a1, a2, a3⟩ := h'.src k h1 h2
    obtain ⟨k2, b1, b2, b3⟩ := h.src k1 a1 a2
    exact ⟨k2, b1, b2, a3.trans b3⟩⟩

theorem Rel.mono {a b a' b' : Nat} {d d' : List Int} (h : Rel a b d d') (h1 : a' ≤ a) (h2 : b ≤ b') : Rel a' b' d d' :=
  ⟨h.len, h.perm, fun k hk => h.out k (by omega), fun k k1 k2 => by
    by_cases hk : a ≤ k ∧ k < b
    · obtain ⟨k', c1, c2, c3⟩ := h.src k hk.1 hk.2
      exact ⟨k', by omega, by omega, c3⟩
    · exact ⟨k, k1, k2, h.out k (by omega)⟩⟩

theorem Rel.swp {a b : Nat} {d : List Int} {i j : Nat} (hi : i < d.length) (hj : j < d.length) (h1 : a ≤ i ∧ i < b) (h2 : a ≤ j ∧ j < b) : Rel a b d (swp d i j) :=
  ⟨fZ .., UL hi hj, fun k hk => by rw [qF hi hj, if_neg (by omega), if_neg (by omega)], fun k k1 k2 => by
    rw [qF hi hj]
    split
    · exact ⟨i, h1.1, h1.2, rfl⟩
    · split
      · exact ⟨j, h2.1, h2.2, rfl⟩
      · exact ⟨k, k1, k2, rfl⟩⟩

theorem Rel.all {a b : Nat} {d d' : List Int} (h : Rel a b d d') {p : Int → Prop} (hp : ∀ k, a ≤ k → k < b → p (gN d k)) : ∀ k, a ≤ k → k < b → p (gN d' k) := fun k k1 k2 => by
  obtain ⟨k', c1, c2, c3⟩ := h.src k k1 k2
  rw [c3]; exact hp k' c1 c2

def nM (a b : Nat) (d : List Int) : Prop := ∀ p q, a ≤ p → p ≤ q → q < b → gN d p ≤ gN d q

theorem pL (a b : Int) : cW a b = some (decide (a < b)) := by simp [cW, kK, dD]

theorem wrN {x : Int} {n : Nat} (h : x = (n : Int)) (hn : n ≤ 9000000000000000000) : IntKind.i64.wrap x = (n : Int) := by
  rw [iG (by omega) (by omega), h]

theorem asN {i n : Nat} (h : i < n) : 0 ≤ (i : Int) ∧ (i : Int) < ((n : Nat) : Int) := by omega

theorem JS {a b i : Int} {d : List Int} {lo j : Nat} (ha : a = (lo : Nat)) (h1 : lo ≤ j) (hj : j < d.length) (hl : d.length < 4611686018427387904) :
    eK a b i d (j : Nat) = if lo < j ∧ gN d j < gN d (j - 1) then some (.inl (swp d j (j - 1), ((j - 1 : Nat) : Int))) else some (.inr d) := by
  subst ha
  unfold eK
  by_cases h : lo < j
  · have e1 : IntKind.i64.wrap ((j : Int) - 1) = ((j - 1 : Nat) : Int) := wrN (by omega) (by omega)
    have d1 : decide (((lo : Nat) : Int) < ((j : Nat) : Int)) = true := by simp; omega
    rw [e1, d1]
    simp only [true_and, Int.toNat_natCast, pL, dD, cond_true, Option.bind_some, Bool.true_and]
    rw [aK fun _ => asN hj, aK fun _ => asN (by omega)]
    by_cases h2 : gN d j < gN d (j - 1)
    · rw [if_pos ⟨h, h2⟩]
      simp only [gN] at h2
      simp only [h2, decide_true, cond_true]
      rw [aK (asN (by omega)), aK (asN hj), aK (asN hj), aK (asN (by omega))]
      rfl
    · rw [if_neg (fun hh => h2 hh.2)]
      simp only [gN] at h2
      simp only [h2, decide_false, cond_false]
  · have d1 : decide (((lo : Nat) : Int) < ((j : Nat) : Int)) = false := by simp; omega
    rw [if_neg (fun hh => h hh.1), d1]
    simp only [Bool.false_eq_true, false_implies, dD, cond_false, Option.bind_some, Bool.false_and]
    rw [aK trivial, aK trivial]

structure AH (a j i : Nat) (d : List Int) : Prop where
  oth : ∀ p q, a ≤ p → p ≤ q → q ≤ i → p ≠ j → q ≠ j → gN d p ≤ gN d q
  up : ∀ q, j < q → q ≤ i → gN d j ≤ gN d q

theorem AH.done {a j i : Nat} {d : List Int} (h : AH a j i d) (hj : a ≤ j) (hn : ¬ (a < j ∧ gN d j < gN d (j - 1))) : nM a (i + 1) d := by
  intro p q h1 h2 h3
  by_cases hp : p = j
  · by_cases hq : q = j
    · subst hp; subst hq; exact Int.le_refl _
    · subst hp; exact h.up q (by omega) (by omega)
  · by_cases hq : q = j
    · subst hq
      have h4 : ¬ gN d q < gN d (q - 1) := fun hh => hn ⟨by omega, hh⟩
      have := h.oth p (q - 1) h1 (by omega) (by omega) hp (by omega)
      omega
    · exact h.oth p q h1 h2 (by omega) hp hq

end Go.Abs
