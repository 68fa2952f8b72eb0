/- What the law CountsParts stands on: the framework, the given functions as plain functions, their walks, and the plain laws; part 4. -/
import Derived.Test.YtfhaegpflbcmgaaCountsPartsZ3
set_option linter.unusedSimpArgs false
set_option linter.unusedVariables false
namespace Go.Abs
open Go Go.RowKit Go.Proofs
theorem uC (lo0p : Nat) (aA : (List Int)) (a1 : Int) (b2 : Int) (cM : Int) (r : (Int × List Int)) (h0 : eU aA a1 b2 cM = some r) : nC Try.prog 85 lo0p 1 (List.map (eI) aA) (List.map (eI) r.2) [(.msl 1 lo0p 0 (List.length aA)), (eI a1), (eI b2), (eI cM)] (eI r.1) := by
  intro H0 hl0
  refine dF Try.func85 ?_
  have hO := aL.rR hl0
  clear hl0
  obtain ⟨N0, hN0⟩ : ∃ n, n = List.length aA := ⟨_, rfl⟩
  have hN : List.length aA = N0 := hN0.symm
  unfold eU at h0
  refine aT aD 1 [] [] ?_
  refine aP ?_
  refine eC (eE []) aD 16 ?_
  obtain ⟨c1, h0⟩ := aR h0
  refine cB 7 [0 ≤ cM ∧ cM < (lN aA)] ⟨c1, trivial⟩ ?_
  refine fL 0 lo0p 1 (0 + Int.toNat cM) (eI (gD aA cM)) (eI (gD aA cM)) (List.map (eI) aA) hO (bY c1) ?_
  obtain ⟨c2, h0⟩ := aR h0
  refine cB 11 [0 ≤ a1 ∧ a1 < (lN aA)] ⟨c2, trivial⟩ ?_
  refine fL 0 lo0p 1 (0 + Int.toNat a1) (eI (gD aA a1)) (eI (gD aA a1)) (List.map (eI) aA) hO (bY c2) ?_
  obtain ⟨c3, h0⟩ := aR h0
  refine cB 13 [0 ≤ a1 ∧ a1 < (lN aA)] ⟨c3, trivial⟩ ?_
  refine jN 0 lo0p 1 (0 + Int.toNat a1) (eI (gD aA a1)) (eI (gD aA cM)) (List.map (eI) aA) [(lo0p, 1, List.map (eI) (List.set aA (Int.toNat a1) (gD aA cM)))] hO (bY c3) (by simp only [List.set, gK]) ?_
  intro H hO
  replace hN : List.length (List.set aA (Int.toNat a1) (gD aA cM)) = N0 := by simpa using hN
  obtain ⟨c4, h0⟩ := aR h0
  refine cB 15 [0 ≤ cM ∧ cM < (lN aA)] ⟨c4, trivial⟩ ?_
  refine jN 0 lo0p 1 (0 + Int.toNat cM) (eI (gD (List.set aA (Int.toNat a1) (gD aA cM)) cM)) (eI (gD aA a1)) (List.map (eI) (List.set aA (Int.toNat a1) (gD aA cM))) [(lo0p, 1, List.map (eI) (List.set (List.set aA (Int.toNat a1) (gD aA cM)) (Int.toNat cM) (gD aA a1)))] hO (mV c4 (by simp [])) (by simp only [List.set, gK]) ?_
  intro H hO
  replace hN : List.length (List.set (List.set aA (Int.toNat a1) (gD aA cM)) (Int.toNat cM) (gD aA a1)) = N0 := by simpa using hN
  refine lZ (by kernel_rfl) ?_
  refine dA (l := [(0, (.msl 1 lo0p 0 (List.length (List.set (List.set aA (Int.toNat a1) (gD aA cM)) (Int.toNat cM) (gD aA a1))))), (1, (eI a1)), (2, (eI b2))]) ⟨[(0, (.msl 1 lo0p 0 (List.length aA))), (1, (eI a1)), (2, (eI b2))], by kernel_rfl, rfl, ⟨aN.eq (by simp []), aN.refl _, aN.refl _, trivial⟩⟩ ?_
  refine aG (aF (?_))
  refine aT aD 6 [2] [(9, (eI (wR (a1 + (1 : Int))))), (10, (eI (wR (b2 - (1 : Int)))))] ?_
  refine dU (fun T H => ∃ aA : List Int, ∃ i9 : Int, Has T [(0, (.msl 1 lo0p 0 (List.length aA))), (9, (eI i9))] ∧ aL ⟨H0, [lo0p], []⟩ H [(lo0p, 1, List.map (eI) aA)] ∧ List.length aA = N0 ∧ iP aA i9 = some r) ?_ ?_
  · clear hO hN h0
    rintro T H ⟨aA, i9, hT, hO, hN, h0⟩
    refine bC hT ?_
    clear hT
    unfold iP at h0
    refine aT aD 2 [9] [(8, (eI i9))] ?_
    refine bI ?_
    obtain rfl := oI h0
    exact aG (lE (x := (eI i9)) (by kernel_rfl) (aN.refl _) ⟨rfl, hO.ext, hO.at 0 (by kernel_rfl), by first | rfl | (simp only [List.length_map]; exact hN.trans hN0)⟩)
  refine bZ 0 ?_
  refine eZ [(0, (.msl 1 lo0p 0 (List.length (List.set (List.set aA (Int.toNat a1) (gD aA cM)) (Int.toNat cM) (gD aA a1))))), (1, (eI a1)), (9, (eI (wR (a1 + (1 : Int))))), (10, (eI (wR (b2 - (1 : Int)))))] ?_
  refine dO (fun T H => ∃ aA : List Int, ∃ i9 : Int, ∃ j10 : Int, Has T [(0, (.msl 1 lo0p 0 (List.length aA))), (1, (eI a1)), (9, (eI i9)), (10, (eI j10))] ∧ aL ⟨H0, [lo0p], []⟩ H [(lo0p, 1, List.map (eI) aA)] ∧ List.length aA = N0 ∧ iR aA a1 i9 j10 = some r) ?_ ⟨List.set (List.set aA (Int.toNat a1) (gD aA cM)) (Int.toNat cM) (gD aA a1), wR (a1 + (1 : Int)), wR (b2 - (1 : Int)), .eq (by kernel_rfl), hO, hN, h0⟩
  clear hO hN h0
  rintro T H ⟨aA, i9, j10, hT, hO, hN, h0⟩
  refine bC hT ?_
  clear hT
  unfold iR at h0
  obtain ⟨rr0, hl0, h0⟩ := aZ h0
  refine cP (by kernel_rfl) (fun (s : List Int × Int × Int) T H => Has T [(0, (.msl 1 lo0p 0 (List.length s.1))), (1, (eI a1)), (9, (eI s.2.1)), (10, (eI s.2.2))] ∧ aL ⟨H0, [lo0p], []⟩ H [(lo0p, 1, List.map (eI) s.1)] ∧ List.length s.1 = N0) hl0 ⟨.eq (by kernel_rfl), hO, hN⟩ ?_
  clear hO hN
  rintro k0 s out1 T H ⟨hT, hO, hN⟩ h1 ho0
  obtain ⟨aA, i9, j10⟩ := s
  replace h1 : cU a1 aA i9 j10 = some out1 := h1
  try dsimp only at hT
  refine bC hT ?_
  clear hT
  unfold cU at h1
  refine bZ 1 ?_
  refine dU (fun T H => ∃ aA : List Int, ∃ i9 : Int, Has T [(0, (.msl 1 lo0p 0 (List.length aA))), (1, (eI a1)), (9, (eI i9)), (10, (eI j10))] ∧ aL ⟨H0, [lo0p], []⟩ H [(lo0p, 1, List.map (eI) aA)] ∧ List.length aA = N0 ∧ fS aA a1 i9 j10 = some out1) ?_ ?_
  · clear hO hN h1
    rintro T H ⟨aA, i9, hT, hO, hN, h1⟩
    refine bC hT ?_
    clear hT
    unfold fS at h1
    refine dU (fun T H => ∃ aA : List Int, ∃ j10 : Int, Has T [(0, (.msl 1 lo0p 0 (List.length aA))), (1, (eI a1)), (9, (eI i9)), (10, (eI j10))] ∧ aL ⟨H0, [lo0p], []⟩ H [(lo0p, 1, List.map (eI) aA)] ∧ List.length aA = N0 ∧ dS aA a1 i9 j10 = some out1) ?_ ?_
    · clear hO hN h1
      rintro T H ⟨aA, j10, hT, hO, hN, h1⟩
      refine bC hT ?_
      clear hT
      unfold dS at h1
      refine aP ?_
      refine aT aD 3 [] [(64, (aE (decide (j10 < i9))))] ?_
      refine bF h1 (fun h1 => ?_) (fun h1 => ?_)
      · refine eP 0 ?_
        obtain rfl := oI h1
        obtain rfl : _ = rr0 := ho0
        replace h0 : iP aA i9 = some r := h0
        exact aG (aS (uP (by kernel_rfl) (aS (bP (aF (⟨rfl, _, _, .eq (by kernel_rfl), hO, hN, h0⟩))))))
      refine bG ?_
      refine bE [(0, (.msl 1 lo0p 0 (List.length aA))), (1, (eI a1)), (9, (eI i9)), (10, (eI j10))] ?_
      refine aP ?_
      refine eC (eE []) aD 16 ?_
      obtain ⟨c6, h1⟩ := aR h1
      refine cB 7 [0 ≤ j10 ∧ j10 < (lN aA)] ⟨c6, trivial⟩ ?_
      refine fL 0 lo0p 1 (0 + Int.toNat j10) (eI (gD aA j10)) (eI (gD aA j10)) (List.map (eI) aA) hO (bY c6) ?_
      obtain ⟨c7, h1⟩ := aR h1
      refine cB 11 [0 ≤ i9 ∧ i9 < (lN aA)] ⟨c7, trivial⟩ ?_
      refine fL 0 lo0p 1 (0 + Int.toNat i9) (eI (gD aA i9)) (eI (gD aA i9)) (List.map (eI) aA) hO (bY c7) ?_
      obtain ⟨c8, h1⟩ := aR h1
      refine cB 13 [0 ≤ i9 ∧ i9 < (lN aA)] ⟨c8, trivial⟩ ?_
      refine jN 0 lo0p 1 (0 + Int.toNat i9) (eI (gD aA i9)) (eI (gD aA j10)) (List.map (eI) aA) [(lo0p, 1, List.map (eI) (List.set aA (Int.toNat i9) (gD aA j10)))] hO (bY c8) (by simp only [List.set, gK]) ?_
      intro H hO
      replace hN : List.length (List.set aA (Int.toNat i9) (gD aA j10)) = N0 := by simpa using hN
      obtain ⟨c9, h1⟩ := aR h1
      refine cB 15 [0 ≤ j10 ∧ j10 < (lN aA)] ⟨c9, trivial⟩ ?_
      refine jN 0 lo0p 1 (0 + Int.toNat j10) (eI (gD (List.set aA (Int.toNat i9) (gD aA j10)) j10)) (eI (gD aA i9)) (List.map (eI) (List.set aA (Int.toNat i9) (gD aA j10))) [(lo0p, 1, List.map (eI) (List.set (List.set aA (Int.toNat i9) (gD aA j10)) (Int.toNat j10) (gD aA i9)))] hO (mV c9 (by simp [])) (by simp only [List.set, gK]) ?_
      intro H hO
      replace hN : List.length (List.set (List.set aA (Int.toNat i9) (gD aA j10)) (Int.toNat j10) (gD aA i9)) = N0 := by simpa using hN
      refine lZ (by kernel_rfl) ?_
      refine dA (l := [(0, (.msl 1 lo0p 0 (List.length (List.set (List.set aA (Int.toNat i9) (gD aA j10)) (Int.toNat j10) (gD aA i9))))), (1, (eI a1)), (9, (eI i9)), (10, (eI j10))]) ⟨[(0, (.msl 1 lo0p 0 (List.length aA))), (1, (eI a1)), (9, (eI i9)), (10, (eI j10))], by kernel_rfl, rfl, ⟨aN.eq (by simp []), aN.refl _, aN.refl _, aN.refl _, trivial⟩⟩ ?_
      refine aG (aF (?_))
      refine aT aD 3 [9] [(9, (eI (wR (i9 + (1 : Int)))))] ?_
      refine aW aD 3 ?_
      refine bD ?_
      exact aG (aY (aF (⟨rfl, _, (oI h1).symm, .eq (by kernel_rfl), hO, hN⟩)))
    refine bZ 4 ?_
    refine eZ [(0, (.msl 1 lo0p 0 (List.length aA))), (1, (eI a1)), (9, (eI i9)), (10, (eI j10))] ?_
    refine dO (fun T H => ∃ aA : List Int, ∃ j10 : Int, Has T [(0, (.msl 1 lo0p 0 (List.length aA))), (1, (eI a1)), (9, (eI i9)), (10, (eI j10))] ∧ aL ⟨H0, [lo0p], []⟩ H [(lo0p, 1, List.map (eI) aA)] ∧ List.length aA = N0 ∧ iQ aA a1 i9 j10 = some out1) ?_ ⟨aA, j10, .eq (by kernel_rfl), hO, hN, h1⟩
    clear hO hN h1
    rintro T H ⟨aA, j10, hT, hO, hN, h1⟩
    refine bC hT ?_
    clear hT
    unfold iQ at h1
    obtain ⟨rr1, hl1, h1⟩ := aZ h1
    refine cP (by kernel_rfl) (fun (s : List Int × Int) T H => Has T [(0, (.msl 1 lo0p 0 (List.length s.1))), (1, (eI a1)), (9, (eI i9)), (10, (eI s.2))] ∧ aL ⟨H0, [lo0p], []⟩ H [(lo0p, 1, List.map (eI) s.1)] ∧ List.length s.1 = N0) hl1 ⟨.eq (by kernel_rfl), hO, hN⟩ ?_
    clear hO hN
    rintro k1 s out2 T H ⟨hT, hO, hN⟩ h2 ho1
    obtain ⟨aA, j10⟩ := s
    replace h2 : dQ a1 i9 aA j10 = some out2 := h2
    try dsimp only at hT
    refine bC hT ?_
    clear hT
    unfold dQ at h2
    refine aP ?_
    refine aP ?_
    obtain ⟨c10, h2⟩ := aR h2
    obtain ⟨c11, h2⟩ := aR h2
    obtain ⟨x12, hx13, h2⟩ := aZ h2
    refine eC (eE []) aD 14 ?_
    refine lR (K := fun T H => Has (lift T) [(0, (.msl 1 lo0p 0 (List.length aA))), (1, (eI a1)), (9, (eI i9)), (10, (eI j10)), (59, (aE ((decide (i9 ≤ j10)) && x12)))] ∧ aL ⟨H0, [lo0p], []⟩ H [(lo0p, 1, List.map (eI) aA)]) ?_ ?_
    · refine kR 4 ?_
      refine jR (t := 49) (e := decide (i9 ≤ j10)) (by kernel_rfl) (fun hg14 => ?_) (fun hg14 => ?_)
      · refine cB 7 [0 ≤ a1 ∧ a1 < (lN aA)] ⟨(c10 hg14), trivial⟩ ?_
        refine iB 0 lo0p 1 (0 + Int.toNat a1) (eI (gD aA a1)) (eI (gD aA a1)) (List.map (eI) aA) (by kernel_rfl) (by kernel_rfl) (by kernel_rfl) hO (by kernel_rfl) (bY (c10 hg14)) ?_
        refine cB 11 [0 ≤ j10 ∧ j10 < (lN aA)] ⟨(c11 hg14), trivial⟩ ?_
        refine iB 0 lo0p 1 (0 + Int.toNat j10) (eI (gD aA j10)) (eI (gD aA j10)) (List.map (eI) aA) (by kernel_rfl) (by kernel_rfl) (by kernel_rfl) hO (by kernel_rfl) (bY (c11 hg14)) ?_
        refine lS 70 [(eI (gD aA a1)), (eI (gD aA j10))] (aE x12) (by kernel_rfl) (by kernel_rfl) (fF (gD aA a1) (gD aA j10) _ (iV hx13 hg14)) hO ?_
        intro H hO
        refine gG ?_
        exact ⟨⟨[(0, (.msl 1 lo0p 0 (List.length aA))), (1, (eI a1)), (9, (eI i9)), (10, (eI j10)), (59, (aE x12))], by kernel_rfl, rfl, ⟨aN.refl _, aN.refl _, aN.refl _, aN.refl _, aN.eq (congrArg aE (fV hg14 rfl).symm), trivial⟩⟩, hO⟩
      refine gG ?_
      exact ⟨⟨[(0, (.msl 1 lo0p 0 (List.length aA))), (1, (eI a1)), (9, (eI i9)), (10, (eI j10)), (59, (aE false))], by kernel_rfl, rfl, ⟨aN.refl _, aN.refl _, aN.refl _, aN.refl _, aN.eq (congrArg aE (fV hg14 rfl).symm), trivial⟩⟩, hO⟩
    · rintro T H ⟨hT, hO⟩
      refine dA hT ?_
      clear hT
      refine aG (aF ?_)
      refine bF h2 (fun h2 => ?_) (fun h2 => ?_)
      · refine bG ?_
        refine bE [(0, (.msl 1 lo0p 0 (List.length aA))), (1, (eI a1)), (9, (eI i9)), (10, (eI j10))] ?_
        refine bZ 5 ?_
        refine aW aD 3 ?_
        refine bD ?_
        exact aG (aY (aF (⟨rfl, _, (oI h2).symm, .eq (by kernel_rfl), hO, hN⟩)))
      refine eP 4 ?_
      obtain rfl := oI h2
      obtain rfl : _ = rr1 := ho1
      replace h1 : dS aA a1 i9 j10 = some out1 := h1
      exact aG (aS (aS (bP (aF (⟨rfl, _, _, .eq (by kernel_rfl), hO, hN, h1⟩)))))
  refine bZ 2 ?_
  refine eZ [(0, (.msl 1 lo0p 0 (List.length aA))), (1, (eI a1)), (9, (eI i9)), (10, (eI j10))] ?_
  refine dO (fun T H => ∃ aA : List Int, ∃ i9 : Int, Has T [(0, (.msl 1 lo0p 0 (List.length aA))), (1, (eI a1)), (9, (eI i9)), (10, (eI j10))] ∧ aL ⟨H0, [lo0p], []⟩ H [(lo0p, 1, List.map (eI) aA)] ∧ List.length aA = N0 ∧ iU aA a1 i9 j10 = some out1) ?_ ⟨aA, i9, .eq (by kernel_rfl), hO, hN, h1⟩
  clear hO hN h1
  rintro T H ⟨aA, i9, hT, hO, hN, h1⟩
  refine bC hT ?_
  clear hT
  unfold iU at h1
  obtain ⟨rr1, hl1, h1⟩ := aZ h1
  refine cP (by kernel_rfl) (fun (s : List Int × Int) T H => Has T [(0, (.msl 1 lo0p 0 (List.length s.1))), (1, (eI a1)), (9, (eI s.2)), (10, (eI j10))] ∧ aL ⟨H0, [lo0p], []⟩ H [(lo0p, 1, List.map (eI) s.1)] ∧ List.length s.1 = N0) hl1 ⟨.eq (by kernel_rfl), hO, hN⟩ ?_
  clear hO hN
  rintro k1 s out2 T H ⟨hT, hO, hN⟩ h2 ho1
  obtain ⟨aA, i9⟩ := s
  replace h2 : dP a1 j10 aA i9 = some out2 := h2
  try dsimp only at hT
  refine bC hT ?_
  clear hT
  unfold dP at h2
  refine aP ?_
  refine aP ?_
  obtain ⟨c16, h2⟩ := aR h2
  obtain ⟨c17, h2⟩ := aR h2
  obtain ⟨x18, hx19, h2⟩ := aZ h2
  refine eC (eE []) aD 15 ?_
  refine lR (K := fun T H => Has (lift T) [(0, (.msl 1 lo0p 0 (List.length aA))), (1, (eI a1)), (9, (eI i9)), (10, (eI j10)), (43, (aE ((decide (i9 ≤ j10)) && (!x18))))] ∧ aL ⟨H0, [lo0p], []⟩ H [(lo0p, 1, List.map (eI) aA)]) ?_ ?_
  · refine kR 4 ?_
    refine jR (t := 32) (e := decide (i9 ≤ j10)) (by kernel_rfl) (fun hg20 => ?_) (fun hg20 => ?_)
    · refine cB 7 [0 ≤ a1 ∧ a1 < (lN aA)] ⟨(c16 hg20), trivial⟩ ?_
      refine iB 0 lo0p 1 (0 + Int.toNat a1) (eI (gD aA a1)) (eI (gD aA a1)) (List.map (eI) aA) (by kernel_rfl) (by kernel_rfl) (by kernel_rfl) hO (by kernel_rfl) (bY (c16 hg20)) ?_
      refine cB 11 [0 ≤ i9 ∧ i9 < (lN aA)] ⟨(c17 hg20), trivial⟩ ?_
      refine iB 0 lo0p 1 (0 + Int.toNat i9) (eI (gD aA i9)) (eI (gD aA i9)) (List.map (eI) aA) (by kernel_rfl) (by kernel_rfl) (by kernel_rfl) hO (by kernel_rfl) (bY (c17 hg20)) ?_
      refine lS 70 [(eI (gD aA a1)), (eI (gD aA i9))] (aE x18) (by kernel_rfl) (by kernel_rfl) (fF (gD aA a1) (gD aA i9) _ (iV hx19 hg20)) hO ?_
      intro H hO
      refine gG ?_
      exact ⟨⟨[(0, (.msl 1 lo0p 0 (List.length aA))), (1, (eI a1)), (9, (eI i9)), (10, (eI j10)), (43, (aE (!x18)))], by kernel_rfl, rfl, ⟨aN.refl _, aN.refl _, aN.refl _, aN.refl _, aN.eq (congrArg aE (fV hg20 rfl).symm), trivial⟩⟩, hO⟩
    refine gG ?_
    exact ⟨⟨[(0, (.msl 1 lo0p 0 (List.length aA))), (1, (eI a1)), (9, (eI i9)), (10, (eI j10)), (43, (aE false))], by kernel_rfl, rfl, ⟨aN.refl _, aN.refl _, aN.refl _, aN.refl _, aN.eq (congrArg aE (fV hg20 rfl).symm), trivial⟩⟩, hO⟩
  · rintro T H ⟨hT, hO⟩
    refine dA hT ?_
    clear hT
    refine aG (aF ?_)
    refine bF h2 (fun h2 => ?_) (fun h2 => ?_)
    · refine bG ?_
      refine bE [(0, (.msl 1 lo0p 0 (List.length aA))), (1, (eI a1)), (9, (eI i9)), (10, (eI j10))] ?_
      refine bZ 3 ?_
      refine aW aD 3 ?_
      refine bD ?_
      exact aG (aY (aF (⟨rfl, _, (oI h2).symm, .eq (by kernel_rfl), hO, hN⟩)))
    refine eP 2 ?_
    obtain rfl := oI h2
    obtain rfl : _ = rr1 := ho1
    replace h1 : fS aA a1 i9 j10 = some out1 := h1
    exact aG (aS (aS (bP (aF (⟨rfl, _, _, .eq (by kernel_rfl), hO, hN, h1⟩)))))

end Go.Abs
namespace Go.Abs
open Go Go.RowKit Go.Proofs
theorem wO (lo0p : Nat) (aA : (List Int)) (a1 : Int) (b2 : Int) (cM : Int) (r : ((Int × Bool) × List Int)) (h0 : gF aA a1 b2 cM = some r) : nC Try.prog 86 lo0p 1 (List.map (eI) aA) (List.map (eI) r.2) [(.msl 1 lo0p 0 (List.length aA)), (eI a1), (eI b2), (eI cM)] (.tup [(eI r.1.1), (aE r.1.2)]) := by
  intro H0 hl0
  refine dF Try.func86 ?_
  have hO := aL.rR hl0
  clear hl0
  obtain ⟨N0, hN0⟩ : ∃ n, n = List.length aA := ⟨_, rfl⟩
  have hN : List.length aA = N0 := hN0.symm
  unfold gF at h0
  refine aT aD 2 [] [] ?_
  refine aP ?_
  refine eC (eE []) aD 16 ?_
  obtain ⟨c1, h0⟩ := aR h0
  refine cB 7 [0 ≤ cM ∧ cM < (lN aA)] ⟨c1, trivial⟩ ?_
  refine fL 0 lo0p 1 (0 + Int.toNat cM) (eI (gD aA cM)) (eI (gD aA cM)) (List.map (eI) aA) hO (bY c1) ?_
  obtain ⟨c2, h0⟩ := aR h0
  refine cB 11 [0 ≤ a1 ∧ a1 < (lN aA)] ⟨c2, trivial⟩ ?_
  refine fL 0 lo0p 1 (0 + Int.toNat a1) (eI (gD aA a1)) (eI (gD aA a1)) (List.map (eI) aA) hO (bY c2) ?_
  obtain ⟨c3, h0⟩ := aR h0
  refine cB 13 [0 ≤ a1 ∧ a1 < (lN aA)] ⟨c3, trivial⟩ ?_
  refine jN 0 lo0p 1 (0 + Int.toNat a1) (eI (gD aA a1)) (eI (gD aA cM)) (List.map (eI) aA) [(lo0p, 1, List.map (eI) (List.set aA (Int.toNat a1) (gD aA cM)))] hO (bY c3) (by simp only [List.set, gK]) ?_
  intro H hO
  replace hN : List.length (List.set aA (Int.toNat a1) (gD aA cM)) = N0 := by simpa using hN
  obtain ⟨c4, h0⟩ := aR h0
  refine cB 15 [0 ≤ cM ∧ cM < (lN aA)] ⟨c4, trivial⟩ ?_
  refine jN 0 lo0p 1 (0 + Int.toNat cM) (eI (gD (List.set aA (Int.toNat a1) (gD aA cM)) cM)) (eI (gD aA a1)) (List.map (eI) (List.set aA (Int.toNat a1) (gD aA cM))) [(lo0p, 1, List.map (eI) (List.set (List.set aA (Int.toNat a1) (gD aA cM)) (Int.toNat cM) (gD aA a1)))] hO (mV c4 (by simp [])) (by simp only [List.set, gK]) ?_
  intro H hO
  replace hN : List.length (List.set (List.set aA (Int.toNat a1) (gD aA cM)) (Int.toNat cM) (gD aA a1)) = N0 := by simpa using hN
  refine lZ (by kernel_rfl) ?_
  refine dA (l := [(0, (.msl 1 lo0p 0 (List.length (List.set (List.set aA (Int.toNat a1) (gD aA cM)) (Int.toNat cM) (gD aA a1))))), (1, (eI a1)), (2, (eI b2))]) ⟨[(0, (.msl 1 lo0p 0 (List.length aA))), (1, (eI a1)), (2, (eI b2))], by kernel_rfl, rfl, ⟨aN.eq (by simp []), aN.refl _, aN.refl _, trivial⟩⟩ ?_
  refine aG (aF (?_))
  refine aT aD 6 [2] [(10, (eI (wR (a1 + (1 : Int))))), (11, (eI (wR (b2 - (1 : Int)))))] ?_
  refine dU (fun T H => ∃ aA : List Int, ∃ i10 : Int, ∃ j11 : Int, Has T [(0, (.msl 1 lo0p 0 (List.length aA))), (1, (eI a1)), (10, (eI i10)), (11, (eI j11))] ∧ aL ⟨H0, [lo0p], []⟩ H [(lo0p, 1, List.map (eI) aA)] ∧ List.length aA = N0 ∧ iF aA a1 i10 j11 = some r) ?_ ?_
  · clear hO hN h0
    rintro T H ⟨aA, i10, j11, hT, hO, hN, h0⟩
    refine bC hT ?_
    clear hT
    unfold iF at h0
    refine dU (fun T H => ∃ aA : List Int, ∃ j11 : Int, Has T [(0, (.msl 1 lo0p 0 (List.length aA))), (1, (eI a1)), (10, (eI i10)), (11, (eI j11))] ∧ aL ⟨H0, [lo0p], []⟩ H [(lo0p, 1, List.map (eI) aA)] ∧ List.length aA = N0 ∧ eT aA a1 i10 j11 = some r) ?_ ?_
    · clear hO hN h0
      rintro T H ⟨aA, j11, hT, hO, hN, h0⟩
      refine bC hT ?_
      clear hT
      unfold eT at h0
      refine aP ?_
      refine aT aD 3 [] [(65, (aE (decide (j11 < i10))))] ?_
      refine bF h0 (fun h0 => ?_) (fun h0 => ?_)
      · refine aP ?_
        refine eC (eE []) aD 16 ?_
        obtain ⟨c6, h0⟩ := aR h0
        refine cB 7 [0 ≤ a1 ∧ a1 < (lN aA)] ⟨c6, trivial⟩ ?_
        refine fL 0 lo0p 1 (0 + Int.toNat a1) (eI (gD aA a1)) (eI (gD aA a1)) (List.map (eI) aA) hO (bY c6) ?_
        obtain ⟨c7, h0⟩ := aR h0
        refine cB 11 [0 ≤ j11 ∧ j11 < (lN aA)] ⟨c7, trivial⟩ ?_
        refine fL 0 lo0p 1 (0 + Int.toNat j11) (eI (gD aA j11)) (eI (gD aA j11)) (List.map (eI) aA) hO (bY c7) ?_
        obtain ⟨c8, h0⟩ := aR h0
        refine cB 13 [0 ≤ j11 ∧ j11 < (lN aA)] ⟨c8, trivial⟩ ?_
        refine jN 0 lo0p 1 (0 + Int.toNat j11) (eI (gD aA j11)) (eI (gD aA a1)) (List.map (eI) aA) [(lo0p, 1, List.map (eI) (List.set aA (Int.toNat j11) (gD aA a1)))] hO (bY c8) (by simp only [List.set, gK]) ?_
        intro H hO
        replace hN : List.length (List.set aA (Int.toNat j11) (gD aA a1)) = N0 := by simpa using hN
        obtain ⟨c9, h0⟩ := aR h0
        refine cB 15 [0 ≤ a1 ∧ a1 < (lN aA)] ⟨c9, trivial⟩ ?_
        refine jN 0 lo0p 1 (0 + Int.toNat a1) (eI (gD (List.set aA (Int.toNat j11) (gD aA a1)) a1)) (eI (gD aA j11)) (List.map (eI) (List.set aA (Int.toNat j11) (gD aA a1))) [(lo0p, 1, List.map (eI) (List.set (List.set aA (Int.toNat j11) (gD aA a1)) (Int.toNat a1) (gD aA j11)))] hO (mV c9 (by simp [])) (by simp only [List.set, gK]) ?_
        intro H hO
        replace hN : List.length (List.set (List.set aA (Int.toNat j11) (gD aA a1)) (Int.toNat a1) (gD aA j11)) = N0 := by simpa using hN
        refine lZ (by kernel_rfl) ?_
        refine dA (l := [(0, (.msl 1 lo0p 0 (List.length (List.set (List.set aA (Int.toNat j11) (gD aA a1)) (Int.toNat a1) (gD aA j11))))), (11, (eI j11))]) ⟨[(0, (.msl 1 lo0p 0 (List.length aA))), (11, (eI j11))], by kernel_rfl, rfl, ⟨aN.eq (by simp []), aN.refl _, trivial⟩⟩ ?_
        refine aG (aF (?_))
        refine aT aD 3 [11] [(8, (eI j11)), (9, (aE true))] ?_
        refine bI ?_
        obtain rfl := oI h0
        exact aG (aQ (lE (x := (.tup [(eI j11), (aE true)])) (by kernel_rfl) (aN.refl _) ⟨rfl, hO.ext, hO.at 0 (by kernel_rfl), by simp only [List.length_map]; exact hN.trans hN0⟩))
      refine bG ?_
      refine bE [(0, (.msl 1 lo0p 0 (List.length aA))), (1, (eI a1)), (10, (eI i10)), (11, (eI j11))] ?_
      refine aP ?_
      refine eC (eE []) aD 16 ?_
      obtain ⟨c10, h0⟩ := aR h0
      refine cB 7 [0 ≤ j11 ∧ j11 < (lN aA)] ⟨c10, trivial⟩ ?_
      refine fL 0 lo0p 1 (0 + Int.toNat j11) (eI (gD aA j11)) (eI (gD aA j11)) (List.map (eI) aA) hO (bY c10) ?_
      obtain ⟨c11, h0⟩ := aR h0
      refine cB 11 [0 ≤ i10 ∧ i10 < (lN aA)] ⟨c11, trivial⟩ ?_
      refine fL 0 lo0p 1 (0 + Int.toNat i10) (eI (gD aA i10)) (eI (gD aA i10)) (List.map (eI) aA) hO (bY c11) ?_
      obtain ⟨c12, h0⟩ := aR h0
      refine cB 13 [0 ≤ i10 ∧ i10 < (lN aA)] ⟨c12, trivial⟩ ?_
      refine jN 0 lo0p 1 (0 + Int.toNat i10) (eI (gD aA i10)) (eI (gD aA j11)) (List.map (eI) aA) [(lo0p, 1, List.map (eI) (List.set aA (Int.toNat i10) (gD aA j11)))] hO (bY c12) (by simp only [List.set, gK]) ?_
      intro H hO
      replace hN : List.length (List.set aA (Int.toNat i10) (gD aA j11)) = N0 := by simpa using hN
      obtain ⟨c13, h0⟩ := aR h0
      refine cB 15 [0 ≤ j11 ∧ j11 < (lN aA)] ⟨c13, trivial⟩ ?_
      refine jN 0 lo0p 1 (0 + Int.toNat j11) (eI (gD (List.set aA (Int.toNat i10) (gD aA j11)) j11)) (eI (gD aA i10)) (List.map (eI) (List.set aA (Int.toNat i10) (gD aA j11))) [(lo0p, 1, List.map (eI) (List.set (List.set aA (Int.toNat i10) (gD aA j11)) (Int.toNat j11) (gD aA i10)))] hO (mV c13 (by simp [])) (by simp only [List.set, gK]) ?_
      intro H hO
      replace hN : List.length (List.set (List.set aA (Int.toNat i10) (gD aA j11)) (Int.toNat j11) (gD aA i10)) = N0 := by simpa using hN
      refine lZ (by kernel_rfl) ?_
      refine dA (l := [(0, (.msl 1 lo0p 0 (List.length (List.set (List.set aA (Int.toNat i10) (gD aA j11)) (Int.toNat j11) (gD aA i10))))), (1, (eI a1)), (10, (eI i10)), (11, (eI j11))]) ⟨[(0, (.msl 1 lo0p 0 (List.length aA))), (1, (eI a1)), (10, (eI i10)), (11, (eI j11))], by kernel_rfl, rfl, ⟨aN.eq (by simp []), aN.refl _, aN.refl _, aN.refl _, trivial⟩⟩ ?_
      refine aG (aF (?_))
      refine aT aD 3 [10] [(10, (eI (wR (i10 + (1 : Int)))))] ?_
      refine aT aD 3 [11] [(11, (eI (wR (j11 - (1 : Int)))))] ?_
      refine dU (fun T H => ∃ aA : List Int, ∃ j11 : Int, Has T [(0, (.msl 1 lo0p 0 (List.length aA))), (1, (eI a1)), (11, (eI j11))] ∧ aL ⟨H0, [lo0p], []⟩ H [(lo0p, 1, List.map (eI) aA)] ∧ List.length aA = N0 ∧ iE aA a1 j11 = some r) ?_ ?_
      · clear hO hN h0
        rintro T H ⟨aA, j11, hT, hO, hN, h0⟩
        refine bC hT ?_
        clear hT
        unfold iE at h0
        refine aP ?_
        refine eC (eE []) aD 16 ?_
        obtain ⟨c14, h0⟩ := aR h0
        refine cB 7 [0 ≤ a1 ∧ a1 < (lN aA)] ⟨c14, trivial⟩ ?_
        refine fL 0 lo0p 1 (0 + Int.toNat a1) (eI (gD aA a1)) (eI (gD aA a1)) (List.map (eI) aA) hO (bY c14) ?_
        obtain ⟨c15, h0⟩ := aR h0
        refine cB 11 [0 ≤ j11 ∧ j11 < (lN aA)] ⟨c15, trivial⟩ ?_
        refine fL 0 lo0p 1 (0 + Int.toNat j11) (eI (gD aA j11)) (eI (gD aA j11)) (List.map (eI) aA) hO (bY c15) ?_
        obtain ⟨c16, h0⟩ := aR h0
        refine cB 13 [0 ≤ j11 ∧ j11 < (lN aA)] ⟨c16, trivial⟩ ?_
        refine jN 0 lo0p 1 (0 + Int.toNat j11) (eI (gD aA j11)) (eI (gD aA a1)) (List.map (eI) aA) [(lo0p, 1, List.map (eI) (List.set aA (Int.toNat j11) (gD aA a1)))] hO (bY c16) (by simp only [List.set, gK]) ?_
        intro H hO
        replace hN : List.length (List.set aA (Int.toNat j11) (gD aA a1)) = N0 := by simpa using hN
        obtain ⟨c17, h0⟩ := aR h0
        refine cB 15 [0 ≤ a1 ∧ a1 < (lN aA)] ⟨c17, trivial⟩ ?_
        refine jN 0 lo0p 1 (0 + Int.toNat a1) (eI (gD (List.set aA (Int.toNat j11) (gD aA a1)) a1)) (eI (gD aA j11)) (List.map (eI) (List.set aA (Int.toNat j11) (gD aA a1))) [(lo0p, 1, List.map (eI) (List.set (List.set aA (Int.toNat j11) (gD aA a1)) (Int.toNat a1) (gD aA j11)))] hO (mV c17 (by simp [])) (by simp only [List.set, gK]) ?_
        intro H hO
        replace hN : List.length (List.set (List.set aA (Int.toNat j11) (gD aA a1)) (Int.toNat a1) (gD aA j11)) = N0 := by simpa using hN
        refine lZ (by kernel_rfl) ?_
        refine dA (l := [(0, (.msl 1 lo0p 0 (List.length (List.set (List.set aA (Int.toNat j11) (gD aA a1)) (Int.toNat a1) (gD aA j11))))), (11, (eI j11))]) ⟨[(0, (.msl 1 lo0p 0 (List.length aA))), (11, (eI j11))], by kernel_rfl, rfl, ⟨aN.eq (by simp []), aN.refl _, trivial⟩⟩ ?_
        refine aG (aF (?_))
        refine aT aD 3 [11] [(8, (eI j11)), (9, (aE false))] ?_
        refine bI ?_
        obtain rfl := oI h0
        exact aG (lE (x := (.tup [(eI j11), (aE false)])) (by kernel_rfl) (aN.refl _) ⟨rfl, hO.ext, hO.at 0 (by kernel_rfl), by simp only [List.length_map]; exact hN.trans hN0⟩)
      refine bZ 4 ?_
      refine eZ [(0, (.msl 1 lo0p 0 (List.length (List.set (List.set aA (Int.toNat i10) (gD aA j11)) (Int.toNat j11) (gD aA i10))))), (1, (eI a1)), (10, (eI (wR (i10 + (1 : Int))))), (11, (eI (wR (j11 - (1 : Int)))))] ?_
      refine dO (fun T H => ∃ aA : List Int, ∃ i10 : Int, ∃ j11 : Int, Has T [(0, (.msl 1 lo0p 0 (List.length aA))), (1, (eI a1)), (10, (eI i10)), (11, (eI j11))] ∧ aL ⟨H0, [lo0p], []⟩ H [(lo0p, 1, List.map (eI) aA)] ∧ List.length aA = N0 ∧ kE aA a1 i10 j11 = some r) ?_ ⟨List.set (List.set aA (Int.toNat i10) (gD aA j11)) (Int.toNat j11) (gD aA i10), wR (i10 + (1 : Int)), wR (j11 - (1 : Int)), .eq (by kernel_rfl), hO, hN, h0⟩
      clear hO hN h0
      rintro T H ⟨aA, i10, j11, hT, hO, hN, h0⟩
      refine bC hT ?_
      clear hT
      unfold kE at h0
      obtain ⟨rr0, hl0, h0⟩ := aZ h0
      refine cP (by kernel_rfl) (fun (s : List Int × Int × Int) T H => Has T [(0, (.msl 1 lo0p 0 (List.length s.1))), (1, (eI a1)), (10, (eI s.2.1)), (11, (eI s.2.2))] ∧ aL ⟨H0, [lo0p], []⟩ H [(lo0p, 1, List.map (eI) s.1)] ∧ List.length s.1 = N0) hl0 ⟨.eq (by kernel_rfl), hO, hN⟩ ?_
      clear hO hN
      rintro k0 s out1 T H ⟨hT, hO, hN⟩ h1 ho0
      obtain ⟨aA, i10, j11⟩ := s
      replace h1 : dK a1 aA i10 j11 = some out1 := h1
      try dsimp only at hT
      refine bC hT ?_
      clear hT
      unfold dK at h1
      refine bZ 5 ?_
      refine dU (fun T H => ∃ aA : List Int, ∃ i10 : Int, Has T [(0, (.msl 1 lo0p 0 (List.length aA))), (1, (eI a1)), (10, (eI i10)), (11, (eI j11))] ∧ aL ⟨H0, [lo0p], []⟩ H [(lo0p, 1, List.map (eI) aA)] ∧ List.length aA = N0 ∧ iJ aA a1 i10 j11 = some out1) ?_ ?_
      · clear hO hN h1
        rintro T H ⟨aA, i10, hT, hO, hN, h1⟩
        refine bC hT ?_
        clear hT
        unfold iJ at h1
        refine dU (fun T H => ∃ aA : List Int, ∃ j11 : Int, Has T [(0, (.msl 1 lo0p 0 (List.length aA))), (1, (eI a1)), (10, (eI i10)), (11, (eI j11))] ∧ aL ⟨H0, [lo0p], []⟩ H [(lo0p, 1, List.map (eI) aA)] ∧ List.length aA = N0 ∧ eM aA a1 i10 j11 = some out1) ?_ ?_
        · clear hO hN h1
          rintro T H ⟨aA, j11, hT, hO, hN, h1⟩
          refine bC hT ?_
          clear hT
          unfold eM at h1
          refine aP ?_
          refine aT aD 3 [] [(134, (aE (decide (j11 < i10))))] ?_
          refine bF h1 (fun h1 => ?_) (fun h1 => ?_)
          · refine eP 4 ?_
            obtain rfl := oI h1
            obtain rfl : _ = rr0 := ho0
            replace h0 : iE aA a1 j11 = some r := h0
            exact aG (aS (uP (by kernel_rfl) (aS (bP (aF (⟨rfl, _, _, .eq (by kernel_rfl), hO, hN, h0⟩))))))
          refine bG ?_
          refine bE [(0, (.msl 1 lo0p 0 (List.length aA))), (1, (eI a1)), (10, (eI i10)), (11, (eI j11))] ?_
          refine aP ?_
          refine eC (eE []) aD 16 ?_
          obtain ⟨c19, h1⟩ := aR h1
          refine cB 7 [0 ≤ j11 ∧ j11 < (lN aA)] ⟨c19, trivial⟩ ?_
          refine fL 0 lo0p 1 (0 + Int.toNat j11) (eI (gD aA j11)) (eI (gD aA j11)) (List.map (eI) aA) hO (bY c19) ?_
          obtain ⟨c20, h1⟩ := aR h1
          refine cB 11 [0 ≤ i10 ∧ i10 < (lN aA)] ⟨c20, trivial⟩ ?_
          refine fL 0 lo0p 1 (0 + Int.toNat i10) (eI (gD aA i10)) (eI (gD aA i10)) (List.map (eI) aA) hO (bY c20) ?_
          obtain ⟨c21, h1⟩ := aR h1
          refine cB 13 [0 ≤ i10 ∧ i10 < (lN aA)] ⟨c21, trivial⟩ ?_
          refine jN 0 lo0p 1 (0 + Int.toNat i10) (eI (gD aA i10)) (eI (gD aA j11)) (List.map (eI) aA) [(lo0p, 1, List.map (eI) (List.set aA (Int.toNat i10) (gD aA j11)))] hO (bY c21) (by simp only [List.set, gK]) ?_
          intro H hO
          replace hN : List.length (List.set aA (Int.toNat i10) (gD aA j11)) = N0 := by simpa using hN
          obtain ⟨c22, h1⟩ := aR h1
          refine cB 15 [0 ≤ j11 ∧ j11 < (lN aA)] ⟨c22, trivial⟩ ?_
          refine jN 0 lo0p 1 (0 + Int.toNat j11) (eI (gD (List.set aA (Int.toNat i10) (gD aA j11)) j11)) (eI (gD aA i10)) (List.map (eI) (List.set aA (Int.toNat i10) (gD aA j11))) [(lo0p, 1, List.map (eI) (List.set (List.set aA (Int.toNat i10) (gD aA j11)) (Int.toNat j11) (gD aA i10)))] hO (mV c22 (by simp [])) (by simp only [List.set, gK]) ?_
          intro H hO
          replace hN : List.length (List.set (List.set aA (Int.toNat i10) (gD aA j11)) (Int.toNat j11) (gD aA i10)) = N0 := by simpa using hN
          refine lZ (by kernel_rfl) ?_
          refine dA (l := [(0, (.msl 1 lo0p 0 (List.length (List.set (List.set aA (Int.toNat i10) (gD aA j11)) (Int.toNat j11) (gD aA i10))))), (1, (eI a1)), (10, (eI i10)), (11, (eI j11))]) ⟨[(0, (.msl 1 lo0p 0 (List.length aA))), (1, (eI a1)), (10, (eI i10)), (11, (eI j11))], by kernel_rfl, rfl, ⟨aN.eq (by simp []), aN.refl _, aN.refl _, aN.refl _, trivial⟩⟩ ?_
          refine aG (aF (?_))
          refine aT aD 3 [10] [(10, (eI (wR (i10 + (1 : Int)))))] ?_
          refine aW aD 3 ?_
          refine bD ?_
          exact aG (aY (aF (⟨rfl, _, (oI h1).symm, .eq (by kernel_rfl), hO, hN⟩)))
        refine bZ 8 ?_
        refine eZ [(0, (.msl 1 lo0p 0 (List.length aA))), (1, (eI a1)), (10, (eI i10)), (11, (eI j11))] ?_
        refine dO (fun T H => ∃ aA : List Int, ∃ j11 : Int, Has T [(0, (.msl 1 lo0p 0 (List.length aA))), (1, (eI a1)), (10, (eI i10)), (11, (eI j11))] ∧ aL ⟨H0, [lo0p], []⟩ H [(lo0p, 1, List.map (eI) aA)] ∧ List.length aA = N0 ∧ jY aA a1 i10 j11 = some out1) ?_ ⟨aA, j11, .eq (by kernel_rfl), hO, hN, h1⟩
        clear hO hN h1
        rintro T H ⟨aA, j11, hT, hO, hN, h1⟩
        refine bC hT ?_
        clear hT
        unfold jY at h1
        obtain ⟨rr1, hl1, h1⟩ := aZ h1
        refine cP (by kernel_rfl) (fun (s : List Int × Int) T H => Has T [(0, (.msl 1 lo0p 0 (List.length s.1))), (1, (eI a1)), (10, (eI i10)), (11, (eI s.2))] ∧ aL ⟨H0, [lo0p], []⟩ H [(lo0p, 1, List.map (eI) s.1)] ∧ List.length s.1 = N0) hl1 ⟨.eq (by kernel_rfl), hO, hN⟩ ?_
        clear hO hN
        rintro k1 s out2 T H ⟨hT, hO, hN⟩ h2 ho1
        obtain ⟨aA, j11⟩ := s
        replace h2 : eS a1 i10 aA j11 = some out2 := h2
        try dsimp only at hT
        refine bC hT ?_
        clear hT
        unfold eS at h2
        refine aP ?_
        refine aP ?_
        obtain ⟨c23, h2⟩ := aR h2
        obtain ⟨c24, h2⟩ := aR h2
        obtain ⟨x25, hx26, h2⟩ := aZ h2
        refine eC (eE []) aD 15 ?_
        refine lR (K := fun T H => Has (lift T) [(0, (.msl 1 lo0p 0 (List.length aA))), (1, (eI a1)), (10, (eI i10)), (11, (eI j11)), (129, (aE ((decide (i10 ≤ j11)) && (!x25))))] ∧ aL ⟨H0, [lo0p], []⟩ H [(lo0p, 1, List.map (eI) aA)]) ?_ ?_
        · refine kR 4 ?_
          refine jR (t := 118) (e := decide (i10 ≤ j11)) (by kernel_rfl) (fun hg27 => ?_) (fun hg27 => ?_)
          · refine cB 7 [0 ≤ j11 ∧ j11 < (lN aA)] ⟨(c23 hg27), trivial⟩ ?_
            refine iB 0 lo0p 1 (0 + Int.toNat j11) (eI (gD aA j11)) (eI (gD aA j11)) (List.map (eI) aA) (by kernel_rfl) (by kernel_rfl) (by kernel_rfl) hO (by kernel_rfl) (bY (c23 hg27)) ?_
            refine cB 11 [0 ≤ a1 ∧ a1 < (lN aA)] ⟨(c24 hg27), trivial⟩ ?_
            refine iB 0 lo0p 1 (0 + Int.toNat a1) (eI (gD aA a1)) (eI (gD aA a1)) (List.map (eI) aA) (by kernel_rfl) (by kernel_rfl) (by kernel_rfl) hO (by kernel_rfl) (bY (c24 hg27)) ?_
            refine lS 70 [(eI (gD aA j11)), (eI (gD aA a1))] (aE x25) (by kernel_rfl) (by kernel_rfl) (fF (gD aA j11) (gD aA a1) _ (iV hx26 hg27)) hO ?_
            intro H hO
            refine gG ?_
            exact ⟨⟨[(0, (.msl 1 lo0p 0 (List.length aA))), (1, (eI a1)), (10, (eI i10)), (11, (eI j11)), (129, (aE (!x25)))], by kernel_rfl, rfl, ⟨aN.refl _, aN.refl _, aN.refl _, aN.refl _, aN.eq (congrArg aE (fV hg27 rfl).symm), trivial⟩⟩, hO⟩
          refine gG ?_
          exact ⟨⟨[(0, (.msl 1 lo0p 0 (List.length aA))), (1, (eI a1)), (10, (eI i10)), (11, (eI j11)), (129, (aE false))], by kernel_rfl, rfl, ⟨aN.refl _, aN.refl _, aN.refl _, aN.refl _, aN.eq (congrArg aE (fV hg27 rfl).symm), trivial⟩⟩, hO⟩
        · rintro T H ⟨hT, hO⟩
          refine dA hT ?_
          clear hT
          refine aG (aF ?_)
          refine bF h2 (fun h2 => ?_) (fun h2 => ?_)
          · refine bG ?_
            refine bE [(0, (.msl 1 lo0p 0 (List.length aA))), (1, (eI a1)), (10, (eI i10)), (11, (eI j11))] ?_
            refine bZ 9 ?_
            refine aW aD 3 ?_
            refine bD ?_
            exact aG (aY (aF (⟨rfl, _, (oI h2).symm, .eq (by kernel_rfl), hO, hN⟩)))
          refine eP 8 ?_
          obtain rfl := oI h2
          obtain rfl : _ = rr1 := ho1
          replace h1 : eM aA a1 i10 j11 = some out1 := h1
          exact aG (aS (aS (bP (aF (⟨rfl, _, _, .eq (by kernel_rfl), hO, hN, h1⟩)))))
      refine bZ 6 ?_
      refine eZ [(0, (.msl 1 lo0p 0 (List.length aA))), (1, (eI a1)), (10, (eI i10)), (11, (eI j11))] ?_
      refine dO (fun T H => ∃ aA : List Int, ∃ i10 : Int, Has T [(0, (.msl 1 lo0p 0 (List.length aA))), (1, (eI a1)), (10, (eI i10)), (11, (eI j11))] ∧ aL ⟨H0, [lo0p], []⟩ H [(lo0p, 1, List.map (eI) aA)] ∧ List.length aA = N0 ∧ kB aA a1 i10 j11 = some out1) ?_ ⟨aA, i10, .eq (by kernel_rfl), hO, hN, h1⟩
      clear hO hN h1
      rintro T H ⟨aA, i10, hT, hO, hN, h1⟩
      refine bC hT ?_
      clear hT
      unfold kB at h1
      obtain ⟨rr1, hl1, h1⟩ := aZ h1
      refine cP (by kernel_rfl) (fun (s : List Int × Int) T H => Has T [(0, (.msl 1 lo0p 0 (List.length s.1))), (1, (eI a1)), (10, (eI s.2)), (11, (eI j11))] ∧ aL ⟨H0, [lo0p], []⟩ H [(lo0p, 1, List.map (eI) s.1)] ∧ List.length s.1 = N0) hl1 ⟨.eq (by kernel_rfl), hO, hN⟩ ?_
      clear hO hN
      rintro k1 s out2 T H ⟨hT, hO, hN⟩ h2 ho1
      obtain ⟨aA, i10⟩ := s
      replace h2 : eN a1 j11 aA i10 = some out2 := h2
      try dsimp only at hT
      refine bC hT ?_
      clear hT
      unfold eN at h2
      refine aP ?_
      refine aP ?_
      obtain ⟨c29, h2⟩ := aR h2
      obtain ⟨c30, h2⟩ := aR h2
      obtain ⟨x31, hx32, h2⟩ := aZ h2
      refine eC (eE []) aD 14 ?_
      refine lR (K := fun T H => Has (lift T) [(0, (.msl 1 lo0p 0 (List.length aA))), (1, (eI a1)), (10, (eI i10)), (11, (eI j11)), (112, (aE ((decide (i10 ≤ j11)) && x31)))] ∧ aL ⟨H0, [lo0p], []⟩ H [(lo0p, 1, List.map (eI) aA)]) ?_ ?_
      · refine kR 4 ?_
        refine jR (t := 102) (e := decide (i10 ≤ j11)) (by kernel_rfl) (fun hg33 => ?_) (fun hg33 => ?_)
        · refine cB 7 [0 ≤ i10 ∧ i10 < (lN aA)] ⟨(c29 hg33), trivial⟩ ?_
          refine iB 0 lo0p 1 (0 + Int.toNat i10) (eI (gD aA i10)) (eI (gD aA i10)) (List.map (eI) aA) (by kernel_rfl) (by kernel_rfl) (by kernel_rfl) hO (by kernel_rfl) (bY (c29 hg33)) ?_
          refine cB 11 [0 ≤ a1 ∧ a1 < (lN aA)] ⟨(c30 hg33), trivial⟩ ?_
          refine iB 0 lo0p 1 (0 + Int.toNat a1) (eI (gD aA a1)) (eI (gD aA a1)) (List.map (eI) aA) (by kernel_rfl) (by kernel_rfl) (by kernel_rfl) hO (by kernel_rfl) (bY (c30 hg33)) ?_
          refine lS 70 [(eI (gD aA i10)), (eI (gD aA a1))] (aE x31) (by kernel_rfl) (by kernel_rfl) (fF (gD aA i10) (gD aA a1) _ (iV hx32 hg33)) hO ?_
          intro H hO
          refine gG ?_
          exact ⟨⟨[(0, (.msl 1 lo0p 0 (List.length aA))), (1, (eI a1)), (10, (eI i10)), (11, (eI j11)), (112, (aE x31))], by kernel_rfl, rfl, ⟨aN.refl _, aN.refl _, aN.refl _, aN.refl _, aN.eq (congrArg aE (fV hg33 rfl).symm), trivial⟩⟩, hO⟩
        refine gG ?_
        exact ⟨⟨[(0, (.msl 1 lo0p 0 (List.length aA))), (1, (eI a1)), (10, (eI i10)), (11, (eI j11)), (112, (aE false))], by kernel_rfl, rfl, ⟨aN.refl _, aN.refl _, aN.refl _, aN.refl _, aN.eq (congrArg aE (fV hg33 rfl).symm), trivial⟩⟩, hO⟩
      · rintro T H ⟨hT, hO⟩
        refine dA hT ?_
        clear hT
        refine aG (aF ?_)
        refine bF h2 (fun h2 => ?_) (fun h2 => ?_)
        · refine bG ?_
          refine bE [(0, (.msl 1 lo0p 0 (List.length aA))), (1, (eI a1)), (10, (eI i10)), (11, (eI j11))] ?_
          refine bZ 7 ?_
          refine aW aD 3 ?_
          refine bD ?_
          exact aG (aY (aF (⟨rfl, _, (oI h2).symm, .eq (by kernel_rfl), hO, hN⟩)))
        refine eP 6 ?_
        obtain rfl := oI h2
        obtain rfl : _ = rr1 := ho1
        replace h1 : iJ aA a1 i10 j11 = some out1 := h1
        exact aG (aS (aS (bP (aF (⟨rfl, _, _, .eq (by kernel_rfl), hO, hN, h1⟩)))))
    refine bZ 2 ?_
    refine eZ [(0, (.msl 1 lo0p 0 (List.length aA))), (1, (eI a1)), (10, (eI i10)), (11, (eI j11))] ?_
    refine dO (fun T H => ∃ aA : List Int, ∃ j11 : Int, Has T [(0, (.msl 1 lo0p 0 (List.length aA))), (1, (eI a1)), (10, (eI i10)), (11, (eI j11))] ∧ aL ⟨H0, [lo0p], []⟩ H [(lo0p, 1, List.map (eI) aA)] ∧ List.length aA = N0 ∧ kC aA a1 i10 j11 = some r) ?_ ⟨aA, j11, .eq (by kernel_rfl), hO, hN, h0⟩
    clear hO hN h0
    rintro T H ⟨aA, j11, hT, hO, hN, h0⟩
    refine bC hT ?_
    clear hT
    unfold kC at h0
    obtain ⟨rr0, hl0, h0⟩ := aZ h0
    refine cP (by kernel_rfl) (fun (s : List Int × Int) T H => Has T [(0, (.msl 1 lo0p 0 (List.length s.1))), (1, (eI a1)), (10, (eI i10)), (11, (eI s.2))] ∧ aL ⟨H0, [lo0p], []⟩ H [(lo0p, 1, List.map (eI) s.1)] ∧ List.length s.1 = N0) hl0 ⟨.eq (by kernel_rfl), hO, hN⟩ ?_
    clear hO hN
    rintro k0 s out1 T H ⟨hT, hO, hN⟩ h1 ho0
    obtain ⟨aA, j11⟩ := s
    replace h1 : eK a1 i10 aA j11 = some out1 := h1
    try dsimp only at hT
    refine bC hT ?_
    clear hT
    unfold eK at h1
    refine aP ?_
    refine aP ?_
    obtain ⟨c35, h1⟩ := aR h1
    obtain ⟨c36, h1⟩ := aR h1
    obtain ⟨x37, hx38, h1⟩ := aZ h1
    refine eC (eE []) aD 15 ?_
    refine lR (K := fun T H => Has (lift T) [(0, (.msl 1 lo0p 0 (List.length aA))), (1, (eI a1)), (10, (eI i10)), (11, (eI j11)), (60, (aE ((decide (i10 ≤ j11)) && (!x37))))] ∧ aL ⟨H0, [lo0p], []⟩ H [(lo0p, 1, List.map (eI) aA)]) ?_ ?_
    · refine kR 4 ?_
      refine jR (t := 49) (e := decide (i10 ≤ j11)) (by kernel_rfl) (fun hg39 => ?_) (fun hg39 => ?_)
      · refine cB 7 [0 ≤ j11 ∧ j11 < (lN aA)] ⟨(c35 hg39), trivial⟩ ?_
        refine iB 0 lo0p 1 (0 + Int.toNat j11) (eI (gD aA j11)) (eI (gD aA j11)) (List.map (eI) aA) (by kernel_rfl) (by kernel_rfl) (by kernel_rfl) hO (by kernel_rfl) (bY (c35 hg39)) ?_
        refine cB 11 [0 ≤ a1 ∧ a1 < (lN aA)] ⟨(c36 hg39), trivial⟩ ?_
        refine iB 0 lo0p 1 (0 + Int.toNat a1) (eI (gD aA a1)) (eI (gD aA a1)) (List.map (eI) aA) (by kernel_rfl) (by kernel_rfl) (by kernel_rfl) hO (by kernel_rfl) (bY (c36 hg39)) ?_
        refine lS 70 [(eI (gD aA j11)), (eI (gD aA a1))] (aE x37) (by kernel_rfl) (by kernel_rfl) (fF (gD aA j11) (gD aA a1) _ (iV hx38 hg39)) hO ?_
        intro H hO
        refine gG ?_
        exact ⟨⟨[(0, (.msl 1 lo0p 0 (List.length aA))), (1, (eI a1)), (10, (eI i10)), (11, (eI j11)), (60, (aE (!x37)))], by kernel_rfl, rfl, ⟨aN.refl _, aN.refl _, aN.refl _, aN.refl _, aN.eq (congrArg aE (fV hg39 rfl).symm), trivial⟩⟩, hO⟩
      refine gG ?_
      exact ⟨⟨[(0, (.msl 1 lo0p 0 (List.length aA))), (1, (eI a1)), (10, (eI i10)), (11, (eI j11)), (60, (aE false))], by kernel_rfl, rfl, ⟨aN.refl _, aN.refl _, aN.refl _, aN.refl _, aN.eq (congrArg aE (fV hg39 rfl).symm), trivial⟩⟩, hO⟩
    · rintro T H ⟨hT, hO⟩
      refine dA hT ?_
      clear hT
      refine aG (aF ?_)
      refine bF h1 (fun h1 => ?_) (fun h1 => ?_)
      · refine bG ?_
        refine bE [(0, (.msl 1 lo0p 0 (List.length aA))), (1, (eI a1)), (10, (eI i10)), (11, (eI j11))] ?_
        refine bZ 3 ?_
        refine aW aD 3 ?_
        refine bD ?_
        exact aG (aY (aF (⟨rfl, _, (oI h1).symm, .eq (by kernel_rfl), hO, hN⟩)))
      refine eP 2 ?_
      obtain rfl := oI h1
      obtain rfl : _ = rr0 := ho0
      replace h0 : eT aA a1 i10 j11 = some r := h0
      exact aG (aS (aS (bP (aF (⟨rfl, _, _, .eq (by kernel_rfl), hO, hN, h0⟩)))))
  refine bZ 0 ?_
  refine eZ [(0, (.msl 1 lo0p 0 (List.length (List.set (List.set aA (Int.toNat a1) (gD aA cM)) (Int.toNat cM) (gD aA a1))))), (1, (eI a1)), (10, (eI (wR (a1 + (1 : Int))))), (11, (eI (wR (b2 - (1 : Int)))))] ?_
  refine dO (fun T H => ∃ aA : List Int, ∃ i10 : Int, ∃ j11 : Int, Has T [(0, (.msl 1 lo0p 0 (List.length aA))), (1, (eI a1)), (10, (eI i10)), (11, (eI j11))] ∧ aL ⟨H0, [lo0p], []⟩ H [(lo0p, 1, List.map (eI) aA)] ∧ List.length aA = N0 ∧ fN aA a1 i10 j11 = some r) ?_ ⟨List.set (List.set aA (Int.toNat a1) (gD aA cM)) (Int.toNat cM) (gD aA a1), wR (a1 + (1 : Int)), wR (b2 - (1 : Int)), .eq (by kernel_rfl), hO, hN, h0⟩
  clear hO hN h0
  rintro T H ⟨aA, i10, j11, hT, hO, hN, h0⟩
  refine bC hT ?_
  clear hT
  unfold fN at h0
  obtain ⟨rr0, hl0, h0⟩ := aZ h0
  refine cP (by kernel_rfl) (fun (s : List Int × Int) T H => Has T [(0, (.msl 1 lo0p 0 (List.length s.1))), (1, (eI a1)), (10, (eI s.2)), (11, (eI j11))] ∧ aL ⟨H0, [lo0p], []⟩ H [(lo0p, 1, List.map (eI) s.1)] ∧ List.length s.1 = N0) hl0 ⟨.eq (by kernel_rfl), hO, hN⟩ ?_
  clear hO hN
  rintro k0 s out1 T H ⟨hT, hO, hN⟩ h1 ho0
  obtain ⟨aA, i10⟩ := s
  replace h1 : eG a1 j11 aA i10 = some out1 := h1
  try dsimp only at hT
  refine bC hT ?_
  clear hT
  unfold eG at h1
  refine aP ?_
  refine aP ?_
  obtain ⟨c41, h1⟩ := aR h1
  obtain ⟨c42, h1⟩ := aR h1
  obtain ⟨x43, hx44, h1⟩ := aZ h1
  refine eC (eE []) aD 14 ?_
  refine lR (K := fun T H => Has (lift T) [(0, (.msl 1 lo0p 0 (List.length aA))), (1, (eI a1)), (10, (eI i10)), (11, (eI j11)), (43, (aE ((decide (i10 ≤ j11)) && x43)))] ∧ aL ⟨H0, [lo0p], []⟩ H [(lo0p, 1, List.map (eI) aA)]) ?_ ?_
  · refine kR 4 ?_
    refine jR (t := 33) (e := decide (i10 ≤ j11)) (by kernel_rfl) (fun hg45 => ?_) (fun hg45 => ?_)
    · refine cB 7 [0 ≤ i10 ∧ i10 < (lN aA)] ⟨(c41 hg45), trivial⟩ ?_
      refine iB 0 lo0p 1 (0 + Int.toNat i10) (eI (gD aA i10)) (eI (gD aA i10)) (List.map (eI) aA) (by kernel_rfl) (by kernel_rfl) (by kernel_rfl) hO (by kernel_rfl) (bY (c41 hg45)) ?_
      refine cB 11 [0 ≤ a1 ∧ a1 < (lN aA)] ⟨(c42 hg45), trivial⟩ ?_
      refine iB 0 lo0p 1 (0 + Int.toNat a1) (eI (gD aA a1)) (eI (gD aA a1)) (List.map (eI) aA) (by kernel_rfl) (by kernel_rfl) (by kernel_rfl) hO (by kernel_rfl) (bY (c42 hg45)) ?_
      refine lS 70 [(eI (gD aA i10)), (eI (gD aA a1))] (aE x43) (by kernel_rfl) (by kernel_rfl) (fF (gD aA i10) (gD aA a1) _ (iV hx44 hg45)) hO ?_
      intro H hO
      refine gG ?_
      exact ⟨⟨[(0, (.msl 1 lo0p 0 (List.length aA))), (1, (eI a1)), (10, (eI i10)), (11, (eI j11)), (43, (aE x43))], by kernel_rfl, rfl, ⟨aN.refl _, aN.refl _, aN.refl _, aN.refl _, aN.eq (congrArg aE (fV hg45 rfl).symm), trivial⟩⟩, hO⟩
    refine gG ?_
    exact ⟨⟨[(0, (.msl 1 lo0p 0 (List.length aA))), (1, (eI a1)), (10, (eI i10)), (11, (eI j11)), (43, (aE false))], by kernel_rfl, rfl, ⟨aN.refl _, aN.refl _, aN.refl _, aN.refl _, aN.eq (congrArg aE (fV hg45 rfl).symm), trivial⟩⟩, hO⟩
  · rintro T H ⟨hT, hO⟩
    refine dA hT ?_
    clear hT
    refine aG (aF ?_)
    refine bF h1 (fun h1 => ?_) (fun h1 => ?_)
    · refine bG ?_
      refine bE [(0, (.msl 1 lo0p 0 (List.length aA))), (1, (eI a1)), (10, (eI i10)), (11, (eI j11))] ?_
      refine bZ 1 ?_
      refine aW aD 3 ?_
      refine bD ?_
      exact aG (aY (aF (⟨rfl, _, (oI h1).symm, .eq (by kernel_rfl), hO, hN⟩)))
    refine eP 0 ?_
    obtain rfl := oI h1
    obtain rfl : _ = rr0 := ho0
    replace h0 : iF aA a1 i10 j11 = some r := h0
    exact aG (aS (aS (bP (aF (⟨rfl, _, _, _, .eq (by kernel_rfl), hO, hN, h0⟩)))))

theorem vD  (rec : (List Int) → Int → Int → Int → Option (List Int)) (ih : ∀ (lo0p : Nat) (aA : (List Int)) (a1 : Int) (b2 : Int) (cC : Int) (r : List Int), rec aA a1 b2 cC = some r → nC Try.prog 60 lo0p 1 (List.map (eI) aA) (List.map (eI) r) [(.msl 1 lo0p 0 (List.length aA)), (eI a1), (eI b2), (eI cC)] (.tup [])) (lo0p : Nat) (aA : (List Int)) (a1 : Int) (b2 : Int) (cC : Int) (r : List Int) (h0 : fP rec aA a1 b2 cC = some r) : nC Try.prog 60 lo0p 1 (List.map (eI) aA) (List.map (eI) r) [(.msl 1 lo0p 0 (List.length aA)), (eI a1), (eI b2), (eI cC)] (.tup []) := by
  intro H0 hl0
  refine dF Try.func60 ?_
  have hO := aL.rR hl0
  clear hl0
  obtain ⟨N0, hN0⟩ : ∃ n, n = List.length aA := ⟨_, rfl⟩
  have hN : List.length aA = N0 := hN0.symm
  unfold fP at h0
  refine aT aD 1 [] [(8, (aE true))] ?_
  refine aT aD 1 [] [(9, (aE true))] ?_
  refine bZ 0 ?_
  refine eZ [(0, (.msl 1 lo0p 0 (List.length aA))), (1, (eI a1)), (2, (eI b2)), (3, (eI cC)), (8, (aE true)), (9, (aE true))] ?_
  refine dO (fun T H => ∃ aA : List Int, ∃ a1 : Int, ∃ b2 : Int, ∃ cC : Int, ∃ bX : Bool, ∃ bO : Bool, Has T [(0, (.msl 1 lo0p 0 (List.length aA))), (1, (eI a1)), (2, (eI b2)), (3, (eI cC)), (8, (aE bX)), (9, (aE bO))] ∧ aL ⟨H0, [lo0p], []⟩ H [(lo0p, 1, List.map (eI) aA)] ∧ List.length aA = N0 ∧ kQ rec aA a1 b2 cC bX bO = some r) ?_ ⟨aA, a1, b2, cC, true, true, .eq (by kernel_rfl), hO, hN, h0⟩
  clear hO hN h0
  rintro T H ⟨aA, a1, b2, cC, bX, bO, hT, hO, hN, h0⟩
  refine bC hT ?_
  clear hT
  unfold kQ at h0
  obtain ⟨rr0, hl0, h0⟩ := aZ h0
  refine cP (by kernel_rfl) (fun (s : List Int × Int × Int × Int × Bool × Bool) T H => Has T [(0, (.msl 1 lo0p 0 (List.length s.1))), (1, (eI s.2.1)), (2, (eI s.2.2.1)), (3, (eI s.2.2.2.1)), (8, (aE s.2.2.2.2.1)), (9, (aE s.2.2.2.2.2))] ∧ aL ⟨H0, [lo0p], []⟩ H [(lo0p, 1, List.map (eI) s.1)] ∧ List.length s.1 = N0) hl0 ⟨.eq (by kernel_rfl), hO, hN⟩ ?_
  clear hO hN
  rintro k0 s out1 T H ⟨hT, hO, hN⟩ h1 ho0
  obtain ⟨aA, a1, b2, cC, bX, bO⟩ := s
  replace h1 : eF rec aA a1 b2 cC bX bO = some out1 := h1
  try dsimp only at hT
  refine bC hT ?_
  clear hT
  unfold eF at h1
  refine bZ 1 ?_
  refine aT aD 4 [] [(10, (eI (wR (b2 - a1))))] ?_
  refine aP ?_
  refine aT aD 2 [] [(23, (aE (decide ((wR (b2 - a1)) ≤ (12 : Int)))))] ?_
  refine bF h1 (fun h1 => ?_) (fun h1 => ?_)
  · refine aP ?_
    refine aW aD 4 ?_
    refine bV 3 ?_
    obtain ⟨x2, hx3, h1⟩ := aZ h1
    refine wX [(lo0p, 1, List.map (eI) x2)] 0 (uO lo0p aA a1 b2 _ hx3) hO ?_
    intro H hO hl4
    simp only [List.length_map] at hl4
    replace hN := hl4.trans hN
    refine hY ?_
    refine dA (l := [(0, (.msl 1 lo0p 0 (List.length x2)))]) ⟨[(0, (.msl 1 lo0p 0 (List.length aA)))], by kernel_rfl, rfl, ⟨aN.eq (by simp [hl4]), trivial⟩⟩ ?_
    refine aG (aF (?_))
    refine bI ?_
    obtain rfl := oI h1
    obtain rfl : _ = rr0 := ho0
    replace h0 : some x2 = some r := h0
    obtain rfl := oI h0
    exact aG (aQ (bK (aQ (bK (lE (x := (.tup [])) (by kernel_rfl) (aN.refl _) ⟨rfl, hO.ext, hO.at 0 (by kernel_rfl), by simp only [List.length_map]; exact hN.trans hN0⟩)))))
  refine bG ?_
  refine bE [(0, (.msl 1 lo0p 0 (List.length aA))), (1, (eI a1)), (2, (eI b2)), (3, (eI cC)), (8, (aE bX)), (9, (aE bO)), (10, (eI (wR (b2 - a1))))] ?_
  refine aP ?_
  refine aT aD 2 [] [(29, (aE (decide (cC = (0 : Int)))))] ?_
  refine bF h1 (fun h1 => ?_) (fun h1 => ?_)
  · refine aP ?_
    refine aW aD 4 ?_
    refine bV 3 ?_
    obtain ⟨x6, hx7, h1⟩ := aZ h1
    refine wX [(lo0p, 1, List.map (eI) x6)] 0 (wQ lo0p aA a1 b2 _ hx7) hO ?_
    intro H hO hl8
    simp only [List.length_map] at hl8
    replace hN := hl8.trans hN
    refine hY ?_
    refine dA (l := [(0, (.msl 1 lo0p 0 (List.length x6)))]) ⟨[(0, (.msl 1 lo0p 0 (List.length aA)))], by kernel_rfl, rfl, ⟨aN.eq (by simp [hl8]), trivial⟩⟩ ?_
    refine aG (aF (?_))
    refine bI ?_
    obtain rfl := oI h1
    obtain rfl : _ = rr0 := ho0
    replace h0 : some x6 = some r := h0
    obtain rfl := oI h0
    exact aG (aQ (bK (aQ (bK (lE (x := (.tup [])) (by kernel_rfl) (aN.refl _) ⟨rfl, hO.ext, hO.at 0 (by kernel_rfl), by simp only [List.length_map]; exact hN.trans hN0⟩)))))
  refine bG ?_
  refine bE [(0, (.msl 1 lo0p 0 (List.length aA))), (1, (eI a1)), (2, (eI b2)), (3, (eI cC)), (8, (aE bX)), (9, (aE bO)), (10, (eI (wR (b2 - a1))))] ?_
  refine dU (fun T H => ∃ aA : List Int, ∃ cC : Int, ∃ dW : Int, Has T [(0, (.msl 1 lo0p 0 (List.length aA))), (1, (eI a1)), (2, (eI b2)), (3, (eI cC)), (8, (aE bX)), (9, (aE bO)), (10, (eI dW))] ∧ aL ⟨H0, [lo0p], []⟩ H [(lo0p, 1, List.map (eI) aA)] ∧ List.length aA = N0 ∧ gR rec aA a1 b2 cC bX bO dW = some out1) ?_ ?_
  · clear hO hN h1
    rintro T H ⟨aA, cC, dW, hT, hO, hN, h1⟩
    refine bC hT ?_
    clear hT
    unfold gR at h1
    refine aP ?_
    refine aW aD 9 ?_
    refine bV 3 ?_
    obtain ⟨x9, hx10, h1⟩ := aZ h1
    refine AP [] [0] (vP lo0p aA a1 b2 _ hx10) hO ?_
    intro r11 L12 H hP13 hO
    obtain ⟨rfl, rfl⟩ := hP13
    replace hO : aL ⟨H0, [lo0p], []⟩ H [(lo0p, 1, List.map (eI) aA)] := hO
    refine bD ?_
    refine bU [] [(11, (eI x9.1)), (12, (eI x9.2))] ?_
    refine dU (fun T H => ∃ aA : List Int, ∃ fQ : Int, ∃ BC : Int, Has T [(0, (.msl 1 lo0p 0 (List.length aA))), (1, (eI a1)), (2, (eI b2)), (3, (eI cC)), (8, (aE bX)), (9, (aE bO)), (10, (eI dW)), (11, (eI fQ)), (12, (eI BC))] ∧ aL ⟨H0, [lo0p], []⟩ H [(lo0p, 1, List.map (eI) aA)] ∧ List.length aA = N0 ∧ gP rec aA a1 b2 cC bX bO dW fQ BC = some out1) ?_ ?_
    · clear hO hN h1
      rintro T H ⟨aA, fQ, BC, hT, hO, hN, h1⟩
      refine bC hT ?_
      clear hT
      unfold gP at h1
      refine dU (fun T H => ∃ aA : List Int, Has T [(0, (.msl 1 lo0p 0 (List.length aA))), (1, (eI a1)), (2, (eI b2)), (3, (eI cC)), (8, (aE bX)), (9, (aE bO)), (10, (eI dW)), (11, (eI fQ))] ∧ aL ⟨H0, [lo0p], []⟩ H [(lo0p, 1, List.map (eI) aA)] ∧ List.length aA = N0 ∧ gQ rec aA a1 b2 cC bX bO dW fQ = some out1) ?_ ?_
      · clear hO hN h1
        rintro T H ⟨aA, hT, hO, hN, h1⟩
        refine bC hT ?_
        clear hT
        unfold gQ at h1
        refine aP ?_
        refine aP ?_
        obtain ⟨c14, h1⟩ := aR h1
        obtain ⟨c15, h1⟩ := aR h1
        obtain ⟨x16, hx17, h1⟩ := aZ h1
        refine eC (eE []) aD 15 ?_
        refine lR (K := fun T H => Has (lift T) [(0, (.msl 1 lo0p 0 (List.length aA))), (1, (eI a1)), (2, (eI b2)), (3, (eI cC)), (8, (aE bX)), (9, (aE bO)), (10, (eI dW)), (11, (eI fQ)), (87, (aE ((decide ((0 : Int) < a1)) && (!x16))))] ∧ aL ⟨H0, [lo0p], []⟩ H [(lo0p, 1, List.map (eI) aA)]) ?_ ?_
        · refine kR 3 ?_
          refine jR (t := 75) (e := decide ((0 : Int) < a1)) (by kernel_rfl) (fun hg18 => ?_) (fun hg18 => ?_)
          · refine cB 7 [0 ≤ (wR (a1 - (1 : Int))) ∧ (wR (a1 - (1 : Int))) < (lN aA)] ⟨(c14 hg18), trivial⟩ ?_
            refine iB 0 lo0p 1 (0 + Int.toNat (wR (a1 - (1 : Int)))) (eI (gD aA (wR (a1 - (1 : Int))))) (eI (gD aA (wR (a1 - (1 : Int))))) (List.map (eI) aA) (by kernel_rfl) (by kernel_rfl) (by kernel_rfl) hO (by kernel_rfl) (bY (c14 hg18)) ?_
            refine cB 11 [0 ≤ fQ ∧ fQ < (lN aA)] ⟨(c15 hg18), trivial⟩ ?_
            refine iB 0 lo0p 1 (0 + Int.toNat fQ) (eI (gD aA fQ)) (eI (gD aA fQ)) (List.map (eI) aA) (by kernel_rfl) (by kernel_rfl) (by kernel_rfl) hO (by kernel_rfl) (bY (c15 hg18)) ?_
            refine lS 70 [(eI (gD aA (wR (a1 - (1 : Int))))), (eI (gD aA fQ))] (aE x16) (by kernel_rfl) (by kernel_rfl) (fF (gD aA (wR (a1 - (1 : Int)))) (gD aA fQ) _ (iV hx17 hg18)) hO ?_
            intro H hO
            refine gG ?_
            exact ⟨⟨[(0, (.msl 1 lo0p 0 (List.length aA))), (1, (eI a1)), (2, (eI b2)), (3, (eI cC)), (8, (aE bX)), (9, (aE bO)), (10, (eI dW)), (11, (eI fQ)), (87, (aE (!x16)))], by kernel_rfl, rfl, ⟨aN.refl _, aN.refl _, aN.refl _, aN.refl _, aN.refl _, aN.refl _, aN.refl _, aN.refl _, aN.eq (congrArg aE (fV hg18 rfl).symm), trivial⟩⟩, hO⟩
          refine gG ?_
          exact ⟨⟨[(0, (.msl 1 lo0p 0 (List.length aA))), (1, (eI a1)), (2, (eI b2)), (3, (eI cC)), (8, (aE bX)), (9, (aE bO)), (10, (eI dW)), (11, (eI fQ)), (87, (aE false))], by kernel_rfl, rfl, ⟨aN.refl _, aN.refl _, aN.refl _, aN.refl _, aN.refl _, aN.refl _, aN.refl _, aN.refl _, aN.eq (congrArg aE (fV hg18 rfl).symm), trivial⟩⟩, hO⟩
        · rintro T H ⟨hT, hO⟩
          refine dA hT ?_
          clear hT
          refine aG (aF ?_)
          refine bF h1 (fun h1 => ?_) (fun h1 => ?_)
          · refine aP ?_
            refine aW aD 6 ?_
            refine bV 4 ?_
            obtain ⟨x20, hx21, h1⟩ := aZ h1
            refine wX [(lo0p, 1, List.map (eI) x20.2)] 0 (uC lo0p aA a1 b2 fQ _ hx21) hO ?_
            intro H hO hl22
            simp only [List.length_map] at hl22
            replace hN := hl22.trans hN
            refine bD ?_
            refine dA (l := [(0, (.msl 1 lo0p 0 (List.length x20.2))), (2, (eI b2)), (3, (eI cC)), (8, (aE bX)), (9, (aE bO)), (13, (eI x20.1))]) ⟨[(0, (.msl 1 lo0p 0 (List.length aA))), (2, (eI b2)), (3, (eI cC)), (8, (aE bX)), (9, (aE bO)), (13, (eI x20.1))], by kernel_rfl, rfl, ⟨aN.eq (by simp [hl22]), aN.refl _, aN.refl _, aN.refl _, aN.refl _, aN.refl _, trivial⟩⟩ ?_
            refine aG (aF (?_))
            refine aT aD 2 [13] [(1, (eI x20.1))] ?_
            refine eP 1 ?_
            exact aG (aS (bP (aF (⟨rfl, _, (oI h1).symm, .eq (by kernel_rfl), hO, hN⟩))))
          refine bG ?_
          refine bE [(0, (.msl 1 lo0p 0 (List.length aA))), (1, (eI a1)), (2, (eI b2)), (3, (eI cC)), (10, (eI dW)), (11, (eI fQ))] ?_
          refine aP ?_
          refine aW aD 10 ?_
          refine bV 4 ?_
          obtain ⟨x23, hx24, h1⟩ := aZ h1
          refine wX [(lo0p, 1, List.map (eI) x23.2)] 0 (wO lo0p aA a1 b2 fQ _ hx24) hO ?_
          intro H hO hl25
          simp only [List.length_map] at hl25
          replace hN := hl25.trans hN
          refine bD ?_
          refine dA (l := [(0, (.msl 1 lo0p 0 (List.length x23.2))), (1, (eI a1)), (2, (eI b2)), (3, (eI cC)), (10, (eI dW)), (14, (eI x23.1.1)), (15, (aE x23.1.2))]) ⟨[(0, (.msl 1 lo0p 0 (List.length aA))), (1, (eI a1)), (2, (eI b2)), (3, (eI cC)), (10, (eI dW)), (14, (eI x23.1.1)), (15, (aE x23.1.2))], by kernel_rfl, rfl, ⟨aN.eq (by simp [hl25]), aN.refl _, aN.refl _, aN.refl _, aN.refl _, aN.refl _, aN.refl _, trivial⟩⟩ ?_
          refine aG (aF (?_))
          refine aT aD 2 [15] [(9, (aE x23.1.2))] ?_
          refine aT aD 8 [] [(16, (eI (wR (x23.1.1 - a1)))), (17, (eI (wR (b2 - x23.1.1))))] ?_
          refine aP ?_
          refine aW aD 3 ?_
          obtain ⟨c26, h1⟩ := aR h1
          refine mH [(8 : Int) ≠ 0] ⟨c26, trivial⟩ ?_
          refine bU [10] [(18, (eI (wR (Int.tdiv dW (8 : Int)))))] ?_
          refine aT aD 3 [] [(113, (aE (decide ((wR (x23.1.1 - a1)) < (wR (b2 - x23.1.1))))))] ?_
          refine bF h1 (fun h1 => ?_) (fun h1 => ?_)
          · refine bT aD 4 [(0, (.msl 1 lo0p 0 (List.length x23.2))), (1, (eI a1)), (2, (eI b2)), (3, (eI cC)), (8, (aE (decide ((wR (Int.tdiv dW (8 : Int))) ≤ (wR (x23.1.1 - a1)))))), (9, (aE x23.1.2)), (14, (eI x23.1.1))] ?_
            refine aP ?_
            refine aW aD 5 ?_
            refine bV 4 ?_
            obtain ⟨x28, hx29, h1⟩ := aZ h1
            refine wX [(lo0p, 1, List.map (eI) x28)] 0 (ih lo0p x23.2 a1 x23.1.1 cC _ hx29) hO ?_
            intro H hO hl30
            simp only [List.length_map] at hl30
            replace hN := hl30.trans hN
            refine hY ?_
            refine dA (l := [(0, (.msl 1 lo0p 0 (List.length x28))), (2, (eI b2)), (3, (eI cC)), (8, (aE (decide ((wR (Int.tdiv dW (8 : Int))) ≤ (wR (x23.1.1 - a1)))))), (9, (aE x23.1.2)), (14, (eI x23.1.1))]) ⟨[(0, (.msl 1 lo0p 0 (List.length x23.2))), (2, (eI b2)), (3, (eI cC)), (8, (aE (decide ((wR (Int.tdiv dW (8 : Int))) ≤ (wR (x23.1.1 - a1)))))), (9, (aE x23.1.2)), (14, (eI x23.1.1))], by kernel_rfl, rfl, ⟨aN.eq (by simp [hl30]), aN.refl _, aN.refl _, aN.refl _, aN.refl _, aN.refl _, trivial⟩⟩ ?_
            refine aG (aF (?_))
            refine aW aD 3 ?_
            refine bD ?_
            exact aG (aY (aF (⟨rfl, _, (oI h1).symm, .eq (by kernel_rfl), hO, hN⟩)))
          refine bT aD 4 [(0, (.msl 1 lo0p 0 (List.length x23.2))), (1, (eI a1)), (2, (eI b2)), (3, (eI cC)), (8, (aE (decide ((wR (Int.tdiv dW (8 : Int))) ≤ (wR (b2 - x23.1.1)))))), (9, (aE x23.1.2)), (14, (eI x23.1.1))] ?_
          refine aP ?_
          refine aW aD 6 ?_
          refine bV 5 ?_
          obtain ⟨x31, hx32, h1⟩ := aZ h1
          refine wX [(lo0p, 1, List.map (eI) x31)] 0 (ih lo0p x23.2 (wR (x23.1.1 + (1 : Int))) b2 cC _ hx32) hO ?_
          intro H hO hl33
          simp only [List.length_map] at hl33
          replace hN := hl33.trans hN
          refine hY ?_
          refine dA (l := [(0, (.msl 1 lo0p 0 (List.length x31))), (1, (eI a1)), (3, (eI cC)), (8, (aE (decide ((wR (Int.tdiv dW (8 : Int))) ≤ (wR (b2 - x23.1.1)))))), (9, (aE x23.1.2)), (14, (eI x23.1.1))]) ⟨[(0, (.msl 1 lo0p 0 (List.length x23.2))), (1, (eI a1)), (3, (eI cC)), (8, (aE (decide ((wR (Int.tdiv dW (8 : Int))) ≤ (wR (b2 - x23.1.1)))))), (9, (aE x23.1.2)), (14, (eI x23.1.1))], by kernel_rfl, rfl, ⟨aN.eq (by simp [hl33]), aN.refl _, aN.refl _, aN.refl _, aN.refl _, aN.refl _, trivial⟩⟩ ?_
          refine aG (aF (?_))
          refine aW aD 2 ?_
          refine bD ?_
          exact aG (aY (aF (⟨rfl, _, (oI h1).symm, .eq (by kernel_rfl), hO, hN⟩)))
      refine aT aD 8 [12] [(68, (aE ((bX && bO) && (decide (BC = (1 : Int))))))] ?_
      refine bF h1 (fun h1 => ?_) (fun h1 => ?_)
      · refine aP ?_
        refine aW aD 4 ?_
        refine bV 3 ?_
        obtain ⟨x35, hx36, h1⟩ := aZ h1
        refine wX [(lo0p, 1, List.map (eI) x35.2)] 0 (rC lo0p aA a1 b2 _ hx36) hO ?_
        intro H hO hl37
        simp only [List.length_map] at hl37
        replace hN := hl37.trans hN
        refine hY ?_
        refine dA (l := [(0, (.msl 1 lo0p 0 (List.length x35.2))), (1, (eI a1)), (2, (eI b2)), (3, (eI cC)), (8, (aE bX)), (9, (aE bO)), (10, (eI dW)), (11, (eI fQ)), (72, (aE x35.1))]) ⟨[(0, (.msl 1 lo0p 0 (List.length aA))), (1, (eI a1)), (2, (eI b2)), (3, (eI cC)), (8, (aE bX)), (9, (aE bO)), (10, (eI dW)), (11, (eI fQ)), (72, (aE x35.1))], by kernel_rfl, rfl, ⟨aN.eq (by simp [hl37]), aN.refl _, aN.refl _, aN.refl _, aN.refl _, aN.refl _, aN.refl _, aN.refl _, aN.refl _, trivial⟩⟩ ?_
        refine aG (aF (?_))
        refine bF h1 (fun h1 => ?_) (fun h1 => ?_)
        · refine bI ?_
          obtain rfl := oI h1
          obtain rfl : _ = rr0 := ho0
          replace h0 : some x35.2 = some r := h0
          obtain rfl := oI h0
          exact aG (aQ (bK (aQ (bK (lE (x := (.tup [])) (by kernel_rfl) (aN.refl _) ⟨rfl, hO.ext, hO.at 0 (by kernel_rfl), by simp only [List.length_map]; exact hN.trans hN0⟩)))))
        refine bG ?_
        exact aG (aF (⟨rfl, _, .eq (by kernel_rfl), hO, hN, h1⟩))
      refine bG ?_
      exact aG (aF (⟨rfl, _, .eq (by kernel_rfl), hO, hN, h1⟩))
    refine aT aD 2 [] [(50, (aE (decide (x9.2 = (2 : Int)))))] ?_
    refine bF h1 (fun h1 => ?_) (fun h1 => ?_)
    · refine aP ?_
      refine aW aD 4 ?_
      refine bV 3 ?_
      obtain ⟨x40, hx41, h1⟩ := aZ h1
      refine wX [(lo0p, 1, List.map (eI) x40)] 0 (vJ lo0p aA a1 b2 _ hx41) hO ?_
      intro H hO hl42
      simp only [List.length_map] at hl42
      replace hN := hl42.trans hN
      refine hY ?_
      refine dA (l := [(0, (.msl 1 lo0p 0 (List.length x40))), (1, (eI a1)), (2, (eI b2)), (3, (eI cC)), (8, (aE bX)), (9, (aE bO)), (10, (eI dW)), (11, (eI x9.1))]) ⟨[(0, (.msl 1 lo0p 0 (List.length aA))), (1, (eI a1)), (2, (eI b2)), (3, (eI cC)), (8, (aE bX)), (9, (aE bO)), (10, (eI dW)), (11, (eI x9.1))], by kernel_rfl, rfl, ⟨aN.eq (by simp [hl42]), aN.refl _, aN.refl _, aN.refl _, aN.refl _, aN.refl _, aN.refl _, aN.refl _, trivial⟩⟩ ?_
      refine aG (aF (?_))
      refine aT aD 7 [11] [(11, (eI (wR ((wR (b2 - (1 : Int))) - (wR (x9.1 - a1))))))] ?_
      refine aW aD 1 ?_
      refine bD ?_
      exact aG (aF (⟨rfl, _, _, _, .eq (by kernel_rfl), hO, hN, h1⟩))
    refine bG ?_
    exact aG (aF (⟨rfl, _, _, _, .eq (by kernel_rfl), hO, hN, h1⟩))
  refine aT aD 2 [] [(35, (aE (!bX)))] ?_
  refine bF h1 (fun h1 => ?_) (fun h1 => ?_)
  · refine aP ?_
    refine aW aD 4 ?_
    refine bV 3 ?_
    obtain ⟨x44, hx45, h1⟩ := aZ h1
    refine wX [(lo0p, 1, List.map (eI) x44)] 0 (uQ lo0p aA a1 b2 _ hx45) hO ?_
    intro H hO hl46
    simp only [List.length_map] at hl46
    replace hN := hl46.trans hN
    refine hY ?_
    refine dA (l := [(0, (.msl 1 lo0p 0 (List.length x44))), (1, (eI a1)), (2, (eI b2)), (3, (eI cC)), (8, (aE bX)), (9, (aE bO)), (10, (eI (wR (b2 - a1))))]) ⟨[(0, (.msl 1 lo0p 0 (List.length aA))), (1, (eI a1)), (2, (eI b2)), (3, (eI cC)), (8, (aE bX)), (9, (aE bO)), (10, (eI (wR (b2 - a1))))], by kernel_rfl, rfl, ⟨aN.eq (by simp [hl46]), aN.refl _, aN.refl _, aN.refl _, aN.refl _, aN.refl _, aN.refl _, trivial⟩⟩ ?_
    refine aG (aF (?_))
    refine aW aD 3 ?_
    refine bD ?_
    exact aG (aF (⟨rfl, _, _, _, .eq (by kernel_rfl), hO, hN, h1⟩))
  refine bG ?_
  exact aG (aF (⟨rfl, _, _, _, .eq (by kernel_rfl), hO, hN, h1⟩))

theorem pI  : ∀ (k : Nat) (lo0p : Nat) (aA : (List Int)) (a1 : Int) (b2 : Int) (cC : Int) (r : List Int), dI k aA a1 b2 cC = some r → nC Try.prog 60 lo0p 1 (List.map (eI) aA) (List.map (eI) r) [(.msl 1 lo0p 0 (List.length aA)), (eI a1), (eI b2), (eI cC)] (.tup [])
  | 0, _, _, _, _, _, _, h => by cases h
  | k + 1, lo0p, aA, a1, b2, cC, r, h => vD  _ (pI  k) lo0p aA a1 b2 cC r h

theorem xS (lo0p : Nat) (aA : (List Int)) (a1 : Int) (b2 : Int) (cC : Int) (r : List Int) (h0 : jI aA a1 b2 cC = some r) : nC Try.prog 60 lo0p 1 (List.map (eI) aA) (List.map (eI) r) [(.msl 1 lo0p 0 (List.length aA)), (eI a1), (eI b2), (eI cC)] (.tup []) := by
  obtain ⟨k, hk⟩ := LD h0
  exact pI  k lo0p aA a1 b2 cC r hk

theorem BB (lo0p : Nat) (x0 : (List Int)) (r : List Int) (h0 : kH x0 = some r) : nC Try.prog 33 lo0p 1 (List.map (eI) x0) (List.map (eI) r) [(.msl 1 lo0p 0 (List.length x0))] (.tup []) := by
  intro H0 hl0
  refine dF Try.func33 ?_
  have hO := aL.rR hl0
  clear hl0
  obtain ⟨N0, hN0⟩ : ∃ n, n = List.length x0 := ⟨_, rfl⟩
  have hN : List.length x0 = N0 := hN0.symm
  unfold kH at h0
  refine aT aD 3 [] [(2, (eI (lN x0)))] ?_
  refine aW aD 6 ?_
  refine bV 4 ?_
  obtain ⟨x1, hx2, h0⟩ := aZ h0
  refine dL (zW (IntKind.u64.wrap (lN x0)) _ hx2) hO ?_
  intro H hO
  obtain ⟨x4, hx5, h0⟩ := aZ h0
  refine wX [(lo0p, 1, List.map (eI) x4)] 0 (xS lo0p x0 (0 : Int) (lN x0) x1 _ hx5) hO ?_
  intro H hO hl6
  simp only [List.length_map] at hl6
  replace hN := hl6.trans hN
  refine hY ?_
  refine dA (l := [(0, (.msl 1 lo0p 0 (List.length x4)))]) ⟨[(0, (.msl 1 lo0p 0 (List.length x0)))], by kernel_rfl, rfl, ⟨aN.eq (by simp [hl6]), trivial⟩⟩ ?_
  obtain rfl := oI h0
  exact aG (yL (x := (.tup [])) (by kernel_rfl) (aN.refl _) ⟨rfl, hO.ext, hO.at 0 (by kernel_rfl), by simp only [List.length_map]; exact hN.trans hN0⟩)

theorem zO (lo0p : Nat) (s0 : (List Int)) (r : (List Int)) (h0 : jD s0 = some r) : CI Try.prog 69 lo0p 1 (List.map (eI) s0) [(.msl 1 lo0p 0 (List.length s0))] (fun lo => .msl 1 lo 0 (List.length r)) (List.map (eI) r) := by
  intro H0 hl0
  refine dF Try.func69 ?_
  have hO := aL.rR hl0
  clear hl0
  unfold jD at h0
  refine aT aD 1 [] [] ?_
  refine aP ?_
  refine aT aD 3 [] [(8, (aE (decide ((lN s0) < (2 : Int)))))] ?_
  refine bF h0 (fun h0 => ?_) (fun h0 => ?_)
  · refine bT aD 2 [(2, (.msl 1 lo0p 0 (List.length s0)))] ?_
    refine bI ?_
    obtain rfl := oI h0
    exact aG (aQ (lE (x := (.msl 1 lo0p 0 (List.length s0))) (by kernel_rfl) (aN.refl _) ⟨lo0p, rfl, hO⟩))
  refine bG ?_
  refine bE [(0, (.msl 1 lo0p 0 (List.length s0)))] ?_
  refine dU (fun T H => ∃ s0 : List Int, ∃ lo2 : Nat, Has T [(0, (.msl 1 lo2 0 (List.length s0)))] ∧ aL ⟨H0, [lo0p], []⟩ H [(lo2, 1, List.map (eI) s0)] ∧ kA s0 = some r) ?_ ?_
  · clear hO h0
    rintro T H ⟨s0, lo2, hT, hO, h0⟩
    refine bC hT ?_
    clear hT
    unfold kA at h0
    refine bT aD 2 [(2, (.msl 1 lo2 0 (List.length s0)))] ?_
    refine bI ?_
    obtain rfl := oI h0
    exact aG (lE (x := (.msl 1 lo2 0 (List.length s0))) (by kernel_rfl) (aN.refl _) ⟨lo2, rfl, hO⟩)
  refine aT aD 1 [] [(3, (eI (1 : Int)))] ?_
  refine bZ 0 ?_
  refine eZ [(0, (.msl 1 lo0p 0 (List.length s0))), (3, (eI (1 : Int)))] ?_
  refine dO (fun T H => ∃ s0 : List Int, ∃ k3 : Int, ∃ lo4 : Nat, Has T [(0, (.msl 1 lo4 0 (List.length s0))), (3, (eI k3))] ∧ aL ⟨H0, [lo0p], []⟩ H [(lo4, 1, List.map (eI) s0)] ∧ lY s0 k3 = some r) ?_ ⟨s0, (1 : Int), lo0p, .eq (by kernel_rfl), hO, h0⟩
  clear hO h0
  rintro T H ⟨s0, k3, lo4, hT, hO, h0⟩
  refine bC hT ?_
  clear hT
  unfold lY at h0
  obtain ⟨rr0, hl0, h0⟩ := aZ h0
  refine cP (by kernel_rfl) (fun (s : List Int × Int) T H => ∃ lo4 : Nat, Has T [(0, (.msl 1 lo4 0 (List.length s.1))), (3, (eI s.2))] ∧ aL ⟨H0, [lo0p], []⟩ H [(lo4, 1, List.map (eI) s.1)]) hl0 ⟨lo4, .eq (by kernel_rfl), hO⟩ ?_
  clear hO
  rintro k0 s out1 T H ⟨lo4, hT, hO⟩ h1 ho0
  obtain ⟨s0, k3⟩ := s
  replace h1 : gH s0 k3 = some out1 := h1
  try dsimp only at hT
  refine bC hT ?_
  clear hT
  unfold gH at h1
  refine aP ?_
  refine aT aD 4 [] [(13, (aE (decide (k3 < (lN s0)))))] ?_
  refine bF h1 (fun h1 => ?_) (fun h1 => ?_)
  · refine bG ?_
    refine bE [(0, (.msl 1 lo4 0 (List.length s0))), (3, (eI k3))] ?_
    refine dU (fun T H => ∃ s0 : List Int, ∃ k3 : Int, ∃ lo6 : Nat, Has T [(0, (.msl 1 lo6 0 (List.length s0))), (3, (eI k3))] ∧ aL ⟨H0, [lo0p], []⟩ H [(lo6, 1, List.map (eI) s0)] ∧ lX s0 k3 = some out1) ?_ ?_
    · clear hO h1
      rintro T H ⟨s0, k3, lo6, hT, hO, h1⟩
      refine bC hT ?_
      clear hT
      unfold lX at h1
      refine aW aD 3 ?_
      refine bD ?_
      exact aG (aF (⟨rfl, _, (oI h1).symm, _, .eq (by kernel_rfl), hO⟩))
    refine bZ 1 ?_
    refine aP ?_
    refine eC (eE []) aD 10 ?_
    obtain ⟨c7, h1⟩ := aR h1
    refine cB 3 [0 ≤ k3 ∧ k3 < (lN s0)] ⟨c7, trivial⟩ ?_
    refine fL 0 lo4 1 (0 + Int.toNat k3) (eI (gD s0 k3)) (eI (gD s0 k3)) (List.map (eI) s0) hO (bY c7) ?_
    obtain ⟨c8, h1⟩ := aR h1
    refine cB 8 [0 ≤ (wR (k3 - (1 : Int))) ∧ (wR (k3 - (1 : Int))) < (lN s0)] ⟨c8, trivial⟩ ?_
    refine fL 0 lo4 1 (0 + Int.toNat (wR (k3 - (1 : Int)))) (eI (gD s0 (wR (k3 - (1 : Int))))) (eI (gD s0 (wR (k3 - (1 : Int))))) (List.map (eI) s0) hO (bY c8) ?_
    refine gG ?_
    refine bU [] [(25, (aE (decide ((gD s0 k3) = (gD s0 (wR (k3 - (1 : Int))))))))] ?_
    refine bF h1 (fun h1 => ?_) (fun h1 => ?_)
    · refine aP ?_
      refine aW aD 4 ?_
      obtain ⟨c10, h1⟩ := aR h1
      refine mH [0 ≤ k3 ∧ k3 ≤ (lN s0)] ⟨c10, trivial⟩ ?_
      refine bU [25] [(4, (.msl 1 lo4 (0 + Int.toNat k3) (List.length s0 - Int.toNat k3)))] ?_
      refine dU (fun T H => ∃ s0 : List Int, ∃ k3 : Int, ∃ lo11 : Nat, Has T [(0, (.msl 1 lo11 0 (List.length s0))), (3, (eI k3))] ∧ aL ⟨H0, [lo0p], []⟩ H [(lo11, 1, List.map (eI) s0)] ∧ kG s0 k3 = some out1) ?_ ?_
      · clear hO h1
        rintro T H ⟨s0, k3, lo11, hT, hO, h1⟩
        refine bC hT ?_
        clear hT
        unfold kG at h1
        refine aP ?_
        refine aW aD 4 ?_
        obtain ⟨c12, h1⟩ := aR h1
        refine nR 3 [0 ≤ k3 ∧ k3 ≤ (lN s0)] ⟨c12, trivial⟩ ?_
        refine ZY (t := 25) (m := (0 + Int.toNat k3)) (nn := (List.length s0 - Int.toNat k3)) s0 0 lo11 [(lo11, 1, List.map (eI) (jM (0 + Int.toNat k3) s0))] hO (by omega) ?_
        intro H hO
        refine hY ?_
        refine dA (l := [(0, (.msl 1 lo11 0 (List.length (jM (0 + Int.toNat k3) s0)))), (3, (eI k3))]) ⟨[(0, (.msl 1 lo11 0 (List.length s0))), (3, (eI k3))], by kernel_rfl, rfl, ⟨aN.eq (by simp [clearL_len]), aN.refl _, trivial⟩⟩ ?_
        refine aG (aF (?_))
        refine aP ?_
        refine aW aD 4 ?_
        obtain ⟨c13, h1⟩ := aR h1
        obtain ⟨c14, h1⟩ := aR h1
        refine mH [0 ≤ k3 ∧ k3 ≤ (lN (jM (0 + Int.toNat k3) s0))] ⟨c13, trivial⟩ ?_
        refine bE [(2, (.msl 1 lo11 0 (Int.toNat k3)))] ?_
        refine bI ?_
        refine dA (l := [(2, (.msl 1 lo11 0 (List.length (List.take (Int.toNat k3) (jM (0 + Int.toNat k3) s0)))))]) ⟨[(2, (.msl 1 lo11 0 (Int.toNat k3)))], by kernel_rfl, rfl, ⟨aN.eq (by rw [List.length_take, Nat.min_eq_left c14]), trivial⟩⟩ ?_
        refine aAX (en := (eI)) (jM (0 + Int.toNat k3) s0) (Int.toNat k3) 0 1 lo11 [(lo11, 1, List.map (eI) (List.take (Int.toNat k3) (jM (0 + Int.toNat k3) s0)))] hO (by kernel_rfl) (by kernel_rfl) ?_
        intro H hO
        obtain rfl := oI h1
        obtain rfl : _ = rr0 := ho0
        replace h0 : some (List.take (Int.toNat k3) (jM (0 + Int.toNat k3) s0)) = some r := h0
        obtain rfl := oI h0
        exact aG (bK (aQ (aQ (bK (aQ (lE (x := (.msl 1 lo11 0 (List.length (List.take (Int.toNat k3) (jM (0 + Int.toNat k3) s0))))) (by kernel_rfl) (aN.refl _) ⟨lo11, rfl, hO⟩))))))
      refine aT aD 1 [] [(5, (eI (1 : Int)))] ?_
      refine bZ 2 ?_
      refine eZ [(0, (.msl 1 lo4 0 (List.length s0))), (3, (eI k3)), (4, (.msl 1 lo4 (0 + Int.toNat k3) (List.length s0 - Int.toNat k3))), (5, (eI (1 : Int)))] ?_
      refine dO (fun T H => ∃ s0 : List Int, ∃ k3 : Int, ∃ k25 : Int, ∃ s24o : Nat, ∃ s24n : Nat, ∃ lo16 : Nat, Has T [(0, (.msl 1 lo16 0 (List.length s0))), (3, (eI k3)), (4, (.msl 1 lo16 s24o s24n)), (5, (eI k25))] ∧ aL ⟨H0, [lo0p], []⟩ H [(lo16, 1, List.map (eI) s0)] ∧ mA s0 k3 k25 s24o s24n = some out1) ?_ ⟨s0, k3, (1 : Int), (0 + Int.toNat k3), (List.length s0 - Int.toNat k3), lo4, .eq (by kernel_rfl), hO, h1⟩
      clear hO h1
      rintro T H ⟨s0, k3, k25, s24o, s24n, lo16, hT, hO, h1⟩
      refine bC hT ?_
      clear hT
      unfold mA at h1
      obtain ⟨rr1, hl1, h1⟩ := aZ h1
      refine cP (by kernel_rfl) (fun (s : List Int × Int × Int) T H => ∃ lo16 : Nat, Has T [(0, (.msl 1 lo16 0 (List.length s.1))), (3, (eI s.2.1)), (4, (.msl 1 lo16 s24o s24n)), (5, (eI s.2.2))] ∧ aL ⟨H0, [lo0p], []⟩ H [(lo16, 1, List.map (eI) s.1)]) hl1 ⟨lo16, .eq (by kernel_rfl), hO⟩ ?_
      clear hO
      rintro k1 s out2 T H ⟨lo16, hT, hO⟩ h2 ho1
      obtain ⟨s0, k3, k25⟩ := s
      replace h2 : fD s24o s24n s0 k3 k25 = some out2 := h2
      try dsimp only at hT
      refine bC hT ?_
      clear hT
      unfold fD at h2
      refine aP ?_
      refine aT aD 4 [] [(32, (aE (decide (k25 < ((s24n : Nat) : Int)))))] ?_
      refine bF h2 (fun h2 => ?_) (fun h2 => ?_)
      · refine bG ?_
        refine bE [(0, (.msl 1 lo16 0 (List.length s0))), (3, (eI k3)), (4, (.msl 1 lo16 s24o s24n)), (5, (eI k25))] ?_
        refine dU (fun T H => ∃ s0 : List Int, ∃ k3 : Int, ∃ lo18 : Nat, Has T [(0, (.msl 1 lo18 0 (List.length s0))), (3, (eI k3)), (4, (.msl 1 lo18 s24o s24n)), (5, (eI k25))] ∧ aL ⟨H0, [lo0p], []⟩ H [(lo18, 1, List.map (eI) s0)] ∧ iT s0 k3 k25 s24o s24n = some out2) ?_ ?_
        · clear hO h2
          rintro T H ⟨s0, k3, lo18, hT, hO, h2⟩
          refine bC hT ?_
          clear hT
          unfold iT at h2
          refine aW aD 3 ?_
          refine bD ?_
          exact aG (aF (⟨rfl, _, (oI h2).symm, _, .eq (by kernel_rfl), hO⟩))
        refine bZ 3 ?_
        refine aP ?_
        refine eC (eE []) aD 10 ?_
        obtain ⟨c19, h2⟩ := aR h2
        obtain ⟨c20, h2⟩ := aR h2
        refine cB 3 [0 ≤ k25 ∧ k25 < ((s24n : Nat) : Int)] ⟨c19, trivial⟩ ?_
        refine fL 0 lo16 1 (s24o + Int.toNat k25) (eI (List.getD s0 (s24o + Int.toNat k25) default)) (eI (List.getD s0 (s24o + Int.toNat k25) default)) (List.map (eI) s0) hO (JT c20) ?_
        obtain ⟨c21, h2⟩ := aR h2
        obtain ⟨c22, h2⟩ := aR h2
        refine cB 8 [0 ≤ (wR (k25 - (1 : Int))) ∧ (wR (k25 - (1 : Int))) < ((s24n : Nat) : Int)] ⟨c21, trivial⟩ ?_
        refine fL 0 lo16 1 (s24o + Int.toNat (wR (k25 - (1 : Int)))) (eI (List.getD s0 (s24o + Int.toNat (wR (k25 - (1 : Int)))) default)) (eI (List.getD s0 (s24o + Int.toNat (wR (k25 - (1 : Int)))) default)) (List.map (eI) s0) hO (JT c22) ?_
        refine gG ?_
        refine bU [] [(44, (aE (!decide ((List.getD s0 (s24o + Int.toNat k25) default) = (List.getD s0 (s24o + Int.toNat (wR (k25 - (1 : Int)))) default)))))] ?_
        refine bF h2 (fun h2 => ?_) (fun h2 => ?_)
        · refine aP ?_
          refine aW aD 8 ?_
          obtain ⟨c24, h2⟩ := aR h2
          obtain ⟨c25, h2⟩ := aR h2
          refine nR 5 [0 ≤ k25 ∧ k25 < ((s24n : Nat) : Int)] ⟨c24, trivial⟩ ?_
          refine pQ 0 lo16 1 (s24o + Int.toNat k25) (eI (List.getD s0 (s24o + Int.toNat k25) default)) (eI (List.getD s0 (s24o + Int.toNat k25) default)) (List.map (eI) s0) hO (JT c25) ?_
          obtain ⟨c26, h2⟩ := aR h2
          refine nR 7 [0 ≤ k3 ∧ k3 < (lN s0)] ⟨c26, trivial⟩ ?_
          refine pT 0 lo16 1 (0 + Int.toNat k3) (eI (gD s0 k3)) (eI (List.getD s0 (s24o + Int.toNat k25) default)) (List.map (eI) s0) [(lo16, 1, List.map (eI) (List.set s0 (Int.toNat k3) (List.getD s0 (s24o + Int.toNat k25) default)))] hO (bY c26) (by simp only [List.set, gK]) ?_
          intro H hO
          refine hY ?_
          refine dA (l := [(0, (.msl 1 lo16 0 (List.length (List.set s0 (Int.toNat k3) (List.getD s0 (s24o + Int.toNat k25) default))))), (3, (eI k3)), (4, (.msl 1 lo16 s24o s24n)), (5, (eI k25))]) ⟨[(0, (.msl 1 lo16 0 (List.length s0))), (3, (eI k3)), (4, (.msl 1 lo16 s24o s24n)), (5, (eI k25))], by kernel_rfl, rfl, ⟨aN.eq (by simp []), aN.refl _, aN.refl _, aN.refl _, trivial⟩⟩ ?_
          refine aG (aF (?_))
          refine aW aD 3 ?_
          refine bD ?_
          exact aG (aY (aF (⟨rfl, _, _, _, .eq (by kernel_rfl), hO, h2⟩)))
        refine bG ?_
        exact aG (aY (aF (⟨rfl, _, _, _, .eq (by kernel_rfl), hO, h2⟩)))
      refine eP 2 ?_
      obtain rfl := oI h2
      obtain rfl : _ = rr1 := ho1
      replace h1 : kG s0 k3 = some out1 := h1
      exact aG (aS (aS (bP (aF (⟨rfl, _, _, _, .eq (by kernel_rfl), hO, h1⟩)))))
    refine bG ?_
    exact aG (aY (aF (⟨rfl, _, _, _, .eq (by kernel_rfl), hO, h1⟩)))
  refine eP 0 ?_
  obtain rfl := oI h1
  obtain rfl : _ = rr0 := ho0
  replace h0 : kA s0 = some r := h0
  exact aG (aS (aS (bP (aF (⟨rfl, _, _, .eq (by kernel_rfl), hO, h0⟩)))))

theorem wD (l0 : (List aI)) (r : (List Int)) (h0 : mI l0 = some r) : dH Try.prog 47 [(eL aH l0)] (eL (eI) r) := by
  intro H0
  refine KA aD Try.func47 (by kernel_rfl) (by kernel_rfl) (by kernel_rfl) ?_
  have hO := aL.start H0
  unfold mI at h0
  refine aT aD 1 [] [] ?_
  refine aP ?_
  refine aW aD 3 ?_
  refine nA (xs := []) (k := 1) (by kernel_rfl) (by kernel_rfl) ?_
  refine vI 1 (.sl true 0 (fun _ => .bad)) (eL (eI) ([])) (by kernel_rfl) (by kernel_rfl) (by kernel_rfl) (kY) (by kernel_rfl) (by kernel_rfl) hO ?_
  intro lo1 H hO
  refine aAI 5 1 (fun _ => .bad) (by kernel_rfl) hO (by kernel_rfl) ?_
  intro lo2 H hO
  refine pT 0 lo1 1 0 (eL (eI) ([])) (.msl 1 lo2 0 (List.length ([] : List Int))) [(eL (eI) ([]))] [(lo1, 1, [(.msl 1 lo2 0 (List.length ([] : List Int)))]), (lo2, 1, List.map (eI) ([] : List Int))] hO rfl (by kernel_rfl) ?_
  intro H hO
  refine hY ?_
  refine bU [] [(3, (.lp lo1 0 0))] ?_
  refine aP ?_
  refine aP ?_
  refine aW aD 2 ?_
  refine bV 1 ?_
  obtain ⟨x3, hx4, h0⟩ := aZ h0
  refine dL (BH l0 _ hx4) hO ?_
  intro H hO
  refine hY ?_
  refine bU [0] [(7, (.fn (.func 94) [] [(.rp (eL aH x3))]))] ?_
  refine bZ 0 ?_
  refine eZ [(3, (.lp lo1 0 0)), (7, (.fn (.func 94) [] [(.rp (eL aH x3))]))] ?_
  refine dO (fun T H => ∃ out3 : List Int, ∃ t7c0 : (List aI), ∃ lo5 : Nat, Has T [(3, (.lp lo1 0 0)), (7, (.fn (.func 94) [] [(.rp (eL aH t7c0))]))] ∧ aL ⟨H0, [], []⟩ H [(lo1, 1, [(.msl 1 lo5 0 (List.length out3))]), (lo5, 1, List.map (eI) out3)] ∧ rA out3 t7c0 = some r) ?_ ⟨([] : List Int), x3, lo2, .eq (by kernel_rfl), hO, h0⟩
  clear hO h0
  rintro T H ⟨out3, t7c0, lo5, hT, hO, h0⟩
  refine bC (l := [(3, (.lp lo1 0 0)), (7, (.fn (.func 94) [] [(.rp (eL aH t7c0))]))]) hT ?_
  clear hT
  unfold rA at h0
  obtain ⟨o0, hl0, h0⟩ := aZ h0
  refine FZ (fid := 94) (ys := []) (cs := [(.rp (eL aH t7c0))]) #[8] (fun (A : AG) (b lL : Nat) (st : (List Int) ⊕ (List Int)) (G' : Gs) => Sum.elim (fun (s : List Int) => ∃ lo5 : Nat, G' = (lL, .raw (mD b A .ready none)) :: (up [(lo1, 1, [(.msl 1 lo5 0 (List.length s))]), (lo5, 1, List.map (eI) s)] ++ [])) (fun (s : List Int) => False) st) (.inl out3) o0 (.tup []) (by kernel_rfl) (by kernel_rfl) (by kernel_rfl) hO (fun _ _ => ⟨lo5, rfl⟩) ?_ ?_
  · intro b lL
    clear hO h0
    refine xM _ b (fun st t8 => rnd (fun (s : List Int) => oM t7c0 s t8) st) ?_ t7c0 _ _ hl0
    intro st t8 out1 rr hr
    obtain ⟨s, rfl, h1, rfl⟩ := WX hr
    clear hr
    intro Hr Gr hi hg
    obtain ⟨out3, rfl⟩ : ∃ x, x = s := ⟨_, rfl⟩
    dsimp only [Sum.elim_inl] at hi
    obtain ⟨lo5, rfl⟩ := hi
    replace h1 : oM t7c0 out3 t8 = some out1 := h1
    unfold oM at h1
    obtain ⟨E1, hE, hO⟩ := AH hg
    refine AK (GX (hO.gm 0 _ rfl).2 (by kernel_rfl) (by kernel_rfl) ?_)
    refine eZ [(3, (.lp lo1 0 0)), (7, (.fn (.func 94) [] [(.rp (eL aH t7c0))])), (8, (aH t8))] ?_
    refine aW aD 2 ?_
    refine vI 3 (.agg [(.sl true 0 (fun _ => .bad)), (eI 0), (eI 0)]) (aH (aI.mk ([]) 0 0)) (by kernel_rfl) (by kernel_rfl) (by kernel_rfl) (yZ (xs := [(.sl true 0 (fun _ => .bad)), (eI 0), (eI 0)]) (ys := [(eL aC ([])), (eI 0), (eI 0)]) ⟨kY, aN.refl _, aN.refl _, trivial⟩) (by kernel_rfl) (by kernel_rfl) hO ?_
    intro lo6 H hO
    refine pT 2 lo6 3 0 (aH (aI.mk ([]) 0 0)) (aH t8) [(aH (aI.mk ([]) 0 0))] [(lo1, 1, [(.msl 1 lo5 0 (List.length out3))]), (lo5, 1, List.map (eI) out3), (lo6, 3, [(aH t8)])] hO rfl (by kernel_rfl) ?_
    intro H hO
    refine hY ?_
    refine fZ [(3, (.lp lo1 0 0)), (4, (.lp lo6 0 0))] ?_
    refine aG (⟨rfl, rfl, (hO.gm 0 _ rfl).2, ?_⟩)
    intro o1 ho1
    replace hO := hO.BT o1
    refine bZ 1 ?_
    refine aW aD 6 ?_
    refine pQ 0 lo1 1 0 (.msl 1 lo5 0 (List.length out3)) (.msl 1 lo5 0 (List.length out3)) [(.msl 1 lo5 0 (List.length out3))] hO rfl ?_
    refine bV 2 ?_
    refine pQ 2 lo6 3 0 (aH t8) (eI t8.At) [(aH t8)] hO rfl ?_
    refine nA (xs := [(eI t8.At)]) (k := 1) (by kernel_rfl) (by kernel_rfl) ?_
    obtain ⟨c8, h1⟩ := aR h1
    refine sH (e := (eI)) out3 ([t8.At]) 1 lo5 1 8 (iO [(eI t8.At)]) (fun lo7 => [(lo1, 1, [(.msl 1 lo5 0 (List.length out3))]), (lo7, 1, List.map (eI) (out3 ++ ([t8.At]))), (lo6, 3, [(aH t8)])]) (by kernel_rfl) (by kernel_rfl) hO (by kernel_rfl) (by kernel_rfl) c8 (fun _ => by kernel_rfl) ?_
    intro lo7 H hO
    refine pT 0 lo1 1 0 (.msl 1 lo5 0 (List.length out3)) (.msl 1 lo7 0 (List.length (out3 ++ ([t8.At])))) [(.msl 1 lo5 0 (List.length out3))] [(lo1, 1, [(.msl 1 lo7 0 (List.length (out3 ++ ([t8.At]))))]), (lo7, 1, List.map (eI) (out3 ++ ([t8.At]))), (lo6, 3, [(aH t8)])] hO rfl (by kernel_rfl) ?_
    intro H hO
    refine hY ?_
    refine fZ [(3, (.lp lo1 0 0))] ?_
    replace hO := hO.pick (L' := [(lo1, 1, [(.msl 1 lo7 0 (List.length (out3 ++ ([t8.At]))))]), (lo7, 1, List.map (eI) (out3 ++ ([t8.At])))]) [0, 1] (by decide) (by kernel_rfl)
    obtain rfl := oI h1
    exact aG (aY (⟨(mO hO hE ho1 .dead).1, rfl, _, ⟨lo7, rfl⟩, (mO hO hE ho1 _).2⟩))
  · intro b lD9 lL H' G' hi hO
    rcases o0 with s | s
    · dsimp only [Sum.elim_inl] at hi
      obtain ⟨lo5, rfl⟩ := hi
      replace h0 : ((kH s).bind fun x10 => (jD x10).bind fun x13 => some x13) = some r := h0
      obtain ⟨hlL, hO⟩ := yO hO
      refine ⟨_, _, hlL, (by intro e; cases e), ?_⟩
      refine fZ [(3, (.lp lo1 0 0))] ?_
      refine aG (aY (aF (?_)))
      refine aP ?_
      refine aW aD 2 ?_
      refine pQ 0 lo1 1 0 (.msl 1 lo5 0 (List.length s)) (.msl 1 lo5 0 (List.length s)) [(.msl 1 lo5 0 (List.length s))] hO rfl ?_
      obtain ⟨x10, hx11, h0⟩ := aZ h0
      refine wX [(lo1, 1, [(.msl 1 lo5 0 (List.length s))]), (lo5, 1, List.map (eI) x10)] 1 (BB lo5 s _ hx11) hO ?_
      intro H hO hl12
      simp only [List.length_map] at hl12
      refine hY ?_
      refine fZ [(3, (.lp lo1 0 0))] ?_
      replace hO : aL ⟨H0, [], (lD9, .raw yW) :: []⟩ H [(lo1, 1, [(.msl 1 lo5 0 (List.length x10))]), (lo5, 1, List.map (eI) x10)] := by simpa only [List.length_set, hl12] using hO
      refine aG (aF (?_))
      refine aP ?_
      refine aW aD 3 ?_
      refine pQ 0 lo1 1 0 (.msl 1 lo5 0 (List.length x10)) (.msl 1 lo5 0 (List.length x10)) [(.msl 1 lo5 0 (List.length x10))] hO rfl ?_
      obtain ⟨x13, hx14, h0⟩ := aZ h0
      refine aAf (L' := fun lo15 => [(lo1, 1, [(.msl 1 lo5 0 (List.length x10))]), (lo15, 1, List.map (eI) x13)]) 1 lo5 1 (List.map (eI) x10) (List.map (eI) x13) 69 [(.msl 1 lo5 0 (List.length x10))] (fun lo15 => (.msl 1 lo15 0 (List.length x13))) (by kernel_rfl) (by kernel_rfl) (zO lo5 x10 _ hx14) hO (by kernel_rfl) (fun _ => by kernel_rfl) ?_
      intro lo15 H hO
      refine bD ?_
      refine fZ [(2, (.msl 1 lo15 0 (List.length x13)))] ?_
      replace hO := hO.pick (L' := [(lo15, 1, List.map (eI) x13)]) [1] (by decide) (by kernel_rfl)
      refine aG (aF (?_))
      refine bI ?_
      refine fZ [(2, (.msl 1 lo15 0 (List.length x13)))] ?_
      refine tK (en := (eI)) x13 0 0 2 1 lo15 (List.length x13) hO (by kernel_rfl) (by kernel_rfl) (by kernel_rfl) (L' := []) (by kernel_rfl) ?_
      intro H16 hO
      obtain rfl := oI h0
      have hD := (hO.gm 0 _ rfl).2
      replace hO := (hO.BT .dead).BZ
      exact aG (QM1 (.inr rfl) hD (rs := [.tmp 2]) (xs := [(eL (eI) x13)]) (x := (eL (eI) x13)) (by kernel_rfl) (aAE (x := (eL (eI) x13)) (by kernel_rfl) DR) (by kernel_rfl) ⟨rfl, hO.out⟩)
    · exact hi.elim

theorem IG (l0 : (List aI)) (r : ((List Int) × Int)) (h0 : pN l0 = some r) : dH Try.prog 21 [(eL aH l0)] (.tup [(eL (eI) r.1), (eI r.2)]) := by
  intro H0
  refine dF Try.func21 ?_
  have hO := aL.start H0
  unfold pN at h0
  refine aT aD 2 [] [] ?_
  refine aP ?_
  refine aP ?_
  refine aW aD 3 ?_
  refine bV 1 ?_
  obtain ⟨x1, hx2, h0⟩ := aZ h0
  refine dL (zJ l0 (1 : Int) _ hx2) hO ?_
  intro H hO
  refine bD ?_
  refine bU [] [(4, (eI x1))] ?_
  refine aT aD 2 [] [(8, (aE (!decide (x1 = (0 : Int)))))] ?_
  refine bF h0 (fun h0 => ?_) (fun h0 => ?_)
  · refine bT aD 3 [(2, (.sl true 0 (fun _ => .bad))), (3, (eI x1))] ?_
    refine bI ?_
    refine dA (l := [(2, (eL (eI) ([]))), (3, (eI x1))]) ⟨[(2, (.sl true 0 (fun _ => .bad))), (3, (eI x1))], by kernel_rfl, rfl, ⟨kY, aN.refl _, trivial⟩⟩ ?_
    obtain rfl := oI h0
    exact aG (aQ (Q_r hO))
  refine bG ?_
  refine bE [(0, (eL aH l0))] ?_
  refine aP ?_
  refine aW aD 4 ?_
  refine bV 1 ?_
  obtain ⟨x5, hx6, h0⟩ := aZ h0
  refine dL (wD l0 _ hx6) hO ?_
  intro H hO
  refine bD ?_
  refine bE [(2, (eL (eI) x5)), (3, (eI (0 : Int)))] ?_
  refine bI ?_
  obtain rfl := oI h0
  exact aG (Q_r hO)

theorem xR (x0 : Int) (r : Bool) (h0 : nD x0 = some r) : dH Try.prog 71 [(eI x0)] (aE r) := by
  intro H0
  refine dF Try.func71 ?_
  have hO := aL.start H0
  unfold nD at h0
  refine aT aD 1 [] [] ?_
  refine bT aD 4 [(2, (aE (!decide (x0 = x0))))] ?_
  refine bI ?_
  obtain rfl := oI h0
  exact aG (Q_r hO)

theorem pY (x0 : (List Int)) (fI : Int) (r : (Int × Bool)) (h0 : fA x0 fI = some r) : dH Try.prog 49 [(eL (eI) x0), (eI fI)] (.tup [(eI r.1), (aE r.2)]) := by
  intro H0
  refine dF Try.func49 ?_
  have hO := aL.start H0
  unfold fA at h0
  refine aT aD 2 [] [] ?_
  refine aT aD 3 [] [(6, (eI (lN x0)))] ?_
  refine aT aD 3 [] [(7, (eI (0 : Int))), (8, (eI (lN x0)))] ?_
  refine dU (fun T H => ∃ n6 : Int, ∃ i7 : Int, Has T [(0, (eL (eI) x0)), (1, (eI fI)), (6, (eI n6)), (7, (eI i7))] ∧ aL ⟨H0, [], []⟩ H [] ∧ iG x0 fI n6 i7 = some r) ?_ ?_
  · clear hO h0
    rintro T H ⟨n6, i7, hT, hO, h0⟩
    refine bC hT ?_
    clear hT
    unfold iG at h0
    refine aP ?_
    refine aW aD 25 ?_
    obtain ⟨c1, h0⟩ := aR h0
    obtain ⟨c2, h0⟩ := aR h0
    refine nR 16 [(((decide (i7 < n6))) = true → 0 ≤ i7 ∧ i7 < (lN x0)), (((!(decide ((gD x0 i7) = fI))) && (decide (i7 < n6))) = true → 0 ≤ i7 ∧ i7 < (lN x0))] ⟨c1, c2, trivial⟩ ?_
    obtain ⟨x3, hx4, h0⟩ := aZ h0
    refine nK [(42, false), (35, true)] 71 [(eI (gD x0 i7))] (aE x3) ((!(decide ((gD x0 i7) = fI))) && (decide (i7 < n6))) (by kernel_rfl) (by kernel_rfl) (by kernel_rfl) (fun hb5 => (xR (gD x0 i7) _ (iV hx4 hb5))) hO ?_
    intro H hO
    refine bV 19 ?_
    obtain ⟨x6, hx7, h0⟩ := aZ h0
    refine nK [(48, true), (42, false), (35, true)] 71 [(eI fI)] (aE x6) (x3 && ((!(decide ((gD x0 i7) = fI))) && (decide (i7 < n6)))) (by kernel_rfl) (by kernel_rfl) (by kernel_rfl) (fun hb8 => (xR fI _ (iV hx7 hb8))) hO ?_
    intro H hO
    refine bD ?_
    refine bE [(4, (eI i7)), (5, (aE ((decide (i7 < n6)) && ((decide ((gD x0 i7) = fI)) || (x3 && x6)))))] ?_
    refine bI ?_
    obtain rfl := oI h0
    exact aG (Q_r hO)
  refine bZ 0 ?_
  refine eZ [(0, (eL (eI) x0)), (1, (eI fI)), (6, (eI (lN x0))), (7, (eI (0 : Int))), (8, (eI (lN x0)))] ?_
  refine dO (fun T H => ∃ n6 : Int, ∃ i7 : Int, ∃ j8 : Int, Has T [(0, (eL (eI) x0)), (1, (eI fI)), (6, (eI n6)), (7, (eI i7)), (8, (eI j8))] ∧ aL ⟨H0, [], []⟩ H [] ∧ kF x0 fI n6 i7 j8 = some r) ?_ ⟨(lN x0), (0 : Int), (lN x0), .eq (by kernel_rfl), hO, h0⟩
  clear hO h0
  rintro T H ⟨n6, i7, j8, hT, hO, h0⟩
  refine bC hT ?_
  clear hT
  unfold kF at h0
  obtain ⟨rr0, hl0, h0⟩ := aZ h0
  refine cP (by kernel_rfl) (fun (s : Int × Int) T H => Has T [(0, (eL (eI) x0)), (1, (eI fI)), (6, (eI n6)), (7, (eI s.1)), (8, (eI s.2))] ∧ aL ⟨H0, [], []⟩ H []) hl0 ⟨.eq (by kernel_rfl), hO⟩ ?_
  clear hO
  rintro k0 s out1 T H ⟨hT, hO⟩ h1 ho0
  obtain ⟨i7, j8⟩ := s
  replace h1 : eR x0 fI n6 i7 j8 = some out1 := h1
  try dsimp only at hT
  refine bC hT ?_
  clear hT
  unfold eR at h1
  refine aP ?_
  refine aT aD 3 [] [(15, (aE (decide (i7 < j8))))] ?_
  refine bF h1 (fun h1 => ?_) (fun h1 => ?_)
  · refine bG ?_
    refine bE [(0, (eL (eI) x0)), (1, (eI fI)), (6, (eI n6)), (7, (eI i7)), (8, (eI j8))] ?_
    refine bZ 1 ?_
    refine aP ?_
    refine aW aD 7 ?_
    obtain ⟨c10, h1⟩ := aR h1
    refine mH [0 ≤ (1 : Int)] ⟨c10, trivial⟩ ?_
    refine bU [] [(9, (eI (wR (Int.fdiv (IntKind.u64.wrap (wR (i7 + j8))) (2 ^ (min (Int.toNat (1 : Int)) 64))))))] ?_
    refine aP ?_
    refine aW aD 6 ?_
    obtain ⟨c11, h1⟩ := aR h1
    refine nR 5 [0 ≤ (wR (Int.fdiv (IntKind.u64.wrap (wR (i7 + j8))) (2 ^ (min (Int.toNat (1 : Int)) 64)))) ∧ (wR (Int.fdiv (IntKind.u64.wrap (wR (i7 + j8))) (2 ^ (min (Int.toNat (1 : Int)) 64)))) < (lN x0)] ⟨c11, trivial⟩ ?_
    obtain ⟨x12, hx13, h1⟩ := aZ h1
    refine dL (fF (gD x0 (wR (Int.fdiv (IntKind.u64.wrap (wR (i7 + j8))) (2 ^ (min (Int.toNat (1 : Int)) 64))))) fI _ hx13) hO ?_
    intro H hO
    refine hY ?_
    refine bU [] [(27, (aE x12))] ?_
    refine bF h1 (fun h1 => ?_) (fun h1 => ?_)
    · refine aW aD 3 ?_
      refine bD ?_
      exact aG (aY (aF (⟨rfl, _, (oI h1).symm, .eq (by kernel_rfl), hO⟩)))
    refine aW aD 2 ?_
    refine bD ?_
    exact aG (aY (aF (⟨rfl, _, (oI h1).symm, .eq (by kernel_rfl), hO⟩)))
  refine eP 0 ?_
  obtain rfl := oI h1
  obtain rfl : _ = rr0 := ho0
  replace h0 : iG x0 fI n6 i7 = some r := h0
  exact aG (aS (aS (bP (aF (⟨rfl, _, _, .eq (by kernel_rfl), hO, h0⟩)))))

theorem LM (l0 : (List aI)) (n1 : Int) (t2 : Int) (r : (Int × Int)) (h0 : rU l0 n1 t2 = some r) : dH Try.prog 23 [(eL aH l0), (eI n1), (eI t2)] (.tup [(eI r.1), (eI r.2)]) := by
  intro H0
  refine dF Try.func23 ?_
  have hO := aL.start H0
  unfold rU at h0
  refine aT aD 2 [] [] ?_
  refine aP ?_
  refine aP ?_
  refine aW aD 4 ?_
  refine bV 2 ?_
  obtain ⟨x1, hx2, h0⟩ := aZ h0
  refine dL (zJ l0 n1 _ hx2) hO ?_
  intro H hO
  refine bD ?_
  refine bU [] [(8, (eI x1))] ?_
  refine aT aD 2 [] [(17, (aE (!decide (x1 = (0 : Int)))))] ?_
  refine bF h0 (fun h0 => ?_) (fun h0 => ?_)
  · refine bT aD 3 [(6, (eI (0 : Int))), (7, (eI x1))] ?_
    refine bI ?_
    obtain rfl := oI h0
    exact aG (aQ (Q_r hO))
  refine bG ?_
  refine bE [(0, (eL aH l0)), (1, (eI n1)), (2, (eI t2))] ?_
  refine aP ?_
  refine bZ 0 ?_
  refine aT aD 7 [] [(19, (aE ((decide (t2 < (0 : Int))) || (decide ((1125899906842624 : Int) < t2)))))] ?_
  refine bF h0 (fun h0 => ?_) (fun h0 => ?_)
  · refine bT aD 2 [(6, (eI (0 : Int))), (7, (eI (13 : Int)))] ?_
    refine bI ?_
    obtain rfl := oI h0
    exact aG (bK (aQ (Q_r hO)))
  refine aT aD 3 [19] [(26, (aE (decide (t2 = (1125899906842624 : Int)))))] ?_
  refine bF h0 (fun h0 => ?_) (fun h0 => ?_)
  · refine bT aD 3 [(6, (eI t2)), (7, (eI (0 : Int)))] ?_
    refine bI ?_
    obtain rfl := oI h0
    exact aG (bK (aQ (Q_r hO)))
  refine bG ?_
  refine fZ [(0, (eL aH l0)), (1, (eI n1)), (2, (eI t2))] ?_
  refine aG (aY (aF (?_)))
  refine aP ?_
  refine aW aD 3 ?_
  refine bV 1 ?_
  obtain ⟨x7, hx8, h0⟩ := aZ h0
  refine dL (wD l0 _ hx8) hO ?_
  intro H hO
  refine bD ?_
  refine bU [0] [(9, (eL (eI) x7))] ?_
  refine aP ?_
  refine aW aD 8 ?_
  refine bV 2 ?_
  obtain ⟨x10, hx11, h0⟩ := aZ h0
  refine dL (pY x7 t2 _ hx11) hO ?_
  intro H hO
  refine bD ?_
  refine bU [] [(10, (eI x10.1))] ?_
  refine aT aD 6 [1] [(12, (eI (if (wR ((wR (x10.1 - n1)) + (1 : Int))) > (0 : Int) then (wR ((wR (x10.1 - n1)) + (1 : Int))) else (0 : Int))))] ?_
  refine aP ?_
  refine aT aD 3 [10] [(45, (aE (decide ((if (wR ((wR (x10.1 - n1)) + (1 : Int))) > (0 : Int) then (wR ((wR (x10.1 - n1)) + (1 : Int))) else (0 : Int)) = x10.1))))] ?_
  refine bF h0 (fun h0 => ?_) (fun h0 => ?_)
  · refine bT aD 3 [(6, (eI t2)), (7, (eI (0 : Int)))] ?_
    refine bI ?_
    obtain rfl := oI h0
    exact aG (aQ (Q_r hO))
  refine bG ?_
  refine bE [(9, (eL (eI) x7)), (12, (eI (if (wR ((wR (x10.1 - n1)) + (1 : Int))) > (0 : Int) then (wR ((wR (x10.1 - n1)) + (1 : Int))) else (0 : Int))))] ?_
  refine aP ?_
  refine aW aD 6 ?_
  obtain ⟨c14, h0⟩ := aR h0
  refine mH [0 ≤ (if (wR ((wR (x10.1 - n1)) + (1 : Int))) > (0 : Int) then (wR ((wR (x10.1 - n1)) + (1 : Int))) else (0 : Int)) ∧ (if (wR ((wR (x10.1 - n1)) + (1 : Int))) > (0 : Int) then (wR ((wR (x10.1 - n1)) + (1 : Int))) else (0 : Int)) < (lN x7)] ⟨c14, trivial⟩ ?_
  refine bE [(6, (eI (gD x7 (if (wR ((wR (x10.1 - n1)) + (1 : Int))) > (0 : Int) then (wR ((wR (x10.1 - n1)) + (1 : Int))) else (0 : Int))))), (7, (eI (0 : Int)))] ?_
  refine bI ?_
  obtain rfl := oI h0
  exact aG (Q_r hO)

theorem vK (s0 : (List aB)) (r : (List aB)) (h0 : gT s0 = some r) : xH Try.prog 41 [(eL aC s0)] (fun lo => (.msl 3 lo 0 (List.length r))) 3 (List.map aC r) := by
  intro H0
  refine dF Try.func41 ?_
  have hO := aL.start H0
  unfold gT at h0
  refine aT aD 1 [] [] ?_
  refine aP ?_
  refine aP ?_
  refine aW aD 2 ?_
  refine bV 1 ?_
  refine aBe false (List.length s0) (fun i => aC (List.getD s0 i default)) (by kernel_rfl) (by kernel_rfl) ?_
  intro b1 hn2
  refine hY ?_
  refine bU [] [(4, (aE b1))] ?_
  refine nN (b1) (fun hc3 => ?_) (fun hc3 => ?_)
  · replace h0 : some ([] : List aB) = some r := by
      have hl := List.eq_nil_of_length_eq_zero (hn2 hc3)
      rw [hl] at h0
      exact (aR h0).2
    refine bT aD 1 [(2, (.sl true 0 (fun _ => .bad)))] ?_
    refine bI ?_
    refine fZ [(2, (.sl true 0 (fun _ => .bad)))] ?_
    refine aAV (el := (fun _ => .bad)) 0 2 3 hO (by kernel_rfl) ?_
    intro lo4 H5 hO
    obtain rfl := oI h0
    exact aG (aQ (lE (x := (.msl 3 lo4 0 (List.length ([] : List aB)))) (by kernel_rfl) (aN.refl _) ⟨lo4, rfl, hO⟩))
  · refine bG ?_
    refine bE [(0, (eL aC s0))] ?_
    refine aP ?_
    refine aW aD 4 ?_
    refine nA (xs := []) (k := 3) (by kernel_rfl) (by kernel_rfl) ?_
    refine bV 2 ?_
    obtain ⟨c7, h0⟩ := aR h0
    refine RR (e := aC) s0 (fun _ => .bad) 3 32 (eL aC s0) (fun lo6 => [(lo6, 3, List.map aC s0)]) (by kernel_rfl) (by kernel_rfl) hO (RM (fun _ => by kernel_rfl)) c7 (fun _ => by kernel_rfl) ?_
    intro lo6 H hO
    refine bD ?_
    refine bE [(2, (.msl 3 lo6 0 (List.length s0)))] ?_
    refine bI ?_
    obtain rfl := oI h0
    exact aG (lE (x := (.msl 3 lo6 0 (List.length s0))) (by kernel_rfl) (aN.refl _) ⟨lo6, rfl, hO⟩)

theorem IZ (l0 : (List aI)) (run1 : (List Int)) (r : aO) (h0 : pL l0 run1 = some r) : dH Try.prog 50 [(eL aH l0), (eL (eI) run1)] (aV r) := by
  intro H0
  refine KA aD Try.func50 (by kernel_rfl) (by kernel_rfl) (by kernel_rfl) ?_
  have hO := aL.start H0
  unfold pL at h0
  refine aP ?_
  refine aW aD 1 ?_
  refine vI 3 (.agg [(eI 0), (eI 0), (.sl true 0 (fun _ => .bad))]) (aV (aO.mk (cE.mk 0 0) ([]))) (by kernel_rfl) (by kernel_rfl) (by kernel_rfl) (yZ (xs := [(eI 0), (eI 0), (.sl true 0 (fun _ => .bad))]) (ys := [(eI 0), (eI 0), (eL bB ([]))]) ⟨aN.refl _, aN.refl _, kY, trivial⟩) (by kernel_rfl) (by kernel_rfl) hO ?_
  intro lo1 H hO
  refine hY ?_
  refine bU [] [(4, (.lp lo1 0 0))] ?_
  refine aP ?_
  refine eC (eE [10, 16, 5]) aD 14 ?_
  obtain ⟨c2, h0⟩ := aR h0
  obtain ⟨c3, h0⟩ := aR h0
  refine cB 12 [0 ≤ (0 : Int) ∧ (0 : Int) < (lN run1), 0 ≤ (wR ((lN run1) - (1 : Int))) ∧ (wR ((lN run1) - (1 : Int))) < (lN run1)] ⟨c2, c3, trivial⟩ ?_
  refine NY 3 (.agg [(eI 0), (eI 0), (.sl true 0 (fun _ => .bad))]) (aV (aO.mk (cE.mk 0 0) ([]))) (yZ (xs := [(eI 0), (eI 0), (.sl true 0 (fun _ => .bad))]) (ys := [(eI 0), (eI 0), (eL bB ([]))]) ⟨aN.refl _, aN.refl _, kY, trivial⟩) hO ?_
  intro lo4 H hO
  refine jN 1 lo4 3 0 (aV (aO.mk (cE.mk 0 0) ([]))) (.agg [(eI ((cE.mk (gD run1 (0 : Int)) (wR ((gD run1 (wR ((lN run1) - (1 : Int)))) + (1 : Int)))).From)), (eI ((cE.mk (gD run1 (0 : Int)) (wR ((gD run1 (wR ((lN run1) - (1 : Int)))) + (1 : Int)))).To)), (.sl true 0 (fun _ => .bad))]) [(aV (aO.mk (cE.mk 0 0) ([])))] [(lo1, 3, [(aV (aO.mk (cE.mk 0 0) ([])))]), (lo4, 3, [(.agg [(eI ((cE.mk (gD run1 (0 : Int)) (wR ((gD run1 (wR ((lN run1) - (1 : Int)))) + (1 : Int)))).From)), (eI ((cE.mk (gD run1 (0 : Int)) (wR ((gD run1 (wR ((lN run1) - (1 : Int)))) + (1 : Int)))).To)), (.sl true 0 (fun _ => .bad))])])] hO rfl (by kernel_rfl) ?_
  intro H hO
  refine lZ (by kernel_rfl) ?_
  refine UM 1 3 lo4 2 2 [(eI ((cE.mk (gD run1 (0 : Int)) (wR ((gD run1 (wR ((lN run1) - (1 : Int)))) + (1 : Int)))).From)), (eI ((cE.mk (gD run1 (0 : Int)) (wR ((gD run1 (wR ((lN run1) - (1 : Int)))) + (1 : Int)))).To)), (.sl true 0 (fun _ => .bad))] (fun _ => .bad) (fun lo5 => [(lo1, 3, [(aV (aO.mk (cE.mk 0 0) ([])))]), (lo4, 3, [(.agg [(eI ((aO.mk (cE.mk (gD run1 (0 : Int)) (wR ((gD run1 (wR ((lN run1) - (1 : Int)))) + (1 : Int)))) ([])).Span.From)), (eI ((aO.mk (cE.mk (gD run1 (0 : Int)) (wR ((gD run1 (wR ((lN run1) - (1 : Int)))) + (1 : Int)))) ([])).Span.To)), (.msl 2 lo5 0 (List.length ([] : List bH)))])]), (lo5, 2, List.map bB ([] : List bH))]) hO (by kernel_rfl) (by kernel_rfl) (fun _ => by kernel_rfl) ?_
  intro lo5 H hO
  refine bE [(0, (eL aH l0)), (4, (.lp lo1 0 0)), (5, (.lp lo4 0 0))] ?_
  refine aP ?_
  refine aP ?_
  refine aW aD 2 ?_
  refine bV 1 ?_
  obtain ⟨x6, hx7, h0⟩ := aZ h0
  refine dL (BH l0 _ hx7) hO ?_
  intro H hO
  refine hY ?_
  refine bU [0] [(21, (.fn (.func 94) [] [(.rp (eL aH x6))]))] ?_
  refine bZ 0 ?_
  refine eZ [(4, (.lp lo1 0 0)), (5, (.lp lo4 0 0)), (21, (.fn (.func 94) [] [(.rp (eL aH x6))]))] ?_
  refine dO (fun T H => ∃ t4 : aO, ∃ p5 : aO, ∃ tQ : (List aI), ∃ lo8 : Nat, Has T [(4, (.lp lo1 0 0)), (5, (.lp lo4 0 0)), (21, (.fn (.func 94) [] [(.rp (eL aH tQ))]))] ∧ aL ⟨H0, [], []⟩ H [(lo1, 3, [(aV t4)]), (lo4, 3, [(.agg [(eI p5.Span.From), (eI p5.Span.To), (.msl 2 lo8 0 (List.length p5.Rows))])]), (lo8, 2, List.map bB p5.Rows)] ∧ rB t4 p5 tQ = some r) ?_ ⟨(aO.mk (cE.mk 0 0) ([])), aO.mk (cE.mk (gD run1 (0 : Int)) (wR ((gD run1 (wR ((lN run1) - (1 : Int)))) + (1 : Int)))) ([]), x6, lo5, .eq (by kernel_rfl), hO, h0⟩
  clear hO h0
  rintro T H ⟨t4, p5, tQ, lo8, hT, hO, h0⟩
  refine bC (l := [(4, (.lp lo1 0 0)), (5, (.lp lo4 0 0)), (21, (.fn (.func 94) [] [(.rp (eL aH tQ))]))]) hT ?_
  clear hT
  unfold rB at h0
  obtain ⟨o0, hl0, h0⟩ := aZ h0
  refine FZ (fid := 94) (ys := []) (cs := [(.rp (eL aH tQ))]) #[22] (fun (A : AG) (b lL : Nat) (st : (aO × aO) ⊕ (aO × aO)) (G' : Gs) => Sum.elim (fun (s : aO × aO) => ∃ lo8 : Nat, G' = (lL, .raw (mD b A .ready none)) :: (up [(lo1, 3, [(aV s.1)]), (lo4, 3, [(.agg [(eI s.2.Span.From), (eI s.2.Span.To), (.msl 2 lo8 0 (List.length s.2.Rows))])]), (lo8, 2, List.map bB s.2.Rows)] ++ [])) (fun (s : aO × aO) => False) st) (.inl (t4, p5)) o0 (.tup []) (by kernel_rfl) (by kernel_rfl) (by kernel_rfl) hO (fun _ _ => ⟨lo8, rfl⟩) ?_ ?_
  · intro b lL
    clear hO h0
    refine xM _ b (fun st t22 => rnd (fun (s : aO × aO) => mW tQ s.1 s.2 t22) st) ?_ tQ _ _ hl0
    intro st t22 out1 rr hr
    obtain ⟨s, rfl, h1, rfl⟩ := WX hr
    clear hr
    intro Hr Gr hi hg
    obtain ⟨t4, p5⟩ := s
    dsimp only [Sum.elim_inl] at hi
    obtain ⟨lo8, rfl⟩ := hi
    replace h1 : mW tQ t4 p5 t22 = some out1 := h1
    unfold mW at h1
    obtain ⟨E1, hE, hO⟩ := AH hg
    refine AK (GX (hO.gm 0 _ rfl).2 (by kernel_rfl) (by kernel_rfl) ?_)
    refine eZ [(4, (.lp lo1 0 0)), (5, (.lp lo4 0 0)), (21, (.fn (.func 94) [] [(.rp (eL aH tQ))])), (22, (aH t22))] ?_
    refine aW aD 2 ?_
    refine vI 3 (.agg [(.sl true 0 (fun _ => .bad)), (eI 0), (eI 0)]) (aH (aI.mk ([]) 0 0)) (by kernel_rfl) (by kernel_rfl) (by kernel_rfl) (yZ (xs := [(.sl true 0 (fun _ => .bad)), (eI 0), (eI 0)]) (ys := [(eL aC ([])), (eI 0), (eI 0)]) ⟨kY, aN.refl _, aN.refl _, trivial⟩) (by kernel_rfl) (by kernel_rfl) hO ?_
    intro lo9 H hO
    refine pT 3 lo9 3 0 (aH (aI.mk ([]) 0 0)) (aH t22) [(aH (aI.mk ([]) 0 0))] [(lo1, 3, [(aV t4)]), (lo4, 3, [(.agg [(eI p5.Span.From), (eI p5.Span.To), (.msl 2 lo8 0 (List.length p5.Rows))])]), (lo8, 2, List.map bB p5.Rows), (lo9, 3, [(aH t22)])] hO rfl (by kernel_rfl) ?_
    intro H hO
    refine hY ?_
    refine fZ [(4, (.lp lo1 0 0)), (5, (.lp lo4 0 0)), (6, (.lp lo9 0 0))] ?_
    refine aG (⟨rfl, rfl, (hO.gm 0 _ rfl).2, ?_⟩)
    intro o1 ho1
    replace hO := hO.BT o1
    refine bZ 1 ?_
    refine aP ?_
    refine aP ?_
    refine aW aD 14 ?_
    refine bV 1 ?_
    refine pQ 3 lo9 3 0 (aH t22) (eI t22.At) [(aH t22)] hO rfl ?_
    refine bV 4 ?_
    refine pQ 1 lo4 3 0 (.agg [(eI p5.Span.From), (eI p5.Span.To), (.msl 2 lo8 0 (List.length p5.Rows))]) (eI p5.Span.From) [(.agg [(eI p5.Span.From), (eI p5.Span.To), (.msl 2 lo8 0 (List.length p5.Rows))])] hO rfl ?_
    refine bV 8 ?_
    refine sG [(29, false)] 3 lo9 3 0 (aH t22) (eI t22.At) [(aH t22)] (by kernel_rfl) (by kernel_rfl) hO (by kernel_rfl) (!(decide (t22.At < p5.Span.From))) (by kernel_rfl) (fun hb10 => rfl) ?_
    refine bV 11 ?_
    refine sG [(29, false)] 1 lo4 3 0 (.agg [(eI p5.Span.From), (eI p5.Span.To), (.msl 2 lo8 0 (List.length p5.Rows))]) (eI p5.Span.To) [(.agg [(eI p5.Span.From), (eI p5.Span.To), (.msl 2 lo8 0 (List.length p5.Rows))])] (by kernel_rfl) (by kernel_rfl) hO (by kernel_rfl) (!(decide (t22.At < p5.Span.From))) (by kernel_rfl) (fun _ => rfl) ?_
    refine bD ?_
    refine bU [] [(36, (aE ((decide (t22.At < p5.Span.From)) || (decide (p5.Span.To ≤ t22.At)))))] ?_
    refine bF h1 (fun h1 => ?_) (fun h1 => ?_)
    · refine eP 1 ?_
      refine fZ [(4, (.lp lo1 0 0)), (5, (.lp lo4 0 0))] ?_
      replace hO := hO.pick (L' := [(lo1, 3, [(aV t4)]), (lo4, 3, [(.agg [(eI p5.Span.From), (eI p5.Span.To), (.msl 2 lo8 0 (List.length p5.Rows))])]), (lo8, 2, List.map bB p5.Rows)]) [0, 1, 2] (by decide) (by kernel_rfl)
      obtain rfl := oI h1
      exact aG (aS (bP (⟨(mO hO hE ho1 .dead).1, rfl, _, ⟨lo8, rfl⟩, (mO hO hE ho1 _).2⟩)))
    refine bG ?_
    refine bE [(4, (.lp lo1 0 0)), (5, (.lp lo4 0 0)), (6, (.lp lo9 0 0))] ?_
    refine aP ?_
    refine aW aD 5 ?_
    refine bV 1 ?_
    refine pQ 1 lo4 3 0 (.agg [(eI p5.Span.From), (eI p5.Span.To), (.msl 2 lo8 0 (List.length p5.Rows))]) (.msl 2 lo8 0 (List.length p5.Rows)) [(.agg [(eI p5.Span.From), (eI p5.Span.To), (.msl 2 lo8 0 (List.length p5.Rows))])] hO rfl ?_
    refine bD ?_
    refine bU [] [(7, (eI (wR ((lN p5.Rows) - (1 : Int)))))] ?_
    refine aP ?_
    refine aP ?_
    obtain ⟨c12, h1⟩ := aR h1
    obtain ⟨x13, hx14, h1⟩ := aZ h1
    refine eC (eE []) aD 13 ?_
    refine lR (K := fun T H => Has (lift T) [(4, (.lp lo1 0 0)), (5, (.lp lo4 0 0)), (6, (.lp lo9 0 0)), (7, (eI (wR ((lN p5.Rows) - (1 : Int))))), (53, (aE ((decide ((0 : Int) ≤ (wR ((lN p5.Rows) - (1 : Int))))) && x13)))] ∧ aL ⟨Hr, E1, (lL, o1) :: []⟩ H [(lo1, 3, [(aV t4)]), (lo4, 3, [(.agg [(eI p5.Span.From), (eI p5.Span.To), (.msl 2 lo8 0 (List.length p5.Rows))])]), (lo8, 2, List.map bB p5.Rows), (lo9, 3, [(aH t22)])]) ?_ ?_
    · refine kR 3 ?_
      refine jR (t := 43) (e := decide ((0 : Int) ≤ (wR ((lN p5.Rows) - (1 : Int))))) (by kernel_rfl) (fun hg15 => ?_) (fun hg15 => ?_)
      · refine kR 4 ?_
        refine iB 1 lo4 3 0 (.agg [(eI p5.Span.From), (eI p5.Span.To), (.msl 2 lo8 0 (List.length p5.Rows))]) (.msl 2 lo8 0 (List.length p5.Rows)) [(.agg [(eI p5.Span.From), (eI p5.Span.To), (.msl 2 lo8 0 (List.length p5.Rows))])] (by kernel_rfl) (by kernel_rfl) (by kernel_rfl) hO (by kernel_rfl) rfl ?_
        refine cB 8 [0 ≤ (wR ((lN p5.Rows) - (1 : Int))) ∧ (wR ((lN p5.Rows) - (1 : Int))) < (lN p5.Rows)] ⟨(c12 hg15), trivial⟩ ?_
        refine iB 2 lo8 2 (0 + Int.toNat (wR ((lN p5.Rows) - (1 : Int)))) (bB (gD p5.Rows (wR ((lN p5.Rows) - (1 : Int))))) (eL aC ((gD p5.Rows (wR ((lN p5.Rows) - (1 : Int)))).Row)) (List.map bB p5.Rows) (by kernel_rfl) (by kernel_rfl) (by kernel_rfl) hO (by kernel_rfl) (bY (c12 hg15)) ?_
        refine kR 10 ?_
        refine iB 3 lo9 3 0 (aH t22) (eL aC t22.Row) [(aH t22)] (by kernel_rfl) (by kernel_rfl) (by kernel_rfl) hO (by kernel_rfl) rfl ?_
        refine lS 72 [(eL aC ((gD p5.Rows (wR ((lN p5.Rows) - (1 : Int)))).Row)), (eL aC t22.Row)] (aE x13) (by kernel_rfl) (by kernel_rfl) (oJ ((gD p5.Rows (wR ((lN p5.Rows) - (1 : Int)))).Row) t22.Row _ (iV hx14 hg15)) hO ?_
        intro H hO
        refine gG ?_
        exact ⟨⟨[(4, (.lp lo1 0 0)), (5, (.lp lo4 0 0)), (6, (.lp lo9 0 0)), (7, (eI (wR ((lN p5.Rows) - (1 : Int))))), (53, (aE x13))], by kernel_rfl, rfl, ⟨aN.refl _, aN.refl _, aN.refl _, aN.refl _, aN.eq (congrArg aE (fV hg15 rfl).symm), trivial⟩⟩, hO⟩
      refine gG ?_
      exact ⟨⟨[(4, (.lp lo1 0 0)), (5, (.lp lo4 0 0)), (6, (.lp lo9 0 0)), (7, (eI (wR ((lN p5.Rows) - (1 : Int))))), (53, (aE false))], by kernel_rfl, rfl, ⟨aN.refl _, aN.refl _, aN.refl _, aN.refl _, aN.eq (congrArg aE (fV hg15 rfl).symm), trivial⟩⟩, hO⟩
    · rintro T H ⟨hT, hO⟩
      refine dA hT ?_
      clear hT
      refine aG (aF ?_)
      refine bF h1 (fun h1 => ?_) (fun h1 => ?_)
      · refine aP ?_
        refine eC (eE []) aD 12 ?_
        refine kR 1 ?_
        refine fL 1 lo4 3 0 (.agg [(eI p5.Span.From), (eI p5.Span.To), (.msl 2 lo8 0 (List.length p5.Rows))]) (.msl 2 lo8 0 (List.length p5.Rows)) [(.agg [(eI p5.Span.From), (eI p5.Span.To), (.msl 2 lo8 0 (List.length p5.Rows))])] hO rfl ?_
        obtain ⟨c17, h1⟩ := aR h1
        refine cB 5 [0 ≤ (wR ((lN p5.Rows) - (1 : Int))) ∧ (wR ((lN p5.Rows) - (1 : Int))) < (lN p5.Rows)] ⟨c17, trivial⟩ ?_
        refine fL 2 lo8 2 (0 + Int.toNat (wR ((lN p5.Rows) - (1 : Int)))) (bB (gD p5.Rows (wR ((lN p5.Rows) - (1 : Int))))) (eI ((gD p5.Rows (wR ((lN p5.Rows) - (1 : Int)))).N)) (List.map bB p5.Rows) hO (bY c17) ?_
        refine kR 7 ?_
        refine fL 3 lo9 3 0 (aH t22) (eI t22.Net) [(aH t22)] hO rfl ?_
        obtain ⟨c18, h1⟩ := aR h1
        refine cB 11 [0 ≤ (wR ((lN p5.Rows) - (1 : Int))) ∧ (wR ((lN p5.Rows) - (1 : Int))) < (lN p5.Rows)] ⟨c18, trivial⟩ ?_
        refine jN 2 lo8 2 (0 + Int.toNat (wR ((lN p5.Rows) - (1 : Int)))) (bB (gD p5.Rows (wR ((lN p5.Rows) - (1 : Int))))) (bB (bH.mk (gD p5.Rows (wR ((lN p5.Rows) - (1 : Int)))).Row (wR (((gD p5.Rows (wR ((lN p5.Rows) - (1 : Int)))).N) + t22.Net)))) (List.map bB p5.Rows) [(lo1, 3, [(aV t4)]), (lo4, 3, [(.agg [(eI p5.Span.From), (eI p5.Span.To), (.msl 2 lo8 0 (List.length p5.Rows))])]), (lo8, 2, List.map bB (List.set p5.Rows (Int.toNat (wR ((lN p5.Rows) - (1 : Int)))) (bH.mk (gD p5.Rows (wR ((lN p5.Rows) - (1 : Int)))).Row (wR (((gD p5.Rows (wR ((lN p5.Rows) - (1 : Int)))).N) + t22.Net))))), (lo9, 3, [(aH t22)])] hO (bY c18) (by simp only [List.set, gK]) ?_
        intro H hO
        refine lZ (by kernel_rfl) ?_
        replace hO : aL ⟨Hr, E1, (lL, o1) :: []⟩ H [(lo1, 3, [(aV t4)]), (lo4, 3, [(.agg [(eI ((aO.mk p5.Span (List.set p5.Rows (Int.toNat (wR ((lN p5.Rows) - (1 : Int)))) (bH.mk (gD p5.Rows (wR ((lN p5.Rows) - (1 : Int)))).Row (wR (((gD p5.Rows (wR ((lN p5.Rows) - (1 : Int)))).N) + t22.Net))))).Span.From)), (eI ((aO.mk p5.Span (List.set p5.Rows (Int.toNat (wR ((lN p5.Rows) - (1 : Int)))) (bH.mk (gD p5.Rows (wR ((lN p5.Rows) - (1 : Int)))).Row (wR (((gD p5.Rows (wR ((lN p5.Rows) - (1 : Int)))).N) + t22.Net))))).Span.To)), (.msl 2 lo8 0 (List.length (List.set p5.Rows (Int.toNat (wR ((lN p5.Rows) - (1 : Int)))) (bH.mk (gD p5.Rows (wR ((lN p5.Rows) - (1 : Int)))).Row (wR (((gD p5.Rows (wR ((lN p5.Rows) - (1 : Int)))).N) + t22.Net))))))])]), (lo8, 2, List.map bB (List.set p5.Rows (Int.toNat (wR ((lN p5.Rows) - (1 : Int)))) (bH.mk (gD p5.Rows (wR ((lN p5.Rows) - (1 : Int)))).Row (wR (((gD p5.Rows (wR ((lN p5.Rows) - (1 : Int)))).N) + t22.Net))))), (lo9, 3, [(aH t22)])] := by simpa only [List.length_set] using hO
        replace hO := hO.pick (L' := [(lo1, 3, [(aV t4)]), (lo4, 3, [(.agg [(eI ((aO.mk p5.Span (List.set p5.Rows (Int.toNat (wR ((lN p5.Rows) - (1 : Int)))) (bH.mk (gD p5.Rows (wR ((lN p5.Rows) - (1 : Int)))).Row (wR (((gD p5.Rows (wR ((lN p5.Rows) - (1 : Int)))).N) + t22.Net))))).Span.From)), (eI ((aO.mk p5.Span (List.set p5.Rows (Int.toNat (wR ((lN p5.Rows) - (1 : Int)))) (bH.mk (gD p5.Rows (wR ((lN p5.Rows) - (1 : Int)))).Row (wR (((gD p5.Rows (wR ((lN p5.Rows) - (1 : Int)))).N) + t22.Net))))).Span.To)), (.msl 2 lo8 0 (List.length (List.set p5.Rows (Int.toNat (wR ((lN p5.Rows) - (1 : Int)))) (bH.mk (gD p5.Rows (wR ((lN p5.Rows) - (1 : Int)))).Row (wR (((gD p5.Rows (wR ((lN p5.Rows) - (1 : Int)))).N) + t22.Net))))))])]), (lo8, 2, List.map bB (List.set p5.Rows (Int.toNat (wR ((lN p5.Rows) - (1 : Int)))) (bH.mk (gD p5.Rows (wR ((lN p5.Rows) - (1 : Int)))).Row (wR (((gD p5.Rows (wR ((lN p5.Rows) - (1 : Int)))).N) + t22.Net)))))]) [0, 1, 2] (by decide) (by kernel_rfl)
        refine bU [6, 7, 53] [] ?_
        refine eP 1 ?_
        refine fZ [(4, (.lp lo1 0 0)), (5, (.lp lo4 0 0))] ?_
        obtain rfl := oI h1
        exact aG (aS (bP (⟨(mO hO hE ho1 .dead).1, rfl, _, ⟨lo8, rfl⟩, (mO hO hE ho1 _).2⟩)))
      refine bG ?_
      refine bE [(4, (.lp lo1 0 0)), (5, (.lp lo4 0 0)), (6, (.lp lo9 0 0))] ?_
      refine UL 2 3 6 3 lo9 (aH t22) [(lo1, 3, [(aV t4)]), (lo4, 3, [(.agg [(eI p5.Span.From), (eI p5.Span.To), (.msl 2 lo8 0 (List.length p5.Rows))])]), (lo8, 2, List.map bB p5.Rows)] hO (by kernel_rfl) (by kernel_rfl) (by kernel_rfl) ?_
      intro H hO
      refine eC (eE [68, 69, 71, 73]) aD 12 ?_
      refine kR 1 ?_
      refine fL 1 lo4 3 0 (.agg [(eI p5.Span.From), (eI p5.Span.To), (.msl 2 lo8 0 (List.length p5.Rows))]) (.msl 2 lo8 0 (List.length p5.Rows)) [(.agg [(eI p5.Span.From), (eI p5.Span.To), (.msl 2 lo8 0 (List.length p5.Rows))])] hO rfl ?_
      refine kR 4 ?_
      obtain ⟨x19, hx20, h1⟩ := aZ h1
      refine RT 41 [(eL aC t22.Row)] (eL aC x19) (by kernel_rfl) (by kernel_rfl) (xH.frozen (vK t22.Row _ hx20)) hO ?_
      intro H hO
      refine kR 8 ?_
      refine TU (xs := [(bB (bH.mk x19 t22.Net))]) (k := 2) (by kernel_rfl) (by kernel_rfl) ?_
      obtain ⟨c23, h1⟩ := aR h1
      refine JF (e := bB) p5.Rows ([bH.mk x19 t22.Net]) 2 lo8 2 32 (iO [(bB (bH.mk x19 t22.Net))]) (fun lo22 => [(lo1, 3, [(aV t4)]), (lo4, 3, [(.agg [(eI p5.Span.From), (eI p5.Span.To), (.msl 2 lo8 0 (List.length p5.Rows))])]), (lo22, 2, List.map bB (p5.Rows ++ ([bH.mk x19 t22.Net])))]) (by kernel_rfl) (by kernel_rfl) hO (by kernel_rfl) (by kernel_rfl) c23 (fun _ => by kernel_rfl) ?_
      intro lo22 H hO
      refine kR 11 ?_
      refine jN 1 lo4 3 0 (.agg [(eI p5.Span.From), (eI p5.Span.To), (.msl 2 lo8 0 (List.length p5.Rows))]) (.agg [(eI ((aO.mk p5.Span (p5.Rows ++ ([bH.mk x19 t22.Net]))).Span.From)), (eI ((aO.mk p5.Span (p5.Rows ++ ([bH.mk x19 t22.Net]))).Span.To)), (.msl 2 lo22 0 (List.length (p5.Rows ++ ([bH.mk x19 t22.Net]))))]) [(.agg [(eI p5.Span.From), (eI p5.Span.To), (.msl 2 lo8 0 (List.length p5.Rows))])] [(lo1, 3, [(aV t4)]), (lo4, 3, [(.agg [(eI ((aO.mk p5.Span (p5.Rows ++ ([bH.mk x19 t22.Net]))).Span.From)), (eI ((aO.mk p5.Span (p5.Rows ++ ([bH.mk x19 t22.Net]))).Span.To)), (.msl 2 lo22 0 (List.length (p5.Rows ++ ([bH.mk x19 t22.Net]))))])]), (lo22, 2, List.map bB (p5.Rows ++ ([bH.mk x19 t22.Net])))] hO rfl (by kernel_rfl) ?_
      intro H hO
      refine lZ (by kernel_rfl) ?_
      refine fZ [(4, (.lp lo1 0 0)), (5, (.lp lo4 0 0))] ?_
      obtain rfl := oI h1
      exact aG (aY (⟨(mO hO hE ho1 .dead).1, rfl, _, ⟨lo22, rfl⟩, (mO hO hE ho1 _).2⟩))
  · intro b lD24 lL H' G' hi hO
    rcases o0 with s | s
    · dsimp only [Sum.elim_inl] at hi
      obtain ⟨lo8, rfl⟩ := hi
      replace h0 : (some s.2) = some r := h0
      obtain ⟨hlL, hO⟩ := yO hO
      refine ⟨_, _, hlL, (by intro e; cases e), ?_⟩
      refine fZ [(4, (.lp lo1 0 0)), (5, (.lp lo4 0 0))] ?_
      refine aG (aY (aF (?_)))
      refine aP ?_
      refine FQ (e := bB) s.2.Rows 1 2 3 2 lo4 lo8 (List.length s.2.Rows) 2 [(eI s.2.Span.From), (eI s.2.Span.To), (.msl 2 lo8 0 (List.length s.2.Rows))] [(lo1, 3, [(aV s.1)]), (lo4, 3, [(aV s.2)])] hO (by kernel_rfl) (by kernel_rfl) (by kernel_rfl) (by kernel_rfl) (by kernel_rfl) (by kernel_rfl) ?_
      intro H hO
      refine aW aD 2 ?_
      refine pQ 1 lo4 3 0 (aV s.2) (aV s.2) [(aV s.2)] hO rfl ?_
      refine pT 0 lo1 3 0 (aV s.1) (aV s.2) [(aV s.1)] [(lo1, 3, [(aV s.2)]), (lo4, 3, [(aV s.2)])] hO rfl (by kernel_rfl) ?_
      intro H hO
      refine hY ?_
      refine fZ [(4, (.lp lo1 0 0))] ?_
      replace hO := hO.pick (L' := [(lo1, 3, [(aV s.2)])]) [0] (by decide) (by kernel_rfl)
      refine aG (aF (?_))
      refine bI ?_
      obtain rfl := oI h0
      have hD := (hO.gm 0 _ rfl).2
      replace hO := (hO.BT .dead).BZ
      exact aG (QM1 (.inr rfl) hD (rs := [.cell 4 38]) (xs := [(aV s.2)]) (x := (aV s.2)) (by kernel_rfl) (EY (lo := lo1) (k := 3) (y := (aV s.2)) (x := (aV s.2)) 0 hO (by kernel_rfl) (by kernel_rfl) (by kernel_rfl) (by kernel_rfl) DR) (by kernel_rfl) ⟨rfl, hO.out⟩)
    · exact hi.elim

theorem BE (l0 : (List aI)) (n1 : Int) (cD : Int) (r : ((List aO) × Int)) (h0 : nZ l0 n1 cD = some r) : dH Try.prog 25 [(eL aH l0), (eI n1), (eI cD)] (.tup [(eL aV r.1), (eI r.2)]) := by
  intro H0
  refine dF Try.func25 ?_
  have hO := aL.start H0
  unfold nZ at h0
  refine aT aD 2 [] [] ?_
  refine aP ?_
  refine aP ?_
  refine aW aD 4 ?_
  refine bV 2 ?_
  obtain ⟨x1, hx2, h0⟩ := aZ h0
  refine dL (zJ l0 n1 _ hx2) hO ?_
  intro H hO
  refine bD ?_
  refine bU [] [(8, (eI x1))] ?_
  refine aT aD 2 [] [(18, (aE (!decide (x1 = (0 : Int)))))] ?_
  refine bF h0 (fun h0 => ?_) (fun h0 => ?_)
  · refine bT aD 3 [(6, (.sl true 0 (fun _ => .bad))), (7, (eI x1))] ?_
    refine bI ?_
    refine dA (l := [(6, (eL aV ([]))), (7, (eI x1))]) ⟨[(6, (.sl true 0 (fun _ => .bad))), (7, (eI x1))], by kernel_rfl, rfl, ⟨kY, aN.refl _, trivial⟩⟩ ?_
    obtain rfl := oI h0
    exact aG (aQ (Q_r hO))
  refine bG ?_
  refine bE [(0, (eL aH l0)), (1, (eI n1)), (2, (eI cD))] ?_
  refine aP ?_
  refine aT aD 6 [] [(25, (aE ((decide (cD < (0 : Int))) || (decide ((1125899906842624 : Int) < cD)))))] ?_
  refine bF h0 (fun h0 => ?_) (fun h0 => ?_)
  · refine bT aD 2 [(6, (.sl true 0 (fun _ => .bad))), (7, (eI (13 : Int)))] ?_
    refine bI ?_
    refine dA (l := [(6, (eL aV ([]))), (7, (eI (13 : Int)))]) ⟨[(6, (.sl true 0 (fun _ => .bad))), (7, (eI (13 : Int)))], by kernel_rfl, rfl, ⟨kY, aN.refl _, trivial⟩⟩ ?_
    obtain rfl := oI h0
    exact aG (aQ (Q_r hO))
  refine bG ?_
  refine bE [(0, (eL aH l0)), (1, (eI n1)), (2, (eI cD))] ?_
  refine aP ?_
  refine aW aD 3 ?_
  refine bV 1 ?_
  obtain ⟨x6, hx7, h0⟩ := aZ h0
  refine dL (wD l0 _ hx7) hO ?_
  intro H hO
  refine bD ?_
  refine bU [] [(9, (eL (eI) x6))] ?_
  refine aP ?_
  refine aW aD 8 ?_
  refine bV 2 ?_
  obtain ⟨x9, hx10, h0⟩ := aZ h0
  refine dL (pY x6 cD _ hx10) hO ?_
  intro H hO
  refine bD ?_
  refine bU [2] [(10, (eI x9.1))] ?_
  refine aP ?_
  refine aW aD 8 ?_
  obtain ⟨c12, h0⟩ := aR h0
  refine mH [0 ≤ x9.1 ∧ x9.1 ≤ (lN x6) ∧ (lN x6) ≤ (lN x6) ∧ (lN x6) ≤ (lN x6)] ⟨c12, trivial⟩ ?_
  refine dA (l := [(0, (eL aH l0)), (1, (eI n1)), (12, (eL (eI) (List.drop (Int.toNat x9.1) (List.take (Int.toNat (lN x6)) x6))))]) ⟨[(0, (eL aH l0)), (1, (eI n1)), (12, (.sl false (Int.toNat (lN x6) - Int.toNat x9.1) (fun i => (eI) (List.getD x6 (Int.toNat x9.1 + i) default))))], by kernel_rfl, rfl, ⟨aN.refl _, aN.refl _, aAQ (Int.toNat_le.2 (Int.le_trans (And.left (And.right (And.right c12))) (And.right (And.right (And.right c12))))), trivial⟩⟩ ?_
  refine aG (aF (?_))
  refine aP ?_
  refine aT aD 6 [] [(46, (aE (decide ((1024 : Int) < (wR ((wR ((lN (List.drop (Int.toNat x9.1) (List.take (Int.toNat (lN x6)) x6))) - n1)) + (1 : Int)))))))] ?_
  refine bF h0 (fun h0 => ?_) (fun h0 => ?_)
  · refine bT aD 2 [(6, (.sl true 0 (fun _ => .bad))), (7, (eI (7 : Int)))] ?_
    refine bI ?_
    refine dA (l := [(6, (eL aV ([]))), (7, (eI (7 : Int)))]) ⟨[(6, (.sl true 0 (fun _ => .bad))), (7, (eI (7 : Int)))], by kernel_rfl, rfl, ⟨kY, aN.refl _, trivial⟩⟩ ?_
    obtain rfl := oI h0
    exact aG (aQ (Q_r hO))
  refine bG ?_
  refine bE [(0, (eL aH l0)), (1, (eI n1)), (12, (eL (eI) (List.drop (Int.toNat x9.1) (List.take (Int.toNat (lN x6)) x6))))] ?_
  refine aP ?_
  refine aW aD 2 ?_
  refine nA (xs := []) (k := 3) (by kernel_rfl) (by kernel_rfl) ?_
  refine bD ?_
  refine bU [] [(13, (.sl true 0 (fun _ => .bad)))] ?_
  refine dU (fun T H => ∃ jK : List aO, ∃ lo14 : Nat, Has T [(13, (.msl 3 lo14 0 (List.length jK)))] ∧ aL ⟨H0, [], []⟩ H [(lo14, 3, List.map aV jK)] ∧ sU jK = some r) ?_ ?_
  · clear hO h0
    rintro T H ⟨jK, lo14, hT, hO, h0⟩
    refine bC hT ?_
    clear hT
    unfold sU at h0
    refine bT aD 3 [(6, (.msl 3 lo14 0 (List.length jK))), (7, (eI (0 : Int)))] ?_
    refine bI ?_
    refine fZ [(6, (.msl 3 lo14 0 (List.length jK))), (7, (eI (0 : Int)))] ?_
    refine tK (en := aV) jK 0 0 6 3 lo14 (List.length jK) hO (by kernel_rfl) (by kernel_rfl) (by kernel_rfl) (L' := []) (by kernel_rfl) ?_
    intro H15 hO
    obtain rfl := oI h0
    exact aG (Q_r hO)
  refine bZ 0 ?_
  refine eZ [(0, (eL aH l0)), (1, (eI n1)), (12, (eL (eI) (List.drop (Int.toNat x9.1) (List.take (Int.toNat (lN x6)) x6)))), (13, (.sl true 0 (fun _ => .bad)))] ?_
  refine BK (el := (fun _ => .bad)) 3 13 3 hO (by kernel_rfl) ?_
  intro lo26 H27 hO
  refine dO (fun T H => ∃ kO : (List Int), ∃ jK : List aO, ∃ lo17 : Nat, Has T [(0, (eL aH l0)), (1, (eI n1)), (12, (eL (eI) kO)), (13, (.msl 3 lo17 0 (List.length jK)))] ∧ aL ⟨H0, [], []⟩ H [(lo17, 3, List.map aV jK)] ∧ sO l0 n1 kO jK = some r) ?_ ⟨List.drop (Int.toNat x9.1) (List.take (Int.toNat (lN x6)) x6), ([] : List aO), lo26, .eq (by kernel_rfl), hO, h0⟩
  clear hO h0
  rintro T H ⟨kO, jK, lo17, hT, hO, h0⟩
  refine bC hT ?_
  clear hT
  unfold sO at h0
  obtain ⟨rr0, hl0, h0⟩ := aZ h0
  refine cP (by kernel_rfl) (fun (s : (List Int) × List aO) T H => ∃ lo17 : Nat, Has T [(0, (eL aH l0)), (1, (eI n1)), (12, (eL (eI) s.1)), (13, (.msl 3 lo17 0 (List.length s.2)))] ∧ aL ⟨H0, [], []⟩ H [(lo17, 3, List.map aV s.2)]) hl0 ⟨lo17, .eq (by kernel_rfl), hO⟩ ?_
  clear hO
  rintro k0 s out1 T H ⟨lo17, hT, hO⟩ h1 ho0
  obtain ⟨kO, jK⟩ := s
  replace h1 : kU l0 n1 kO jK = some out1 := h1
  try dsimp only at hT
  refine bC hT ?_
  clear hT
  unfold kU at h1
  refine aP ?_
  refine aT aD 4 [] [(51, (aE (decide (n1 ≤ (lN kO)))))] ?_
  refine bF h1 (fun h1 => ?_) (fun h1 => ?_)
  · refine bG ?_
    refine bE [(0, (eL aH l0)), (1, (eI n1)), (12, (eL (eI) kO)), (13, (.msl 3 lo17 0 (List.length jK)))] ?_
    refine bZ 1 ?_
    refine aP ?_
    refine aW aD 10 ?_
    refine bV 5 ?_
    obtain ⟨c19, h1⟩ := aR h1
    refine XT (n' := List.length kO) (el := fun i => (eI) (List.getD kO i default)) c19 ?_
    obtain ⟨x20, hx21, h1⟩ := aZ h1
    refine aBi 50 [(eL aH l0), (.sl false (Int.toNat n1) (fun i => (eI) (List.getD kO i default)))] (aV x20) (dH.sub (IZ l0 (List.take (Int.toNat n1) kO) _ hx21) ⟨aN.refl _, RP (Int.toNat_le.2 (Int.le_trans (And.left (And.right c19)) (And.right (And.right c19)))), trivial⟩) hO ?_
    intro H hO
    refine nA (xs := [(aV x20)]) (k := 3) (by kernel_rfl) (by kernel_rfl) ?_
    obtain ⟨c24, h1⟩ := aR h1
    refine sH (e := aV) jK ([x20]) 0 lo17 3 40 (iO [(aV x20)]) (fun lo23 => [(lo23, 3, List.map aV (jK ++ ([x20])))]) (by kernel_rfl) (by kernel_rfl) hO (by kernel_rfl) (by kernel_rfl) c24 (fun _ => by kernel_rfl) ?_
    intro lo23 H hO
    refine bD ?_
    refine bU [13] [(13, (.msl 3 lo23 0 (List.length (jK ++ ([x20])))))] ?_
    refine aW aD 3 ?_
    obtain ⟨c25, h1⟩ := aR h1
    refine mH [0 ≤ (1 : Int) ∧ (1 : Int) ≤ (lN kO)] ⟨c25, trivial⟩ ?_
    refine dA (l := [(0, (eL aH l0)), (1, (eI n1)), (12, (eL (eI) (List.drop (Int.toNat (1 : Int)) kO))), (13, (.msl 3 lo23 0 (List.length (jK ++ ([x20])))))]) ⟨[(0, (eL aH l0)), (1, (eI n1)), (12, (.sl false (List.length kO - Int.toNat (1 : Int)) (fun i => (eI) (List.getD kO (Int.toNat (1 : Int) + i) default)))), (13, (.msl 3 lo23 0 (List.length (jK ++ ([x20])))))], by kernel_rfl, rfl, ⟨aN.refl _, aN.refl _, aAg, aN.refl _, trivial⟩⟩ ?_
    exact aG (aY (aF (⟨rfl, _, (oI h1).symm, _, .eq (by kernel_rfl), hO⟩)))
  refine eP 0 ?_
  obtain rfl := oI h1
  obtain rfl : _ = rr0 := ho0
  replace h0 : sU jK = some r := h0
  exact aG (aS (aS (bP (aF (⟨rfl, _, _, .eq (by kernel_rfl), hO, h0⟩)))))

theorem DZ  (r : Bool) (h0 : qM  = some r) : dH Try.prog 20 [] (aE r) := by
  intro H0
  refine dF Try.func20 ?_
  have hO := aL.start H0
  unfold qM at h0
  refine bT aD 1 [] ?_
  refine aP ?_
  refine aW aD 3 ?_
  refine bV 1 ?_
  refine nA (xs := [(aC (aB.mk (1 : Int) (1 : Int) ByteArray.empty))]) (k := 3) (by kernel_rfl) (by kernel_rfl) ?_
  refine bD ?_
  refine dA (l := [(1, (eL aC ([aB.mk (1 : Int) (1 : Int) ByteArray.empty])))]) ⟨[(1, (iO [(aC (aB.mk (1 : Int) (1 : Int) ByteArray.empty))]))], by kernel_rfl, rfl, ⟨IM (l := [aB.mk (1 : Int) (1 : Int) ByteArray.empty]), trivial⟩⟩ ?_
  refine aG (aF (?_))
  refine aP ?_
  refine aW aD 3 ?_
  refine bV 1 ?_
  refine nA (xs := [(aC (aB.mk (1 : Int) (2 : Int) ByteArray.empty))]) (k := 3) (by kernel_rfl) (by kernel_rfl) ?_
  refine bD ?_
  refine dA (l := [(1, (eL aC ([aB.mk (1 : Int) (1 : Int) ByteArray.empty]))), (2, (eL aC ([aB.mk (1 : Int) (2 : Int) ByteArray.empty])))]) ⟨[(1, (eL aC ([aB.mk (1 : Int) (1 : Int) ByteArray.empty]))), (2, (iO [(aC (aB.mk (1 : Int) (2 : Int) ByteArray.empty))]))], by kernel_rfl, rfl, ⟨aN.refl _, IM (l := [aB.mk (1 : Int) (2 : Int) ByteArray.empty]), trivial⟩⟩ ?_
  refine aG (aF (?_))
  refine aP ?_
  refine aW aD 10 ?_
  refine bV 8 ?_
  refine nA (xs := [(aH (aI.mk ([aB.mk (1 : Int) (1 : Int) ByteArray.empty]) (2 : Int) (1 : Int))), (aH (aI.mk ([aB.mk (1 : Int) (2 : Int) ByteArray.empty]) (5 : Int) (1 : Int))), (aH (aI.mk ([aB.mk (1 : Int) (2 : Int) ByteArray.empty]) (7 : Int) (-1 : Int))), (aH (aI.mk ([aB.mk (1 : Int) (2 : Int) ByteArray.empty]) (8 : Int) (1 : Int)))]) (k := 3) (by kernel_rfl) (by kernel_rfl) ?_
  refine bD ?_
  refine dA (l := [(3, (eL aH ([aI.mk ([aB.mk (1 : Int) (1 : Int) ByteArray.empty]) (2 : Int) (1 : Int), aI.mk ([aB.mk (1 : Int) (2 : Int) ByteArray.empty]) (5 : Int) (1 : Int), aI.mk ([aB.mk (1 : Int) (2 : Int) ByteArray.empty]) (7 : Int) (-1 : Int), aI.mk ([aB.mk (1 : Int) (2 : Int) ByteArray.empty]) (8 : Int) (1 : Int)])))]) ⟨[(3, (iO [(aH (aI.mk ([aB.mk (1 : Int) (1 : Int) ByteArray.empty]) (2 : Int) (1 : Int))), (aH (aI.mk ([aB.mk (1 : Int) (2 : Int) ByteArray.empty]) (5 : Int) (1 : Int))), (aH (aI.mk ([aB.mk (1 : Int) (2 : Int) ByteArray.empty]) (7 : Int) (-1 : Int))), (aH (aI.mk ([aB.mk (1 : Int) (2 : Int) ByteArray.empty]) (8 : Int) (1 : Int)))]))], by kernel_rfl, rfl, ⟨IM (l := [aI.mk ([aB.mk (1 : Int) (1 : Int) ByteArray.empty]) (2 : Int) (1 : Int), aI.mk ([aB.mk (1 : Int) (2 : Int) ByteArray.empty]) (5 : Int) (1 : Int), aI.mk ([aB.mk (1 : Int) (2 : Int) ByteArray.empty]) (7 : Int) (-1 : Int), aI.mk ([aB.mk (1 : Int) (2 : Int) ByteArray.empty]) (8 : Int) (1 : Int)]), trivial⟩⟩ ?_
  refine aG (aF (?_))
  refine aP ?_
  refine aW aD 7 ?_
  refine bV 1 ?_
  obtain ⟨x1, hx2, h0⟩ := aZ h0
  refine dL (IG ([aI.mk ([aB.mk (1 : Int) (1 : Int) ByteArray.empty]) (2 : Int) (1 : Int), aI.mk ([aB.mk (1 : Int) (2 : Int) ByteArray.empty]) (5 : Int) (1 : Int), aI.mk ([aB.mk (1 : Int) (2 : Int) ByteArray.empty]) (7 : Int) (-1 : Int), aI.mk ([aB.mk (1 : Int) (2 : Int) ByteArray.empty]) (8 : Int) (1 : Int)]) _ hx2) hO ?_
  intro H hO
  refine bD ?_
  refine bU [] [(4, (eL (eI) x1.1)), (5, (eI x1.2))] ?_
  refine aP ?_
  refine aW aD 7 ?_
  refine bV 1 ?_
  obtain ⟨x4, hx5, h0⟩ := aZ h0
  refine dL (LM ([aI.mk ([aB.mk (1 : Int) (1 : Int) ByteArray.empty]) (2 : Int) (1 : Int), aI.mk ([aB.mk (1 : Int) (2 : Int) ByteArray.empty]) (5 : Int) (1 : Int), aI.mk ([aB.mk (1 : Int) (2 : Int) ByteArray.empty]) (7 : Int) (-1 : Int), aI.mk ([aB.mk (1 : Int) (2 : Int) ByteArray.empty]) (8 : Int) (1 : Int)]) (2 : Int) (6 : Int) _ hx5) hO ?_
  intro H hO
  refine bD ?_
  refine bU [] [(6, (eI x4.1)), (7, (eI x4.2))] ?_
  refine aP ?_
  refine aW aD 7 ?_
  refine bV 1 ?_
  obtain ⟨x7, hx8, h0⟩ := aZ h0
  refine dL (BE ([aI.mk ([aB.mk (1 : Int) (1 : Int) ByteArray.empty]) (2 : Int) (1 : Int), aI.mk ([aB.mk (1 : Int) (2 : Int) ByteArray.empty]) (5 : Int) (1 : Int), aI.mk ([aB.mk (1 : Int) (2 : Int) ByteArray.empty]) (7 : Int) (-1 : Int), aI.mk ([aB.mk (1 : Int) (2 : Int) ByteArray.empty]) (8 : Int) (1 : Int)]) (2 : Int) (0 : Int) _ hx8) hO ?_
  intro H hO
  refine bD ?_
  refine bU [3] [(8, (eL aV x7.1)), (9, (eI x7.2))] ?_
  refine aP ?_
  refine aW aD 59 ?_
  obtain ⟨c10, h0⟩ := aR h0
  obtain ⟨c11, h0⟩ := aR h0
  obtain ⟨c12, h0⟩ := aR h0
  obtain ⟨c13, h0⟩ := aR h0
  obtain ⟨c14, h0⟩ := aR h0
  refine mH [((((((((decide (x1.2 = (0 : Int))) && (decide (x4.2 = (0 : Int)))) && (decide (x7.2 = (0 : Int)))) && (decide ((lN x1.1) = (3 : Int)))) && (decide (x4.1 = (5 : Int)))) && (decide ((lN x7.1) = (2 : Int))))) = true → 0 ≤ (0 : Int) ∧ (0 : Int) < (lN x7.1)), (((((((((decide (x1.2 = (0 : Int))) && (decide (x4.2 = (0 : Int)))) && (decide (x7.2 = (0 : Int)))) && (decide ((lN x1.1) = (3 : Int)))) && (decide (x4.1 = (5 : Int)))) && (decide ((lN x7.1) = (2 : Int)))) && ((decide ((((gD x7.1 (0 : Int)).Span).From) = ((cE.mk (2 : Int) (6 : Int)).From))) && ((decide ((((gD x7.1 (0 : Int)).Span).To) = ((cE.mk (2 : Int) (6 : Int)).To))) && true)))) = true → 0 ≤ (0 : Int) ∧ (0 : Int) < (lN x7.1)), ((((((((((decide (x1.2 = (0 : Int))) && (decide (x4.2 = (0 : Int)))) && (decide (x7.2 = (0 : Int)))) && (decide ((lN x1.1) = (3 : Int)))) && (decide (x4.1 = (5 : Int)))) && (decide ((lN x7.1) = (2 : Int)))) && ((decide ((((gD x7.1 (0 : Int)).Span).From) = ((cE.mk (2 : Int) (6 : Int)).From))) && ((decide ((((gD x7.1 (0 : Int)).Span).To) = ((cE.mk (2 : Int) (6 : Int)).To))) && true))) && (decide ((lN ((gD x7.1 (0 : Int)).Rows)) = (2 : Int))))) = true → 0 ≤ (1 : Int) ∧ (1 : Int) < (lN x7.1)), (((((((((((decide (x1.2 = (0 : Int))) && (decide (x4.2 = (0 : Int)))) && (decide (x7.2 = (0 : Int)))) && (decide ((lN x1.1) = (3 : Int)))) && (decide (x4.1 = (5 : Int)))) && (decide ((lN x7.1) = (2 : Int)))) && ((decide ((((gD x7.1 (0 : Int)).Span).From) = ((cE.mk (2 : Int) (6 : Int)).From))) && ((decide ((((gD x7.1 (0 : Int)).Span).To) = ((cE.mk (2 : Int) (6 : Int)).To))) && true))) && (decide ((lN ((gD x7.1 (0 : Int)).Rows)) = (2 : Int)))) && (decide ((lN ((gD x7.1 (1 : Int)).Rows)) = (1 : Int))))) = true → 0 ≤ (1 : Int) ∧ (1 : Int) < (lN x7.1)), (((((((((((decide (x1.2 = (0 : Int))) && (decide (x4.2 = (0 : Int)))) && (decide (x7.2 = (0 : Int)))) && (decide ((lN x1.1) = (3 : Int)))) && (decide (x4.1 = (5 : Int)))) && (decide ((lN x7.1) = (2 : Int)))) && ((decide ((((gD x7.1 (0 : Int)).Span).From) = ((cE.mk (2 : Int) (6 : Int)).From))) && ((decide ((((gD x7.1 (0 : Int)).Span).To) = ((cE.mk (2 : Int) (6 : Int)).To))) && true))) && (decide ((lN ((gD x7.1 (0 : Int)).Rows)) = (2 : Int)))) && (decide ((lN ((gD x7.1 (1 : Int)).Rows)) = (1 : Int))))) = true → 0 ≤ (0 : Int) ∧ (0 : Int) < (lN ((gD x7.1 (1 : Int)).Rows)))] ⟨c10, c11, c12, c13, c14, trivial⟩ ?_
  refine bE [(0, (aE ((((((((((decide (x1.2 = (0 : Int))) && (decide (x4.2 = (0 : Int)))) && (decide (x7.2 = (0 : Int)))) && (decide ((lN x1.1) = (3 : Int)))) && (decide (x4.1 = (5 : Int)))) && (decide ((lN x7.1) = (2 : Int)))) && ((decide ((((gD x7.1 (0 : Int)).Span).From) = ((cE.mk (2 : Int) (6 : Int)).From))) && ((decide ((((gD x7.1 (0 : Int)).Span).To) = ((cE.mk (2 : Int) (6 : Int)).To))) && true))) && (decide ((lN ((gD x7.1 (0 : Int)).Rows)) = (2 : Int)))) && (decide ((lN ((gD x7.1 (1 : Int)).Rows)) = (1 : Int)))) && (decide (((gD ((gD x7.1 (1 : Int)).Rows) (0 : Int)).N) = (2 : Int))))))] ?_
  refine bI ?_
  obtain rfl := oI h0
  exact aG (Q_r hO)

theorem AL (v0 : aB) (r : Bool) (h0 : pU v0 = some r) : dH Try.prog 89 [(aC v0)] (aE r) := by
  intro H0
  refine dF Try.func89 ?_
  have hO := aL.start H0
  unfold pU at h0
  refine aP ?_
  refine aW aD 2 ?_
  refine qF 3 (aC v0) (by kernel_rfl) (by kernel_rfl) ?_
  refine bD ?_
  refine bE [(1, (.rp (aC v0)))] ?_
  refine aP ?_
  refine aT aD 3 [] [(5, (aE (decide (v0.Kind = (1 : Int)))))] ?_
  refine bF h0 (fun h0 => ?_) (fun h0 => ?_)
  · refine bT aD 4 [(2, (aE (nB v0.Text (⟨#[]⟩ : ByteArray))))] ?_
    refine bI ?_
    obtain rfl := oI h0
    exact aG (aQ (Q_r hO))
  refine bG ?_
  refine bE [(1, (.rp (aC v0)))] ?_
  refine bT aD 15 [(2, (aE (((decide (v0.Kind = (2 : Int))) && (decide (v0.Num = (0 : Int)))) && (decide (((ByteArray.size v0.Text : Nat) : Int) ≤ (64 : Int))))))] ?_
  refine bI ?_
  obtain rfl := oI h0
  exact aG (Q_r hO)

theorem AS (r0 : (List aB)) (r : Bool) (h0 : pX r0 = some r) : dH Try.prog 62 [(eL aC r0)] (aE r) := by
  intro H0
  refine dF Try.func62 ?_
  have hO := aL.start H0
  unfold pX at h0
  refine aT aD 1 [] [] ?_
  refine dU (fun T H => Has T [(0, (eL aC r0))] ∧ aL ⟨H0, [], []⟩ H [] ∧ qP r0 = some r) ?_ ?_
  · clear hO h0
    rintro T H ⟨hT, hO, h0⟩
    refine bC hT ?_
    clear hT
    unfold qP at h0
    refine bT aD 4 [(2, (aE (decide ((lN r0) ≤ (8 : Int)))))] ?_
    refine bI ?_
    obtain rfl := oI h0
    exact aG (Q_r hO)
  refine aT aD 1 [] [(3, (eI (0 : Int)))] ?_
  refine bZ 0 ?_
  refine eZ [(0, (eL aC r0)), (3, (eI (0 : Int)))] ?_
  refine dO (fun T H => ∃ i3 : Int, Has T [(0, (eL aC r0)), (3, (eI i3))] ∧ aL ⟨H0, [], []⟩ H [] ∧ wM r0 i3 = some r) ?_ ⟨(0 : Int), .eq (by kernel_rfl), hO, h0⟩
  clear hO h0
  rintro T H ⟨i3, hT, hO, h0⟩
  refine bC hT ?_
  clear hT
  unfold wM at h0
  obtain ⟨rr0, hl0, h0⟩ := aZ h0
  refine cP (by kernel_rfl) (fun (s : Int) T H => Has T [(0, (eL aC r0)), (3, (eI s))] ∧ aL ⟨H0, [], []⟩ H []) hl0 ⟨.eq (by kernel_rfl), hO⟩ ?_
  clear hO
  rintro k0 s out1 T H ⟨hT, hO⟩ h1 ho0
  obtain ⟨i3, rfl⟩ : ∃ x, x = s := ⟨_, rfl⟩
  replace h1 : oN r0 i3 = some out1 := h1
  refine bC hT ?_
  clear hT
  unfold oN at h1
  refine aP ?_
  refine aT aD 8 [] [(11, (aE ((decide (i3 < (lN r0))) && (decide (i3 < (9 : Int))))))] ?_
  refine bF h1 (fun h1 => ?_) (fun h1 => ?_)
  · refine bG ?_
    refine bE [(0, (eL aC r0)), (3, (eI i3))] ?_
    refine aP ?_
    refine bZ 1 ?_
    refine aP ?_
    refine aW aD 6 ?_
    obtain ⟨c2, h1⟩ := aR h1
    refine nR 4 [0 ≤ i3 ∧ i3 < (lN r0)] ⟨c2, trivial⟩ ?_
    obtain ⟨x3, hx4, h1⟩ := aZ h1
    refine dL (AL (gD r0 i3) _ hx4) hO ?_
    intro H hO
    refine bD ?_
    refine bU [] [(19, (aE (!x3)))] ?_
    refine bF h1 (fun h1 => ?_) (fun h1 => ?_)
    · refine bT aD 1 [(2, (aE false))] ?_
      refine bI ?_
      obtain rfl := oI h1
      obtain rfl : _ = rr0 := ho0
      replace h0 : some false = some r := h0
      obtain rfl := oI h0
      exact aG (bK (aQ (aQ (bK (aQ (Q_r hO))))))
    refine bG ?_
    refine fZ [(0, (eL aC r0)), (3, (eI i3))] ?_
    refine aG (aY (aF (?_)))
    refine aW aD 3 ?_
    refine bD ?_
    exact aG (aF (⟨rfl, _, (oI h1).symm, .eq (by kernel_rfl), hO⟩))
  refine eP 0 ?_
  obtain rfl := oI h1
  obtain rfl : _ = rr0 := ho0
  replace h0 : qP r0 = some r := h0
  exact aG (aS (aS (bP (aF (⟨rfl, .eq (by kernel_rfl), hO, h0⟩)))))

theorem FI (f0 : (List aM)) (r : Bool) (h0 : pS f0 = some r) : dH Try.prog 63 [(eL aX f0)] (aE r) := by
  intro H0
  refine dF Try.func63 ?_
  have hO := aL.start H0
  unfold pS at h0
  refine aT aD 1 [] [] ?_
  refine aP ?_
  refine aT aD 3 [] [(6, (aE (decide ((1024 : Int) < (lN f0)))))] ?_
  refine bF h0 (fun h0 => ?_) (fun h0 => ?_)
  · refine bT aD 1 [(2, (aE false))] ?_
    refine bI ?_
    obtain rfl := oI h0
    exact aG (aQ (Q_r hO))
  refine bG ?_
  refine bE [(0, (eL aX f0))] ?_
  refine dU (fun T H => Has T [] ∧ aL ⟨H0, [], []⟩ H [] ∧ tA  = some r) ?_ ?_
  · clear hO h0
    rintro T H ⟨hT, hO, h0⟩
    refine bC hT ?_
    clear hT
    unfold tA at h0
    refine bT aD 1 [(2, (aE true))] ?_
    refine bI ?_
    obtain rfl := oI h0
    exact aG (Q_r hO)
  refine aT aD 1 [] [(3, (eI (0 : Int)))] ?_
  refine bZ 0 ?_
  refine eZ [(0, (eL aX f0)), (3, (eI (0 : Int)))] ?_
  refine dO (fun T H => ∃ i3 : Int, Has T [(0, (eL aX f0)), (3, (eI i3))] ∧ aL ⟨H0, [], []⟩ H [] ∧ vY f0 i3 = some r) ?_ ⟨(0 : Int), .eq (by kernel_rfl), hO, h0⟩
  clear hO h0
  rintro T H ⟨i3, hT, hO, h0⟩
  refine bC hT ?_
  clear hT
  unfold vY at h0
  obtain ⟨rr0, hl0, h0⟩ := aZ h0
  refine cP (by kernel_rfl) (fun (s : Int) T H => Has T [(0, (eL aX f0)), (3, (eI s))] ∧ aL ⟨H0, [], []⟩ H []) hl0 ⟨.eq (by kernel_rfl), hO⟩ ?_
  clear hO
  rintro k0 s out1 T H ⟨hT, hO⟩ h1 ho0
  obtain ⟨i3, rfl⟩ : ∃ x, x = s := ⟨_, rfl⟩
  replace h1 : lA f0 i3 = some out1 := h1
  refine bC hT ?_
  clear hT
  unfold lA at h1
  refine aP ?_
  refine aT aD 4 [] [(10, (aE (decide (i3 < (lN f0)))))] ?_
  refine bF h1 (fun h1 => ?_) (fun h1 => ?_)
  · refine bG ?_
    refine bE [(0, (eL aX f0)), (3, (eI i3))] ?_
    refine aP ?_
    refine bZ 1 ?_
    refine aP ?_
    refine aP ?_
    refine aW aD 38 ?_
    obtain ⟨c3, h1⟩ := aR h1
    obtain ⟨c4, h1⟩ := aR h1
    obtain ⟨c5, h1⟩ := aR h1
    obtain ⟨c6, h1⟩ := aR h1
    obtain ⟨c7, h1⟩ := aR h1
    refine mH [0 ≤ i3 ∧ i3 < (lN f0), (((!(decide (((gD f0 i3).At) < (-1 : Int))))) = true → 0 ≤ i3 ∧ i3 < (lN f0)), (((!((decide (((gD f0 i3).At) < (-1 : Int))) || (decide ((1125899906842624 : Int) ≤ ((gD f0 i3).At)))))) = true → 0 ≤ i3 ∧ i3 < (lN f0)), (((!(((decide (((gD f0 i3).At) < (-1 : Int))) || (decide ((1125899906842624 : Int) ≤ ((gD f0 i3).At)))) || (decide (((gD f0 i3).Net) = (0 : Int)))))) = true → 0 ≤ i3 ∧ i3 < (lN f0)), (((!((((decide (((gD f0 i3).At) < (-1 : Int))) || (decide ((1125899906842624 : Int) ≤ ((gD f0 i3).At)))) || (decide (((gD f0 i3).Net) = (0 : Int)))) || (decide ((1048576 : Int) < ((gD f0 i3).Net)))))) = true → 0 ≤ i3 ∧ i3 < (lN f0))] ⟨c3, c4, c5, c6, c7, trivial⟩ ?_
    refine bU [] [(50, (aE (((((decide (((gD f0 i3).At) < (-1 : Int))) || (decide ((1125899906842624 : Int) ≤ ((gD f0 i3).At)))) || (decide (((gD f0 i3).Net) = (0 : Int)))) || (decide ((1048576 : Int) < ((gD f0 i3).Net)))) || (decide (((gD f0 i3).Net) < (-1048576 : Int))))))] ?_
    refine bF h1 (fun h1 => ?_) (fun h1 => ?_)
    · refine bT aD 1 [(2, (aE false))] ?_
      refine bI ?_
      obtain rfl := oI h1
      obtain rfl : _ = rr0 := ho0
      replace h0 : some false = some r := h0
      obtain rfl := oI h0
      exact aG (aQ (bK (aQ (aQ (bK (aQ (Q_r hO)))))))
    refine bG ?_
    refine bE [(0, (eL aX f0)), (3, (eI i3))] ?_
    refine aP ?_
    obtain ⟨c9, h1⟩ := aR h1
    obtain ⟨c10, h1⟩ := aR h1
    refine eC (eE [58, 64]) aD 16 ?_
    refine lR (K := fun T H => Has (lift T) [(0, (eL aX f0)), (3, (eI i3)), (66, (aE ((decide ((0 : Int) < i3)) && (decide (((gD f0 i3).At) ≤ ((gD f0 (wR (i3 - (1 : Int)))).At))))))] ∧ aL ⟨H0, [], []⟩ H []) ?_ ?_
    · refine kR 3 ?_
      refine jR (t := 53) (e := decide ((0 : Int) < i3)) (by kernel_rfl) (fun hg11 => ?_) (fun hg11 => ?_)
      · refine yI (Ds := [0 ≤ i3 ∧ i3 < (lN f0), 0 ≤ (wR (i3 - (1 : Int))) ∧ (wR (i3 - (1 : Int))) < (lN f0)]) (by kernel_rfl) ⟨(c9 hg11), (c10 hg11), trivial⟩ ?_
        exact ⟨⟨[(0, (eL aX f0)), (3, (eI i3)), (66, (aE (decide (((gD f0 i3).At) ≤ ((gD f0 (wR (i3 - (1 : Int)))).At)))))], by kernel_rfl, rfl, ⟨aN.refl _, aN.refl _, aN.eq (congrArg aE (fV hg11 rfl).symm), trivial⟩⟩, hO⟩
      refine gG ?_
      exact ⟨⟨[(0, (eL aX f0)), (3, (eI i3)), (66, (aE false))], by kernel_rfl, rfl, ⟨aN.refl _, aN.refl _, aN.eq (congrArg aE (fV hg11 rfl).symm), trivial⟩⟩, hO⟩
    · rintro T H ⟨hT, hO⟩
      refine dA hT ?_
      clear hT
      refine aG (aF ?_)
      refine bF h1 (fun h1 => ?_) (fun h1 => ?_)
      · refine bT aD 1 [(2, (aE false))] ?_
        refine bI ?_
        obtain rfl := oI h1
        obtain rfl : _ = rr0 := ho0
        replace h0 : some false = some r := h0
        obtain rfl := oI h0
        exact aG (bK (aQ (aQ (bK (aQ (Q_r hO))))))
      refine bG ?_
      refine fZ [(0, (eL aX f0)), (3, (eI i3))] ?_
      refine aG (aY (aF (?_)))
      refine aW aD 3 ?_
      refine bD ?_
      exact aG (aF (⟨rfl, _, (oI h1).symm, .eq (by kernel_rfl), hO⟩))
  refine eP 0 ?_
  obtain rfl := oI h1
  obtain rfl : _ = rr0 := ho0
  replace h0 : tA  = some r := h0
  exact aG (aS (aS (bP (aF (⟨rfl, .eq (by kernel_rfl), hO, h0⟩)))))

theorem ID (a0 : aB) (b1 : aB) (r : Int) (h0 : pO a0 b1 = some r) : dH Try.prog 90 [(aC a0), (aC b1)] (eI r) := by
  intro H0
  refine dF Try.func90 ?_
  have hO := aL.start H0
  unfold pO at h0
  refine aP ?_
  refine aW aD 3 ?_
  refine qF 3 (aC a0) (by kernel_rfl) (by kernel_rfl) ?_
  refine qF 3 (aC b1) (by kernel_rfl) (by kernel_rfl) ?_
  refine bD ?_
  refine bE [(2, (.rp (aC a0))), (3, (.rp (aC b1)))] ?_
  refine aP ?_
  refine aP ?_
  refine aW aD 8 ?_
  refine bV 1 ?_
  obtain ⟨x1, hx2, h0⟩ := aZ h0
  refine dL (AL a0 _ hx2) hO ?_
  intro H hO
  refine bV 5 ?_
  obtain ⟨x4, hx5, h0⟩ := aZ h0
  refine nK [(9, false)] 89 [(aC b1)] (aE x4) (!(!x1)) (by kernel_rfl) (by kernel_rfl) (by kernel_rfl) (fun hb6 => (AL b1 _ (iV hx5 hb6))) hO ?_
  intro H hO
  refine bD ?_
  refine bU [] [(13, (aE ((!x1) || (!x4))))] ?_
  refine bF h0 (fun h0 => ?_) (fun h0 => ?_)
  · refine bT aD 1 [(4, (eI (0 : Int)))] ?_
    refine bI ?_
    obtain rfl := oI h0
    exact aG (aQ (Q_r hO))
  refine bG ?_
  refine bE [(2, (.rp (aC a0))), (3, (.rp (aC b1)))] ?_
  refine aP ?_
  refine aT aD 5 [] [(18, (aE (!decide (a0.Kind = b1.Kind))))] ?_
  refine bF h0 (fun h0 => ?_) (fun h0 => ?_)
  · refine aP ?_
    refine bT aD 3 [(21, (aE (decide (a0.Kind = (1 : Int)))))] ?_
    refine bF h0 (fun h0 => ?_) (fun h0 => ?_)
    · refine bT aD 1 [(4, (eI (-1 : Int)))] ?_
      refine bI ?_
      obtain rfl := oI h0
      exact aG (aQ (aQ (Q_r hO)))
    refine bG ?_
    refine bE [] ?_
    refine bT aD 1 [(4, (eI (1 : Int)))] ?_
    refine bI ?_
    obtain rfl := oI h0
    exact aG (aQ (Q_r hO))
  refine bG ?_
  refine bE [(2, (.rp (aC a0))), (3, (.rp (aC b1)))] ?_
  refine aP ?_
  refine aT aD 5 [] [(26, (aE (!decide (a0.Num = b1.Num))))] ?_
  refine bF h0 (fun h0 => ?_) (fun h0 => ?_)
  · refine aP ?_
    refine bT aD 5 [(31, (aE (decide (a0.Num < b1.Num))))] ?_
    refine bF h0 (fun h0 => ?_) (fun h0 => ?_)
    · refine bT aD 1 [(4, (eI (-1 : Int)))] ?_
      refine bI ?_
      obtain rfl := oI h0
      exact aG (aQ (aQ (Q_r hO)))
    refine bG ?_
    refine bE [] ?_
    refine bT aD 1 [(4, (eI (1 : Int)))] ?_
    refine bI ?_
    obtain rfl := oI h0
    exact aG (aQ (Q_r hO))
  refine bG ?_
  refine bE [(2, (.rp (aC a0))), (3, (.rp (aC b1)))] ?_
  refine dU (fun T H => ∃ a2 : aB, ∃ b3 : aB, Has T [(2, (.rp (aC a2))), (3, (.rp (aC b3)))] ∧ aL ⟨H0, [], []⟩ H [] ∧ oO a2 b3 = some r) ?_ ?_
  · clear hO h0
    rintro T H ⟨a2, b3, hT, hO, h0⟩
    refine bC hT ?_
    clear hT
    unfold oO at h0
    refine aP ?_
    refine aT aD 7 [] [(70, (aE (!decide (((ByteArray.size a2.Text : Nat) : Int) = ((ByteArray.size b3.Text : Nat) : Int)))))] ?_
    refine bF h0 (fun h0 => ?_) (fun h0 => ?_)
    · refine aP ?_
      refine bT aD 7 [(77, (aE (decide (((ByteArray.size a2.Text : Nat) : Int) < ((ByteArray.size b3.Text : Nat) : Int)))))] ?_
      refine bF h0 (fun h0 => ?_) (fun h0 => ?_)
      · refine bT aD 1 [(4, (eI (-1 : Int)))] ?_
        refine bI ?_
        obtain rfl := oI h0
        exact aG (aQ (aQ (Q_r hO)))
      refine bG ?_
      refine bE [] ?_
      refine bT aD 1 [(4, (eI (1 : Int)))] ?_
      refine bI ?_
      obtain rfl := oI h0
      exact aG (aQ (Q_r hO))
    refine bG ?_
    refine bE [] ?_
    refine bT aD 1 [(4, (eI (0 : Int)))] ?_
    refine bI ?_
    obtain rfl := oI h0
    exact aG (Q_r hO)
  refine aT aD 1 [] [(5, (eI (0 : Int)))] ?_
  refine bZ 0 ?_
  refine eZ [(2, (.rp (aC a0))), (3, (.rp (aC b1))), (5, (eI (0 : Int)))] ?_
  refine dO (fun T H => ∃ a2 : aB, ∃ b3 : aB, ∃ i5 : Int, Has T [(2, (.rp (aC a2))), (3, (.rp (aC b3))), (5, (eI i5))] ∧ aL ⟨H0, [], []⟩ H [] ∧ rI a2 b3 i5 = some r) ?_ ⟨a0, b1, (0 : Int), .eq (by kernel_rfl), hO, h0⟩
  clear hO h0
  rintro T H ⟨a2, b3, i5, hT, hO, h0⟩
  refine bC hT ?_
  clear hT
  unfold rI at h0
  obtain ⟨rr0, hl0, h0⟩ := aZ h0
  refine cP (by kernel_rfl) (fun (s : Int) T H => Has T [(2, (.rp (aC a2))), (3, (.rp (aC b3))), (5, (eI s))] ∧ aL ⟨H0, [], []⟩ H []) hl0 ⟨.eq (by kernel_rfl), hO⟩ ?_
  clear hO
  rintro k0 s out1 T H ⟨hT, hO⟩ h1 ho0
  obtain ⟨i5, rfl⟩ : ∃ x, x = s := ⟨_, rfl⟩
  replace h1 : iM a2 b3 i5 = some out1 := h1
  refine bC hT ?_
  clear hT
  unfold iM at h1
  refine aP ?_
  refine aT aD 12 [] [(43, (aE ((decide (i5 < ((ByteArray.size a2.Text : Nat) : Int))) && (decide (i5 < ((ByteArray.size b3.Text : Nat) : Int))))))] ?_
  refine bF h1 (fun h1 => ?_) (fun h1 => ?_)
  · refine bG ?_
    refine bE [(2, (.rp (aC a2))), (3, (.rp (aC b3))), (5, (eI i5))] ?_
    refine aP ?_
    refine bZ 1 ?_
    refine aP ?_
    refine eC (eE [47, 51]) aD 9 ?_
    obtain ⟨c15, h1⟩ := aR h1
    obtain ⟨c16, h1⟩ := aR h1
    refine yI (Ds := [0 ≤ i5 ∧ i5 < ((ByteArray.size a2.Text : Nat) : Int), 0 ≤ i5 ∧ i5 < ((ByteArray.size b3.Text : Nat) : Int)]) (by kernel_rfl) ⟨c15, c16, trivial⟩ ?_
    refine bU [] [(54, (aE (!decide ((bt a2.Text i5) = (bt b3.Text i5)))))] ?_
    refine bF h1 (fun h1 => ?_) (fun h1 => ?_)
    · refine aP ?_
      refine aP ?_
      refine eC (eE [56, 60]) aD 9 ?_
      obtain ⟨c18, h1⟩ := aR h1
      obtain ⟨c19, h1⟩ := aR h1
      refine yI (Ds := [0 ≤ i5 ∧ i5 < ((ByteArray.size a2.Text : Nat) : Int), 0 ≤ i5 ∧ i5 < ((ByteArray.size b3.Text : Nat) : Int)]) (by kernel_rfl) ⟨c18, c19, trivial⟩ ?_
      refine bE [(63, (aE (decide ((bt a2.Text i5) < (bt b3.Text i5)))))] ?_
      refine bF h1 (fun h1 => ?_) (fun h1 => ?_)
      · refine bT aD 1 [(4, (eI (-1 : Int)))] ?_
        refine bI ?_
        obtain rfl := oI h1
        obtain rfl : _ = rr0 := ho0
        replace h0 : some (-1 : Int) = some r := h0
        obtain rfl := oI h0
        exact aG (aQ (bK (aQ (aQ (bK (aQ (Q_r hO)))))))
      refine bG ?_
      refine bE [] ?_
      refine bT aD 1 [(4, (eI (1 : Int)))] ?_
      refine bI ?_
      obtain rfl := oI h1
      obtain rfl : _ = rr0 := ho0
      replace h0 : some (1 : Int) = some r := h0
      obtain rfl := oI h0
      exact aG (bK (aQ (aQ (bK (aQ (Q_r hO))))))
    refine bG ?_
    refine fZ [(2, (.rp (aC a2))), (3, (.rp (aC b3))), (5, (eI i5))] ?_
    refine aG (aY (aF (?_)))
    refine aW aD 3 ?_
    refine bD ?_
    exact aG (aF (⟨rfl, _, (oI h1).symm, .eq (by kernel_rfl), hO⟩))
  refine eP 0 ?_
  obtain rfl := oI h1
  obtain rfl : _ = rr0 := ho0
  replace h0 : oO a2 b3 = some r := h0
  exact aG (aS (aS (bP (aF (⟨rfl, _, _, .eq (by kernel_rfl), hO, h0⟩)))))

theorem zZ (a0 : (List aB)) (b1 : (List aB)) (r : Int) (h0 : nI a0 b1 = some r) : dH Try.prog 64 [(eL aC a0), (eL aC b1)] (eI r) := by
  intro H0
  refine dF Try.func64 ?_
  have hO := aL.start H0
  unfold nI at h0
  refine aT aD 1 [] [] ?_
  refine aP ?_
  refine aP ?_
  refine aW aD 8 ?_
  refine bV 1 ?_
  obtain ⟨x1, hx2, h0⟩ := aZ h0
  refine dL (AS a0 _ hx2) hO ?_
  intro H hO
  refine bV 5 ?_
  obtain ⟨x4, hx5, h0⟩ := aZ h0
  refine nK [(10, false)] 62 [(eL aC b1)] (aE x4) (!(!x1)) (by kernel_rfl) (by kernel_rfl) (by kernel_rfl) (fun hb6 => (AS b1 _ (iV hx5 hb6))) hO ?_
  intro H hO
  refine bD ?_
  refine bU [] [(14, (aE ((!x1) || (!x4))))] ?_
  refine bF h0 (fun h0 => ?_) (fun h0 => ?_)
  · refine bT aD 1 [(4, (eI (0 : Int)))] ?_
    refine bI ?_
    obtain rfl := oI h0
    exact aG (aQ (Q_r hO))
  refine bG ?_
  refine bE [(0, (eL aC a0)), (1, (eL aC b1))] ?_
  refine dU (fun T H => Has T [(0, (eL aC a0)), (1, (eL aC b1))] ∧ aL ⟨H0, [], []⟩ H [] ∧ oF a0 b1 = some r) ?_ ?_
  · clear hO h0
    rintro T H ⟨hT, hO, h0⟩
    refine bC hT ?_
    clear hT
    unfold oF at h0
    refine aP ?_
    refine aT aD 5 [] [(43, (aE (decide ((lN a0) < (lN b1)))))] ?_
    refine bF h0 (fun h0 => ?_) (fun h0 => ?_)
    · refine bT aD 1 [(4, (eI (-1 : Int)))] ?_
      refine bI ?_
      obtain rfl := oI h0
      exact aG (aQ (Q_r hO))
    refine bG ?_
    refine bE [(0, (eL aC a0)), (1, (eL aC b1))] ?_
    refine aP ?_
    refine bT aD 5 [(48, (aE (decide ((lN b1) < (lN a0)))))] ?_
    refine bF h0 (fun h0 => ?_) (fun h0 => ?_)
    · refine bT aD 1 [(4, (eI (1 : Int)))] ?_
      refine bI ?_
      obtain rfl := oI h0
      exact aG (aQ (Q_r hO))
    refine bG ?_
    refine bE [] ?_
    refine bT aD 1 [(4, (eI (0 : Int)))] ?_
    refine bI ?_
    obtain rfl := oI h0
    exact aG (Q_r hO)
  refine aT aD 1 [] [(5, (eI (0 : Int)))] ?_
  refine bZ 0 ?_
  refine eZ [(0, (eL aC a0)), (1, (eL aC b1)), (5, (eI (0 : Int)))] ?_
  refine dO (fun T H => ∃ i5 : Int, Has T [(0, (eL aC a0)), (1, (eL aC b1)), (5, (eI i5))] ∧ aL ⟨H0, [], []⟩ H [] ∧ rG a0 b1 i5 = some r) ?_ ⟨(0 : Int), .eq (by kernel_rfl), hO, h0⟩
  clear hO h0
  rintro T H ⟨i5, hT, hO, h0⟩
  refine bC hT ?_
  clear hT
  unfold rG at h0
  obtain ⟨rr0, hl0, h0⟩ := aZ h0
  refine cP (by kernel_rfl) (fun (s : Int) T H => Has T [(0, (eL aC a0)), (1, (eL aC b1)), (5, (eI s))] ∧ aL ⟨H0, [], []⟩ H []) hl0 ⟨.eq (by kernel_rfl), hO⟩ ?_
  clear hO
  rintro k0 s out1 T H ⟨hT, hO⟩ h1 ho0
  obtain ⟨i5, rfl⟩ : ∃ x, x = s := ⟨_, rfl⟩
  replace h1 : iL a0 b1 i5 = some out1 := h1
  refine bC hT ?_
  clear hT
  unfold iL at h1
  refine aP ?_
  refine aT aD 10 [] [(24, (aE ((decide (i5 < (lN a0))) && (decide (i5 < (lN b1))))))] ?_
  refine bF h1 (fun h1 => ?_) (fun h1 => ?_)
  · refine bG ?_
    refine bE [(0, (eL aC a0)), (1, (eL aC b1)), (5, (eI i5))] ?_
    refine aP ?_
    refine bZ 1 ?_
    refine aP ?_
    refine eC (eE [30, 34, 35]) aD 10 ?_
    obtain ⟨c11, h1⟩ := aR h1
    obtain ⟨c12, h1⟩ := aR h1
    refine cB 8 [0 ≤ i5 ∧ i5 < (lN a0), 0 ≤ i5 ∧ i5 < (lN b1)] ⟨c11, c12, trivial⟩ ?_
    obtain ⟨x13, hx14, h1⟩ := aZ h1
    refine DM (ID (gD a0 i5) (gD b1 i5) _ hx14) hO ?_
    intro H hO
    refine gG ?_
    refine bU [] [(6, (eI x13))] ?_
    refine aT aD 2 [] [(37, (aE (!decide (x13 = (0 : Int)))))] ?_
    refine bF h1 (fun h1 => ?_) (fun h1 => ?_)
    · refine bT aD 2 [(4, (eI x13))] ?_
      refine bI ?_
      obtain rfl := oI h1
      obtain rfl : _ = rr0 := ho0
      replace h0 : some x13 = some r := h0
      obtain rfl := oI h0
      exact aG (bK (aQ (aQ (bK (aQ (Q_r hO))))))
    refine bG ?_
    refine fZ [(0, (eL aC a0)), (1, (eL aC b1)), (5, (eI i5))] ?_
    refine aG (aY (aF (?_)))
    refine aW aD 3 ?_
    refine bD ?_
    exact aG (aF (⟨rfl, _, (oI h1).symm, .eq (by kernel_rfl), hO⟩))
  refine eP 0 ?_
  obtain rfl := oI h1
  obtain rfl : _ = rr0 := ho0
  replace h0 : oF a0 b1 = some r := h0
  exact aG (aS (aS (bP (aF (⟨rfl, .eq (by kernel_rfl), hO, h0⟩)))))

theorem zE (a0 : (List aB)) (b1 : (List aB)) (r : Bool) (h0 : oG a0 b1 = some r) : dH Try.prog 42 [(eL aC a0), (eL aC b1)] (aE r) := by
  intro H0
  refine dF Try.func42 ?_
  have hO := aL.start H0
  unfold oG at h0
  refine aT aD 1 [] [] ?_
  refine aP ?_
  refine aT aD 5 [] [(10, (aE (!decide ((lN a0) = (lN b1)))))] ?_
  refine bF h0 (fun h0 => ?_) (fun h0 => ?_)
  · refine bT aD 1 [(4, (aE false))] ?_
    refine bI ?_
    obtain rfl := oI h0
    exact aG (aQ (Q_r hO))
  refine bG ?_
  refine bE [(0, (eL aC a0)), (1, (eL aC b1))] ?_
  refine dU (fun T H => Has T [] ∧ aL ⟨H0, [], []⟩ H [] ∧ rT  = some r) ?_ ?_
  · clear hO h0
    rintro T H ⟨hT, hO, h0⟩
    refine bC hT ?_
    clear hT
    unfold rT at h0
    refine bT aD 1 [(4, (aE true))] ?_
    refine bI ?_
    obtain rfl := oI h0
    exact aG (Q_r hO)
  refine aT aD 1 [] [(5, (eI (0 : Int)))] ?_
  refine bZ 0 ?_
  refine eZ [(0, (eL aC a0)), (1, (eL aC b1)), (5, (eI (0 : Int)))] ?_
  refine dO (fun T H => ∃ i5 : Int, Has T [(0, (eL aC a0)), (1, (eL aC b1)), (5, (eI i5))] ∧ aL ⟨H0, [], []⟩ H [] ∧ uY a0 b1 i5 = some r) ?_ ⟨(0 : Int), .eq (by kernel_rfl), hO, h0⟩
  clear hO h0
  rintro T H ⟨i5, hT, hO, h0⟩
  refine bC hT ?_
  clear hT
  unfold uY at h0
  obtain ⟨rr0, hl0, h0⟩ := aZ h0
  refine cP (by kernel_rfl) (fun (s : Int) T H => Has T [(0, (eL aC a0)), (1, (eL aC b1)), (5, (eI s))] ∧ aL ⟨H0, [], []⟩ H []) hl0 ⟨.eq (by kernel_rfl), hO⟩ ?_
  clear hO
  rintro k0 s out1 T H ⟨hT, hO⟩ h1 ho0
  obtain ⟨i5, rfl⟩ : ∃ x, x = s := ⟨_, rfl⟩
  replace h1 : oZ a0 b1 i5 = some out1 := h1
  refine bC hT ?_
  clear hT
  unfold oZ at h1
  refine aP ?_
  refine aT aD 4 [] [(14, (aE (decide (i5 < (lN a0)))))] ?_
  refine bF h1 (fun h1 => ?_) (fun h1 => ?_)
  · refine bG ?_
    refine bE [(0, (eL aC a0)), (1, (eL aC b1)), (5, (eI i5))] ?_
    refine aP ?_
    refine bZ 1 ?_
    refine aP ?_
    refine eC (eE [20, 24]) aD 9 ?_
    obtain ⟨c3, h1⟩ := aR h1
    obtain ⟨c4, h1⟩ := aR h1
    refine yI (Ds := [0 ≤ i5 ∧ i5 < (lN a0), 0 ≤ i5 ∧ i5 < (lN b1)]) (by kernel_rfl) ⟨c3, c4, trivial⟩ ?_
    refine bU [] [(25, (aE (!((decide (((gD a0 i5).Kind) = ((gD b1 i5).Kind))) && ((decide (((gD a0 i5).Num) = ((gD b1 i5).Num))) && ((nB ((gD a0 i5).Text) ((gD b1 i5).Text)) && true))))))] ?_
    refine bF h1 (fun h1 => ?_) (fun h1 => ?_)
    · refine bT aD 1 [(4, (aE false))] ?_
      refine bI ?_
      obtain rfl := oI h1
      obtain rfl : _ = rr0 := ho0
      replace h0 : some false = some r := h0
      obtain rfl := oI h0
      exact aG (bK (aQ (aQ (bK (aQ (Q_r hO))))))
    refine bG ?_
    refine fZ [(0, (eL aC a0)), (1, (eL aC b1)), (5, (eI i5))] ?_
    refine aG (aY (aF (?_)))
    refine aW aD 3 ?_
    refine bD ?_
    exact aG (aF (⟨rfl, _, (oI h1).symm, .eq (by kernel_rfl), hO⟩))
  refine eP 0 ?_
  obtain rfl := oI h1
  obtain rfl : _ = rr0 := ho0
  replace h0 : rT  = some r := h0
  exact aG (aS (aS (bP (aF (⟨rfl, .eq (by kernel_rfl), hO, h0⟩)))))

theorem zF (l0 : (List aI)) (r : (List (List aB))) (h0 : oD l0 = some r) : dH Try.prog 43 [(eL aH l0)] (eL (eL aC) r) := by
  intro H0
  refine dF Try.func43 ?_
  have hO := aL.start H0
  unfold oD at h0
  refine aT aD 1 [] [] ?_
  refine aP ?_
  refine aW aD 2 ?_
  refine nA (xs := []) (k := 1) (by kernel_rfl) (by kernel_rfl) ?_
  refine bD ?_
  refine bU [] [(3, (.sl true 0 (fun _ => .bad)))] ?_
  refine dU (fun T H => ∃ bL : List (List aB), ∃ lo1 : Nat, Has T [(3, (.msl 1 lo1 0 (List.length bL)))] ∧ aL ⟨H0, [], []⟩ H [(lo1, 1, List.map (eL aC) bL)] ∧ uV bL = some r) ?_ ?_
  · clear hO h0
    rintro T H ⟨bL, lo1, hT, hO, h0⟩
    refine bC hT ?_
    clear hT
    unfold uV at h0
    refine bT aD 2 [(2, (.msl 1 lo1 0 (List.length bL)))] ?_
    refine bI ?_
    refine fZ [(2, (.msl 1 lo1 0 (List.length bL)))] ?_
    refine tK (en := (eL aC)) bL 0 0 2 1 lo1 (List.length bL) hO (by kernel_rfl) (by kernel_rfl) (by kernel_rfl) (L' := []) (by kernel_rfl) ?_
    intro H2 hO
    obtain rfl := oI h0
    exact aG (Q_r hO)
  refine aT aD 1 [] [(4, (eI (0 : Int)))] ?_
  refine bZ 0 ?_
  refine eZ [(0, (eL aH l0)), (3, (.sl true 0 (fun _ => .bad))), (4, (eI (0 : Int)))] ?_
  refine BK (el := (fun _ => .bad)) 1 3 1 hO (by kernel_rfl) ?_
  intro lo31 H32 hO
  refine dO (fun T H => ∃ bL : List (List aB), ∃ i4 : Int, ∃ lo4 : Nat, Has T [(0, (eL aH l0)), (3, (.msl 1 lo4 0 (List.length bL))), (4, (eI i4))] ∧ aL ⟨H0, [], []⟩ H [(lo4, 1, List.map (eL aC) bL)] ∧ uX l0 bL i4 = some r) ?_ ⟨([] : List (List aB)), (0 : Int), lo31, .eq (by kernel_rfl), hO, h0⟩
  clear hO h0
  rintro T H ⟨bL, i4, lo4, hT, hO, h0⟩
  refine bC hT ?_
  clear hT
  unfold uX at h0
  obtain ⟨rr0, hl0, h0⟩ := aZ h0
  refine cP (by kernel_rfl) (fun (s : List (List aB) × Int) T H => ∃ lo4 : Nat, Has T [(0, (eL aH l0)), (3, (.msl 1 lo4 0 (List.length s.1))), (4, (eI s.2))] ∧ aL ⟨H0, [], []⟩ H [(lo4, 1, List.map (eL aC) s.1)]) hl0 ⟨lo4, .eq (by kernel_rfl), hO⟩ ?_
  clear hO
  rintro k0 s out1 T H ⟨lo4, hT, hO⟩ h1 ho0
  obtain ⟨bL, i4⟩ := s
  replace h1 : mQ l0 bL i4 = some out1 := h1
  try dsimp only at hT
  refine bC hT ?_
  clear hT
  unfold mQ at h1
  refine aP ?_
  refine aT aD 4 [] [(11, (aE (decide (i4 < (lN l0)))))] ?_
  refine bF h1 (fun h1 => ?_) (fun h1 => ?_)
  · refine bG ?_
    refine bE [(0, (eL aH l0)), (3, (.msl 1 lo4 0 (List.length bL))), (4, (eI i4))] ?_
    refine dU (fun T H => ∃ bL : List (List aB), ∃ lo6 : Nat, Has T [(0, (eL aH l0)), (3, (.msl 1 lo6 0 (List.length bL))), (4, (eI i4))] ∧ aL ⟨H0, [], []⟩ H [(lo6, 1, List.map (eL aC) bL)] ∧ rO l0 bL i4 = some out1) ?_ ?_
    · clear hO h1
      rintro T H ⟨bL, lo6, hT, hO, h1⟩
      refine bC hT ?_
      clear hT
      unfold rO at h1
      refine aW aD 3 ?_
      refine bD ?_
      exact aG (aF (⟨rfl, _, (oI h1).symm, _, .eq (by kernel_rfl), hO⟩))
    refine bZ 1 ?_
    refine aT aD 1 [] [(5, (eI (0 : Int)))] ?_
    refine dU (fun T H => ∃ bL : List (List aB), ∃ at5 : Int, ∃ lo7 : Nat, Has T [(0, (eL aH l0)), (3, (.msl 1 lo7 0 (List.length bL))), (4, (eI i4)), (5, (eI at5))] ∧ aL ⟨H0, [], []⟩ H [(lo7, 1, List.map (eL aC) bL)] ∧ rY l0 bL i4 at5 = some out1) ?_ ?_
    · clear hO h1
      rintro T H ⟨bL, at5, lo7, hT, hO, h1⟩
      refine bC hT ?_
      clear hT
      unfold rY at h1
      refine aP ?_
      refine aP ?_
      obtain ⟨c8, h1⟩ := aR h1
      obtain ⟨c9, h1⟩ := aR h1
      obtain ⟨x10, hx11, h1⟩ := aZ h1
      refine eC (eE [46]) aD 16 ?_
      refine lR (K := fun T H => Has (lift T) [(0, (eL aH l0)), (3, (.msl 1 lo7 0 (List.length bL))), (4, (eI i4)), (5, (eI at5)), (48, (aE ((decide (at5 < (lN bL))) && x10)))] ∧ aL ⟨H0, [], []⟩ H [(lo7, 1, List.map (eL aC) bL)]) ?_ ?_
      · refine kR 5 ?_
        refine jR (t := 37) (e := decide (at5 < (lN bL))) (by kernel_rfl) (fun hg12 => ?_) (fun hg12 => ?_)
        · refine cB 8 [0 ≤ at5 ∧ at5 < (lN bL)] ⟨(c8 hg12), trivial⟩ ?_
          refine iB 0 lo7 1 (0 + Int.toNat at5) (eL aC (gD bL at5)) (eL aC (gD bL at5)) (List.map (eL aC) bL) (by kernel_rfl) (by kernel_rfl) (by kernel_rfl) hO (by kernel_rfl) (bY (c8 hg12)) ?_
          refine cB 14 [0 ≤ i4 ∧ i4 < (lN l0)] ⟨(c9 hg12), trivial⟩ ?_
          refine lS 42 [(eL aC (gD bL at5)), (eL aC ((gD l0 i4).Row))] (aE x10) (by kernel_rfl) (by kernel_rfl) (zE (gD bL at5) ((gD l0 i4).Row) _ (iV hx11 hg12)) hO ?_
          intro H hO
          refine gG ?_
          exact ⟨⟨[(0, (eL aH l0)), (3, (.msl 1 lo7 0 (List.length bL))), (4, (eI i4)), (5, (eI at5)), (48, (aE x10))], by kernel_rfl, rfl, ⟨aN.refl _, aN.refl _, aN.refl _, aN.refl _, aN.eq (congrArg aE (fV hg12 rfl).symm), trivial⟩⟩, hO⟩
        refine gG ?_
        exact ⟨⟨[(0, (eL aH l0)), (3, (.msl 1 lo7 0 (List.length bL))), (4, (eI i4)), (5, (eI at5)), (48, (aE false))], by kernel_rfl, rfl, ⟨aN.refl _, aN.refl _, aN.refl _, aN.refl _, aN.eq (congrArg aE (fV hg12 rfl).symm), trivial⟩⟩, hO⟩
      · rintro T H ⟨hT, hO⟩
        refine dA hT ?_
        clear hT
        refine aG (aF ?_)
        refine bF h1 (fun h1 => ?_) (fun h1 => ?_)
        · refine eP 1 ?_
          exact aG (aS (bP (aF (⟨rfl, _, _, .eq (by kernel_rfl), hO, h1⟩))))
        refine bG ?_
        refine bE [(0, (eL aH l0)), (3, (.msl 1 lo7 0 (List.length bL))), (4, (eI i4)), (5, (eI at5))] ?_
        refine aP ?_
        refine aW aD 6 ?_
        refine nA (xs := []) (k := 1) (by kernel_rfl) (by kernel_rfl) ?_
        obtain ⟨c14, h1⟩ := aR h1
        refine nR 4 [0 ≤ at5 ∧ at5 ≤ (lN bL)] ⟨c14, trivial⟩ ?_
        obtain ⟨c16, h1⟩ := aR h1
        refine RR (e := (eL aC)) (List.take (Int.toNat at5) bL) (fun _ => .bad) 1 24 (.msl 1 lo7 0 (Int.toNat at5)) (fun lo15 => [(lo7, 1, List.map (eL aC) bL), (lo15, 1, List.map (eL aC) (List.take (Int.toNat at5) bL))]) (by kernel_rfl) (by kernel_rfl) hO (MM hO 0 (by kernel_rfl) (Int.toNat_le.2 (And.right c14))) c16 (fun _ => by kernel_rfl) ?_
        intro lo15 H hO
        refine bD ?_
        refine bU [] [(6, (.msl 1 lo15 0 (List.length (List.take (Int.toNat at5) bL))))] ?_
        refine aP ?_
        refine aW aD 9 ?_
        obtain ⟨c17, h1⟩ := aR h1
        refine nR 6 [0 ≤ i4 ∧ i4 < (lN l0)] ⟨c17, trivial⟩ ?_
        refine nA (xs := [(eL aC ((gD l0 i4).Row))]) (k := 1) (by kernel_rfl) (by kernel_rfl) ?_
        obtain ⟨c19, h1⟩ := aR h1
        refine sH (e := (eL aC)) (List.take (Int.toNat at5) bL) ([(gD l0 i4).Row]) 1 lo15 1 24 (iO [(eL aC ((gD l0 i4).Row))]) (fun lo18 => [(lo7, 1, List.map (eL aC) bL), (lo18, 1, List.map (eL aC) ((List.take (Int.toNat at5) bL) ++ ([(gD l0 i4).Row])))]) (by kernel_rfl) (by kernel_rfl) hO (by kernel_rfl) (by kernel_rfl) c19 (fun _ => by kernel_rfl) ?_
        intro lo18 H hO
        refine bD ?_
        refine bU [6] [(6, (.msl 1 lo18 0 (List.length ((List.take (Int.toNat at5) bL) ++ ([(gD l0 i4).Row])))))] ?_
        refine aW aD 6 ?_
        obtain ⟨c20, h1⟩ := aR h1
        refine nR 4 [0 ≤ at5 ∧ at5 ≤ (lN bL)] ⟨c20, trivial⟩ ?_
        obtain ⟨c22, h1⟩ := aR h1
        refine sH (e := (eL aC)) ((List.take (Int.toNat at5) bL) ++ ([(gD l0 i4).Row])) (List.drop (Int.toNat at5) bL) 1 lo18 1 24 (.msl 1 lo7 (0 + Int.toNat at5) (List.length bL - Int.toNat at5)) (fun lo21 => [(lo7, 1, List.map (eL aC) bL), (lo21, 1, List.map (eL aC) (((List.take (Int.toNat at5) bL) ++ ([(gD l0 i4).Row])) ++ (List.drop (Int.toNat at5) bL)))]) (by kernel_rfl) (by kernel_rfl) hO (by kernel_rfl) (NK hO 0 (by kernel_rfl) rfl (Int.toNat_le.2 (And.right c20))) c22 (fun _ => by kernel_rfl) ?_
        intro lo21 H hO
        refine bD ?_
        replace hO := hO.pick (L' := [(lo21, 1, List.map (eL aC) (((List.take (Int.toNat at5) bL) ++ ([(gD l0 i4).Row])) ++ (List.drop (Int.toNat at5) bL)))]) [1] (by decide) (by kernel_rfl)
        exact aG (aY (aF (⟨rfl, _, _, .eq (by kernel_rfl), hO, h1⟩)))
    refine bZ 2 ?_
    refine eZ [(0, (eL aH l0)), (3, (.msl 1 lo4 0 (List.length bL))), (4, (eI i4)), (5, (eI (0 : Int)))] ?_
    refine dO (fun T H => ∃ bL : List (List aB), ∃ at5 : Int, ∃ lo24 : Nat, Has T [(0, (eL aH l0)), (3, (.msl 1 lo24 0 (List.length bL))), (4, (eI i4)), (5, (eI at5))] ∧ aL ⟨H0, [], []⟩ H [(lo24, 1, List.map (eL aC) bL)] ∧ uS l0 bL i4 at5 = some out1) ?_ ⟨bL, (0 : Int), lo4, .eq (by kernel_rfl), hO, h1⟩
    clear hO h1
    rintro T H ⟨bL, at5, lo24, hT, hO, h1⟩
    refine bC hT ?_
    clear hT
    unfold uS at h1
    obtain ⟨rr1, hl1, h1⟩ := aZ h1
    refine cP (by kernel_rfl) (fun (s : List (List aB) × Int) T H => ∃ lo24 : Nat, Has T [(0, (eL aH l0)), (3, (.msl 1 lo24 0 (List.length s.1))), (4, (eI i4)), (5, (eI s.2))] ∧ aL ⟨H0, [], []⟩ H [(lo24, 1, List.map (eL aC) s.1)]) hl1 ⟨lo24, .eq (by kernel_rfl), hO⟩ ?_
    clear hO
    rintro k1 s out2 T H ⟨lo24, hT, hO⟩ h2 ho1
    obtain ⟨bL, at5⟩ := s
    replace h2 : lH l0 i4 bL at5 = some out2 := h2
    try dsimp only at hT
    refine bC hT ?_
    clear hT
    unfold lH at h2
    refine aP ?_
    refine aP ?_
    obtain ⟨c25, h2⟩ := aR h2
    obtain ⟨c26, h2⟩ := aR h2
    obtain ⟨x27, hx28, h2⟩ := aZ h2
    refine eC (eE [27]) aD 17 ?_
    refine lR (K := fun T H => Has (lift T) [(0, (eL aH l0)), (3, (.msl 1 lo24 0 (List.length bL))), (4, (eI i4)), (5, (eI at5)), (30, (aE ((decide (at5 < (lN bL))) && (decide (x27 < (0 : Int))))))] ∧ aL ⟨H0, [], []⟩ H [(lo24, 1, List.map (eL aC) bL)]) ?_ ?_
    · refine kR 5 ?_
      refine jR (t := 18) (e := decide (at5 < (lN bL))) (by kernel_rfl) (fun hg29 => ?_) (fun hg29 => ?_)
      · refine cB 8 [0 ≤ at5 ∧ at5 < (lN bL)] ⟨(c25 hg29), trivial⟩ ?_
        refine iB 0 lo24 1 (0 + Int.toNat at5) (eL aC (gD bL at5)) (eL aC (gD bL at5)) (List.map (eL aC) bL) (by kernel_rfl) (by kernel_rfl) (by kernel_rfl) hO (by kernel_rfl) (bY (c25 hg29)) ?_
        refine cB 14 [0 ≤ i4 ∧ i4 < (lN l0)] ⟨(c26 hg29), trivial⟩ ?_
        refine lS 64 [(eL aC (gD bL at5)), (eL aC ((gD l0 i4).Row))] (eI x27) (by kernel_rfl) (by kernel_rfl) (zZ (gD bL at5) ((gD l0 i4).Row) _ (iV hx28 hg29)) hO ?_
        intro H hO
        refine gG ?_
        exact ⟨⟨[(0, (eL aH l0)), (3, (.msl 1 lo24 0 (List.length bL))), (4, (eI i4)), (5, (eI at5)), (30, (aE (decide (x27 < (0 : Int)))))], by kernel_rfl, rfl, ⟨aN.refl _, aN.refl _, aN.refl _, aN.refl _, aN.eq (congrArg aE (fV hg29 rfl).symm), trivial⟩⟩, hO⟩
      refine gG ?_
      exact ⟨⟨[(0, (eL aH l0)), (3, (.msl 1 lo24 0 (List.length bL))), (4, (eI i4)), (5, (eI at5)), (30, (aE false))], by kernel_rfl, rfl, ⟨aN.refl _, aN.refl _, aN.refl _, aN.refl _, aN.eq (congrArg aE (fV hg29 rfl).symm), trivial⟩⟩, hO⟩
    · rintro T H ⟨hT, hO⟩
      refine dA hT ?_
      clear hT
      refine aG (aF ?_)
      refine bF h2 (fun h2 => ?_) (fun h2 => ?_)
      · refine bG ?_
        refine bE [(0, (eL aH l0)), (3, (.msl 1 lo24 0 (List.length bL))), (4, (eI i4)), (5, (eI at5))] ?_
        refine bZ 3 ?_
        refine aW aD 3 ?_
        refine bD ?_
        exact aG (aY (aF (⟨rfl, _, (oI h2).symm, _, .eq (by kernel_rfl), hO⟩)))
      refine eP 2 ?_
      obtain rfl := oI h2
      obtain rfl : _ = rr1 := ho1
      replace h1 : rY l0 bL i4 at5 = some out1 := h1
      exact aG (aS (aS (bP (aF (⟨rfl, _, _, _, .eq (by kernel_rfl), hO, h1⟩)))))
  refine eP 0 ?_
  obtain rfl := oI h1
  obtain rfl : _ = rr0 := ho0
  replace h0 : uV bL = some r := h0
  exact aG (aS (aS (bP (aF (⟨rfl, _, _, .eq (by kernel_rfl), hO, h0⟩)))))

theorem yA (l0 : (List aI)) (r1 : (List aB)) (r : (List aM)) (h0 : nL l0 r1 = some r) : dH Try.prog 45 [(eL aH l0), (eL aC r1)] (eL aX r) := by
  intro H0
  refine dF Try.func45 ?_
  have hO := aL.start H0
  unfold nL at h0
  refine aT aD 1 [] [] ?_
  refine aP ?_
  refine aW aD 2 ?_
  refine nA (xs := []) (k := 2) (by kernel_rfl) (by kernel_rfl) ?_
  refine bD ?_
  refine bU [] [(5, (.sl true 0 (fun _ => .bad)))] ?_
  refine dU (fun T H => ∃ f5 : List aM, ∃ lo1 : Nat, Has T [(5, (.msl 2 lo1 0 (List.length f5)))] ∧ aL ⟨H0, [], []⟩ H [(lo1, 2, List.map aX f5)] ∧ tX f5 = some r) ?_ ?_
  · clear hO h0
    rintro T H ⟨f5, lo1, hT, hO, h0⟩
    refine bC hT ?_
    clear hT
    unfold tX at h0
    refine bT aD 2 [(4, (.msl 2 lo1 0 (List.length f5)))] ?_
    refine bI ?_
    refine fZ [(4, (.msl 2 lo1 0 (List.length f5)))] ?_
    refine tK (en := aX) f5 0 0 4 2 lo1 (List.length f5) hO (by kernel_rfl) (by kernel_rfl) (by kernel_rfl) (L' := []) (by kernel_rfl) ?_
    intro H2 hO
    obtain rfl := oI h0
    exact aG (Q_r hO)
  refine aT aD 1 [] [(6, (eI (0 : Int)))] ?_
  refine bZ 0 ?_
  refine eZ [(0, (eL aH l0)), (1, (eL aC r1)), (5, (.sl true 0 (fun _ => .bad))), (6, (eI (0 : Int)))] ?_
  refine BK (el := (fun _ => .bad)) 2 5 2 hO (by kernel_rfl) ?_
  intro lo16 H17 hO
  refine dO (fun T H => ∃ f5 : List aM, ∃ i6 : Int, ∃ lo4 : Nat, Has T [(0, (eL aH l0)), (1, (eL aC r1)), (5, (.msl 2 lo4 0 (List.length f5))), (6, (eI i6))] ∧ aL ⟨H0, [], []⟩ H [(lo4, 2, List.map aX f5)] ∧ tU l0 r1 f5 i6 = some r) ?_ ⟨([] : List aM), (0 : Int), lo16, .eq (by kernel_rfl), hO, h0⟩
  clear hO h0
  rintro T H ⟨f5, i6, lo4, hT, hO, h0⟩
  refine bC hT ?_
  clear hT
  unfold tU at h0
  obtain ⟨rr0, hl0, h0⟩ := aZ h0
  refine cP (by kernel_rfl) (fun (s : List aM × Int) T H => ∃ lo4 : Nat, Has T [(0, (eL aH l0)), (1, (eL aC r1)), (5, (.msl 2 lo4 0 (List.length s.1))), (6, (eI s.2))] ∧ aL ⟨H0, [], []⟩ H [(lo4, 2, List.map aX s.1)]) hl0 ⟨lo4, .eq (by kernel_rfl), hO⟩ ?_
  clear hO
  rintro k0 s out1 T H ⟨lo4, hT, hO⟩ h1 ho0
  obtain ⟨f5, i6⟩ := s
  replace h1 : lM l0 r1 f5 i6 = some out1 := h1
  try dsimp only at hT
  refine bC hT ?_
  clear hT
  unfold lM at h1
  refine aP ?_
  refine aT aD 4 [] [(11, (aE (decide (i6 < (lN l0)))))] ?_
  refine bF h1 (fun h1 => ?_) (fun h1 => ?_)
  · refine bG ?_
    refine bE [(0, (eL aH l0)), (1, (eL aC r1)), (5, (.msl 2 lo4 0 (List.length f5))), (6, (eI i6))] ?_
    refine dU (fun T H => ∃ f5 : List aM, ∃ lo6 : Nat, Has T [(0, (eL aH l0)), (1, (eL aC r1)), (5, (.msl 2 lo6 0 (List.length f5))), (6, (eI i6))] ∧ aL ⟨H0, [], []⟩ H [(lo6, 2, List.map aX f5)] ∧ qL l0 r1 f5 i6 = some out1) ?_ ?_
    · clear hO h1
      rintro T H ⟨f5, lo6, hT, hO, h1⟩
      refine bC hT ?_
      clear hT
      unfold qL at h1
      refine aW aD 3 ?_
      refine bD ?_
      exact aG (aF (⟨rfl, _, (oI h1).symm, _, .eq (by kernel_rfl), hO⟩))
    refine bZ 1 ?_
    refine aP ?_
    refine aW aD 7 ?_
    obtain ⟨c7, h1⟩ := aR h1
    refine nR 6 [0 ≤ i6 ∧ i6 < (lN l0)] ⟨c7, trivial⟩ ?_
    obtain ⟨x8, hx9, h1⟩ := aZ h1
    refine dL (zE ((gD l0 i6).Row) r1 _ hx9) hO ?_
    intro H hO
    refine hY ?_
    refine bU [] [(20, (aE x8))] ?_
    refine bF h1 (fun h1 => ?_) (fun h1 => ?_)
    · refine eC (eE [26, 31, 33]) aD 15 ?_
      obtain ⟨c12, h1⟩ := aR h1
      obtain ⟨c13, h1⟩ := aR h1
      refine cB 12 [0 ≤ i6 ∧ i6 < (lN l0), 0 ≤ i6 ∧ i6 < (lN l0)] ⟨c12, c13, trivial⟩ ?_
      refine TU (xs := [(aX (aM.mk ((gD l0 i6).At) ((gD l0 i6).Net)))]) (k := 2) (by kernel_rfl) (by kernel_rfl) ?_
      obtain ⟨c15, h1⟩ := aR h1
      refine JF (e := aX) f5 ([aM.mk ((gD l0 i6).At) ((gD l0 i6).Net)]) 0 lo4 2 16 (iO [(aX (aM.mk ((gD l0 i6).At) ((gD l0 i6).Net)))]) (fun lo14 => [(lo14, 2, List.map aX (f5 ++ ([aM.mk ((gD l0 i6).At) ((gD l0 i6).Net)])))]) (by kernel_rfl) (by kernel_rfl) hO (by kernel_rfl) (by kernel_rfl) c15 (fun _ => by kernel_rfl) ?_
      intro lo14 H hO
      refine gG ?_
      exact aG (aY (aF (⟨rfl, _, _, .eq (by kernel_rfl), hO, h1⟩)))
    refine bG ?_
    exact aG (aY (aF (⟨rfl, _, _, .eq (by kernel_rfl), hO, h1⟩)))
  refine eP 0 ?_
  obtain rfl := oI h1
  obtain rfl : _ = rr0 := ho0
  replace h0 : tX f5 = some r := h0
  exact aG (aS (aS (bP (aF (⟨rfl, _, _, .eq (by kernel_rfl), hO, h0⟩)))))

theorem FN (l0 : (List aI)) (r : Bool) (h0 : sD l0 = some r) : dH Try.prog 34 [(eL aH l0)] (aE r) := by
  intro H0
  refine dF Try.func34 ?_
  have hO := aL.start H0
  unfold sD at h0
  refine aT aD 1 [] [] ?_
  refine aP ?_
  refine aT aD 3 [] [(9, (aE (decide ((4096 : Int) < (lN l0)))))] ?_
  refine bF h0 (fun h0 => ?_) (fun h0 => ?_)
  · refine bT aD 1 [(2, (aE false))] ?_
    refine bI ?_
    obtain rfl := oI h0
    exact aG (aQ (Q_r hO))
  refine bG ?_
  refine bE [(0, (eL aH l0))] ?_
  refine dU (fun T H => Has T [(0, (eL aH l0))] ∧ aL ⟨H0, [], []⟩ H [] ∧ sZ l0 = some r) ?_ ?_
  · clear hO h0
    rintro T H ⟨hT, hO, h0⟩
    refine bC hT ?_
    clear hT
    unfold sZ at h0
    refine aP ?_
    refine aW aD 3 ?_
    refine bV 1 ?_
    obtain ⟨x2, hx3, h0⟩ := aZ h0
    refine dL (zF l0 _ hx3) hO ?_
    intro H hO
    refine bD ?_
    refine bU [] [(5, (eL (eL aC) x2))] ?_
    refine dU (fun T H => Has T [] ∧ aL ⟨H0, [], []⟩ H [] ∧ vU  = some r) ?_ ?_
    · clear hO h0
      rintro T H ⟨hT, hO, h0⟩
      refine bC hT ?_
      clear hT
      unfold vU at h0
      refine bT aD 1 [(2, (aE true))] ?_
      refine bI ?_
      obtain rfl := oI h0
      exact aG (Q_r hO)
    refine aT aD 1 [] [(6, (eI (0 : Int)))] ?_
    refine bZ 2 ?_
    refine eZ [(0, (eL aH l0)), (5, (eL (eL aC) x2)), (6, (eI (0 : Int)))] ?_
    refine dO (fun T H => ∃ qB : (List (List aB)), ∃ i6 : Int, Has T [(0, (eL aH l0)), (5, (eL (eL aC) qB)), (6, (eI i6))] ∧ aL ⟨H0, [], []⟩ H [] ∧ wE l0 qB i6 = some r) ?_ ⟨x2, (0 : Int), .eq (by kernel_rfl), hO, h0⟩
    clear hO h0
    rintro T H ⟨qB, i6, hT, hO, h0⟩
    refine bC hT ?_
    clear hT
    unfold wE at h0
    obtain ⟨rr0, hl0, h0⟩ := aZ h0
    refine cP (by kernel_rfl) (fun (s : Int) T H => Has T [(0, (eL aH l0)), (5, (eL (eL aC) qB)), (6, (eI s))] ∧ aL ⟨H0, [], []⟩ H []) hl0 ⟨.eq (by kernel_rfl), hO⟩ ?_
    clear hO
    rintro k0 s out1 T H ⟨hT, hO⟩ h1 ho0
    obtain ⟨i6, rfl⟩ : ∃ x, x = s := ⟨_, rfl⟩
    replace h1 : oH l0 qB i6 = some out1 := h1
    refine bC hT ?_
    clear hT
    unfold oH at h1
    refine aP ?_
    refine aT aD 4 [] [(78, (aE (decide (i6 < (lN qB)))))] ?_
    refine bF h1 (fun h1 => ?_) (fun h1 => ?_)
    · refine bG ?_
      refine bE [(0, (eL aH l0)), (5, (eL (eL aC) qB)), (6, (eI i6))] ?_
      refine aP ?_
      refine bZ 3 ?_
      refine aP ?_
      refine aW aD 8 ?_
      obtain ⟨c6, h1⟩ := aR h1
      refine nR 5 [0 ≤ i6 ∧ i6 < (lN qB)] ⟨c6, trivial⟩ ?_
      obtain ⟨x7, hx8, h1⟩ := aZ h1
      refine dL (yA l0 (gD qB i6) _ hx8) hO ?_
      intro H hO
      refine bD ?_
      refine bU [] [(88, (aE (decide ((1024 : Int) < (lN x7)))))] ?_
      refine bF h1 (fun h1 => ?_) (fun h1 => ?_)
      · refine bT aD 1 [(2, (aE false))] ?_
        refine bI ?_
        obtain rfl := oI h1
        obtain rfl : _ = rr0 := ho0
        replace h0 : some false = some r := h0
        obtain rfl := oI h0
        exact aG (bK (aQ (aQ (bK (aQ (Q_r hO))))))
      refine bG ?_
      refine fZ [(0, (eL aH l0)), (5, (eL (eL aC) qB)), (6, (eI i6))] ?_
      refine aG (aY (aF (?_)))
      refine aW aD 3 ?_
      refine bD ?_
      exact aG (aF (⟨rfl, _, (oI h1).symm, .eq (by kernel_rfl), hO⟩))
    refine eP 2 ?_
    obtain rfl := oI h1
    obtain rfl : _ = rr0 := ho0
    replace h0 : vU  = some r := h0
    exact aG (aS (aS (bP (aF (⟨rfl, .eq (by kernel_rfl), hO, h0⟩)))))
  refine aT aD 1 [] [(3, (eI (0 : Int)))] ?_
  refine bZ 0 ?_
  refine eZ [(0, (eL aH l0)), (3, (eI (0 : Int)))] ?_
  refine dO (fun T H => ∃ i3 : Int, Has T [(0, (eL aH l0)), (3, (eI i3))] ∧ aL ⟨H0, [], []⟩ H [] ∧ vS l0 i3 = some r) ?_ ⟨(0 : Int), .eq (by kernel_rfl), hO, h0⟩
  clear hO h0
  rintro T H ⟨i3, hT, hO, h0⟩
  refine bC hT ?_
  clear hT
  unfold vS at h0
  obtain ⟨rr0, hl0, h0⟩ := aZ h0
  refine cP (by kernel_rfl) (fun (s : Int) T H => Has T [(0, (eL aH l0)), (3, (eI s))] ∧ aL ⟨H0, [], []⟩ H []) hl0 ⟨.eq (by kernel_rfl), hO⟩ ?_
  clear hO
  rintro k0 s out1 T H ⟨hT, hO⟩ h1 ho0
  obtain ⟨i3, rfl⟩ : ∃ x, x = s := ⟨_, rfl⟩
  replace h1 : nF l0 i3 = some out1 := h1
  refine bC hT ?_
  clear hT
  unfold nF at h1
  refine aP ?_
  refine aT aD 4 [] [(13, (aE (decide (i3 < (lN l0)))))] ?_
  refine bF h1 (fun h1 => ?_) (fun h1 => ?_)
  · refine bG ?_
    refine bE [(0, (eL aH l0)), (3, (eI i3))] ?_
    refine dU (fun T H => Has T [(0, (eL aH l0)), (3, (eI i3))] ∧ aL ⟨H0, [], []⟩ H [] ∧ qQ l0 i3 = some out1) ?_ ?_
    · clear hO h1
      rintro T H ⟨hT, hO, h1⟩
      refine bC hT ?_
      clear hT
      unfold qQ at h1
      refine aW aD 3 ?_
      refine bD ?_
      exact aG (aF (⟨rfl, _, (oI h1).symm, .eq (by kernel_rfl), hO⟩))
    refine bZ 1 ?_
    refine aP ?_
    refine aP ?_
    obtain ⟨c12, h1⟩ := aR h1
    obtain ⟨x13, hx14, h1⟩ := aZ h1
    obtain ⟨c15, h1⟩ := aR h1
    obtain ⟨c16, h1⟩ := aR h1
    obtain ⟨x17, hx18, h1⟩ := aZ h1
    refine eC (eE [20, 28, 33]) aD 23 ?_
    refine lR (K := fun T H => Has (lift T) [(0, (eL aH l0)), (3, (eI i3)), (38, (aE ((!x13) || (!x17))))] ∧ aL ⟨H0, [], []⟩ H []) ?_ ?_
    · refine cB 5 [0 ≤ i3 ∧ i3 < (lN l0)] ⟨c12, trivial⟩ ?_
      refine lS 62 [(eL aC ((gD l0 i3).Row))] (aE x13) (by kernel_rfl) (by kernel_rfl) (AS ((gD l0 i3).Row) _ hx14) hO ?_
      intro H hO
      refine kR 8 ?_
      refine jR (t := 23) (e := !x13) (by kernel_rfl) (fun hg19 => ?_) (fun hg19 => ?_)
      · refine gG ?_
        exact ⟨⟨[(0, (eL aH l0)), (3, (eI i3)), (38, (aE true))], by kernel_rfl, rfl, ⟨aN.refl _, aN.refl _, aN.eq (congrArg aE (BY hg19 rfl).symm), trivial⟩⟩, hO⟩
      refine cB 19 [0 ≤ i3 ∧ i3 < (lN l0), 0 ≤ i3 ∧ i3 < (lN l0)] ⟨(c15 (vW hg19)), (c16 (vW hg19)), trivial⟩ ?_
      refine aAN (xs := [(aX (aM.mk ((gD l0 i3).At) ((gD l0 i3).Net)))]) (by kernel_rfl) (by kernel_rfl) ?_
      refine lS 63 [(iO [(aX (aM.mk ((gD l0 i3).At) ((gD l0 i3).Net)))])] (aE x17) (by kernel_rfl) (by kernel_rfl) (dH.sub (FI ([aM.mk ((gD l0 i3).At) ((gD l0 i3).Net)]) _ (iV hx18 (vW hg19))) ⟨IM (l := [aM.mk ((gD l0 i3).At) ((gD l0 i3).Net)]), trivial⟩) hO ?_
      intro H hO
      refine gG ?_
      exact ⟨⟨[(0, (eL aH l0)), (3, (eI i3)), (38, (aE (!x17)))], by kernel_rfl, rfl, ⟨aN.refl _, aN.refl _, aN.eq (congrArg aE (BY hg19 rfl).symm), trivial⟩⟩, hO⟩
    · rintro T H ⟨hT, hO⟩
      refine dA hT ?_
      clear hT
      refine aG (aF ?_)
      refine bF h1 (fun h1 => ?_) (fun h1 => ?_)
      · refine bT aD 1 [(2, (aE false))] ?_
        refine bI ?_
        obtain rfl := oI h1
        obtain rfl : _ = rr0 := ho0
        replace h0 : some false = some r := h0
        obtain rfl := oI h0
        exact aG (aQ (bK (aQ (aQ (bK (aQ (Q_r hO)))))))
      refine bG ?_
      refine bE [(0, (eL aH l0)), (3, (eI i3))] ?_
      refine aP ?_
      refine aT aD 2 [] [(40, (aE (decide (i3 = (0 : Int)))))] ?_
      refine bF h1 (fun h1 => ?_) (fun h1 => ?_)
      · refine eP 1 ?_
        exact aG (aS (bP (aF (⟨rfl, .eq (by kernel_rfl), hO, h1⟩))))
      refine bG ?_
      refine bE [(0, (eL aH l0)), (3, (eI i3))] ?_
      refine aP ?_
      refine eC (eE [46, 51, 52]) aD 13 ?_
      obtain ⟨c22, h1⟩ := aR h1
      obtain ⟨c23, h1⟩ := aR h1
      refine cB 11 [0 ≤ (wR (i3 - (1 : Int))) ∧ (wR (i3 - (1 : Int))) < (lN l0), 0 ≤ i3 ∧ i3 < (lN l0)] ⟨c22, c23, trivial⟩ ?_
      obtain ⟨x24, hx25, h1⟩ := aZ h1
      refine DM (zZ ((gD l0 (wR (i3 - (1 : Int)))).Row) ((gD l0 i3).Row) _ hx25) hO ?_
      intro H hO
      refine gG ?_
      refine bU [] [(4, (eI x24))] ?_
      refine aP ?_
      obtain ⟨c27, h1⟩ := aR h1
      obtain ⟨c28, h1⟩ := aR h1
      refine eC (eE [64, 69]) aD 20 ?_
      refine lR (K := fun T H => Has (lift T) [(0, (eL aH l0)), (3, (eI i3)), (72, (aE ((decide ((0 : Int) < x24)) || ((decide (x24 = (0 : Int))) && (decide (((gD l0 i3).At) ≤ ((gD l0 (wR (i3 - (1 : Int)))).At)))))))] ∧ aL ⟨H0, [], []⟩ H []) ?_ ?_
      · refine kR 3 ?_
        refine jR (t := 55) (e := decide ((0 : Int) < x24)) (by kernel_rfl) (fun hg29 => ?_) (fun hg29 => ?_)
        · refine gG ?_
          exact ⟨⟨[(0, (eL aH l0)), (3, (eI i3)), (72, (aE true))], by kernel_rfl, rfl, ⟨aN.refl _, aN.refl _, aN.eq (congrArg aE (BY hg29 rfl).symm), trivial⟩⟩, hO⟩
        refine kR 6 ?_
        refine jR (t := 58) (e := decide (x24 = (0 : Int))) (by kernel_rfl) (fun hg30 => ?_) (fun hg30 => ?_)
        · refine yI (Ds := [0 ≤ (wR (i3 - (1 : Int))) ∧ (wR (i3 - (1 : Int))) < (lN l0), 0 ≤ i3 ∧ i3 < (lN l0)]) (by kernel_rfl) ⟨(c27 (fV hg30 (vW hg29))), (c28 (fV hg30 (vW hg29))), trivial⟩ ?_
          exact ⟨⟨[(0, (eL aH l0)), (3, (eI i3)), (72, (aE (decide (((gD l0 i3).At) ≤ ((gD l0 (wR (i3 - (1 : Int)))).At)))))], by kernel_rfl, rfl, ⟨aN.refl _, aN.refl _, aN.eq (congrArg aE (BY hg29 (fV hg30 rfl)).symm), trivial⟩⟩, hO⟩
        refine gG ?_
        exact ⟨⟨[(0, (eL aH l0)), (3, (eI i3)), (72, (aE false))], by kernel_rfl, rfl, ⟨aN.refl _, aN.refl _, aN.eq (congrArg aE (BY hg29 (fV hg30 rfl)).symm), trivial⟩⟩, hO⟩
      · rintro T H ⟨hT, hO⟩
        refine dA hT ?_
        clear hT
        refine aG (aF ?_)
        refine bF h1 (fun h1 => ?_) (fun h1 => ?_)
        · refine bT aD 1 [(2, (aE false))] ?_
          refine bI ?_
          obtain rfl := oI h1
          obtain rfl : _ = rr0 := ho0
          replace h0 : some false = some r := h0
          obtain rfl := oI h0
          exact aG (bK (aQ (aQ (bK (aQ (Q_r hO))))))
        refine bG ?_
        exact aG (aY (aF (⟨rfl, .eq (by kernel_rfl), hO, h1⟩)))
  refine eP 0 ?_
  obtain rfl := oI h1
  obtain rfl : _ = rr0 := ho0
  replace h0 : sZ l0 = some r := h0
  exact aG (aS (aS (bP (aF (⟨rfl, .eq (by kernel_rfl), hO, h0⟩)))))

theorem xV (f0 : (List aM)) (t1 : Int) (r : Int) (h0 : mP f0 t1 = some r) : dH Try.prog 44 [(eL aX f0), (eI t1)] (eI r) := by
  intro H0
  refine dF Try.func44 ?_
  have hO := aL.start H0
  unfold mP at h0
  refine aT aD 1 [] [] ?_
  refine aT aD 1 [] [(5, (eI (0 : Int)))] ?_
  refine dU (fun T H => ∃ v5 : Int, Has T [(5, (eI v5))] ∧ aL ⟨H0, [], []⟩ H [] ∧ qE v5 = some r) ?_ ?_
  · clear hO h0
    rintro T H ⟨v5, hT, hO, h0⟩
    refine bC hT ?_
    clear hT
    unfold qE at h0
    refine bT aD 2 [(4, (eI v5))] ?_
    refine bI ?_
    obtain rfl := oI h0
    exact aG (Q_r hO)
  refine aT aD 1 [] [(6, (eI (0 : Int)))] ?_
  refine bZ 0 ?_
  refine eZ [(0, (eL aX f0)), (1, (eI t1)), (5, (eI (0 : Int))), (6, (eI (0 : Int)))] ?_
  refine dO (fun T H => ∃ v5 : Int, ∃ i6 : Int, Has T [(0, (eL aX f0)), (1, (eI t1)), (5, (eI v5)), (6, (eI i6))] ∧ aL ⟨H0, [], []⟩ H [] ∧ tM f0 t1 v5 i6 = some r) ?_ ⟨(0 : Int), (0 : Int), .eq (by kernel_rfl), hO, h0⟩
  clear hO h0
  rintro T H ⟨v5, i6, hT, hO, h0⟩
  refine bC hT ?_
  clear hT
  unfold tM at h0
  obtain ⟨rr0, hl0, h0⟩ := aZ h0
  refine cP (by kernel_rfl) (fun (s : Int × Int) T H => Has T [(0, (eL aX f0)), (1, (eI t1)), (5, (eI s.1)), (6, (eI s.2))] ∧ aL ⟨H0, [], []⟩ H []) hl0 ⟨.eq (by kernel_rfl), hO⟩ ?_
  clear hO
  rintro k0 s out1 T H ⟨hT, hO⟩ h1 ho0
  obtain ⟨v5, i6⟩ := s
  replace h1 : jP f0 t1 v5 i6 = some out1 := h1
  try dsimp only at hT
  refine bC hT ?_
  clear hT
  unfold jP at h1
  refine aP ?_
  refine aT aD 4 [] [(10, (aE (decide (i6 < (lN f0)))))] ?_
  refine bF h1 (fun h1 => ?_) (fun h1 => ?_)
  · refine bG ?_
    refine bE [(0, (eL aX f0)), (1, (eI t1)), (5, (eI v5)), (6, (eI i6))] ?_
    refine dU (fun T H => ∃ v5 : Int, Has T [(0, (eL aX f0)), (1, (eI t1)), (5, (eI v5)), (6, (eI i6))] ∧ aL ⟨H0, [], []⟩ H [] ∧ nW f0 t1 v5 i6 = some out1) ?_ ?_
    · clear hO h1
      rintro T H ⟨v5, hT, hO, h1⟩
      refine bC hT ?_
      clear hT
      unfold nW at h1
      refine aW aD 3 ?_
      refine bD ?_
      exact aG (aF (⟨rfl, _, (oI h1).symm, .eq (by kernel_rfl), hO⟩))
    refine bZ 1 ?_
    refine aP ?_
    refine aW aD 7 ?_
    obtain ⟨c2, h1⟩ := aR h1
    refine mH [0 ≤ i6 ∧ i6 < (lN f0)] ⟨c2, trivial⟩ ?_
    refine bU [] [(19, (aE (decide (((gD f0 i6).At) ≤ t1))))] ?_
    refine bF h1 (fun h1 => ?_) (fun h1 => ?_)
    · refine aW aD 8 ?_
      obtain ⟨c4, h1⟩ := aR h1
      refine mH [0 ≤ i6 ∧ i6 < (lN f0)] ⟨c4, trivial⟩ ?_
      exact aG (aY (aF (⟨rfl, _, .eq (by kernel_rfl), hO, h1⟩)))
    refine bG ?_
    exact aG (aY (aF (⟨rfl, _, .eq (by kernel_rfl), hO, h1⟩)))
  refine eP 0 ?_
  obtain rfl := oI h1
  obtain rfl : _ = rr0 := ho0
  replace h0 : qE v5 = some r := h0
  exact aG (aS (aS (bP (aF (⟨rfl, _, .eq (by kernel_rfl), hO, h0⟩)))))

theorem LO (f0 : (List aM)) (r : Int) (h0 : sB f0 = some r) : dH Try.prog 65 [(eL aX f0)] (eI r) := by
  intro H0
  refine dF Try.func65 ?_
  have hO := aL.start H0
  unfold sB at h0
  refine aT aD 1 [] [] ?_
  refine aP ?_
  refine aP ?_
  refine aW aD 3 ?_
  refine bV 1 ?_
  obtain ⟨x1, hx2, h0⟩ := aZ h0
  refine dL (FI f0 _ hx2) hO ?_
  intro H hO
  refine bD ?_
  refine bU [] [(7, (aE (!x1)))] ?_
  refine bF h0 (fun h0 => ?_) (fun h0 => ?_)
  · refine bT aD 1 [(2, (eI (0 : Int)))] ?_
    refine bI ?_
    obtain rfl := oI h0
    exact aG (aQ (Q_r hO))
  refine bG ?_
  refine bE [(0, (eL aX f0))] ?_
  refine aP ?_
  refine aW aD 3 ?_
  refine bV 1 ?_
  obtain ⟨x5, hx6, h0⟩ := aZ h0
  refine dL (xV f0 (-1 : Int) _ hx6) hO ?_
  intro H hO
  refine bD ?_
  refine bU [] [(3, (eI x5))] ?_
  refine dU (fun T H => ∃ m3 : Int, Has T [(3, (eI m3))] ∧ aL ⟨H0, [], []⟩ H [] ∧ qN m3 = some r) ?_ ?_
  · clear hO h0
    rintro T H ⟨m3, hT, hO, h0⟩
    refine bC hT ?_
    clear hT
    unfold qN at h0
    refine bT aD 2 [(2, (eI m3))] ?_
    refine bI ?_
    obtain rfl := oI h0
    exact aG (Q_r hO)
  refine aT aD 1 [] [(4, (eI (0 : Int)))] ?_
  refine bZ 0 ?_
  refine eZ [(0, (eL aX f0)), (3, (eI x5)), (4, (eI (0 : Int)))] ?_
  refine dO (fun T H => ∃ m3 : Int, ∃ i4 : Int, Has T [(0, (eL aX f0)), (3, (eI m3)), (4, (eI i4))] ∧ aL ⟨H0, [], []⟩ H [] ∧ uA f0 m3 i4 = some r) ?_ ⟨x5, (0 : Int), .eq (by kernel_rfl), hO, h0⟩
  clear hO h0
  rintro T H ⟨m3, i4, hT, hO, h0⟩
  refine bC hT ?_
  clear hT
  unfold uA at h0
  obtain ⟨rr0, hl0, h0⟩ := aZ h0
  refine cP (by kernel_rfl) (fun (s : Int × Int) T H => Has T [(0, (eL aX f0)), (3, (eI s.1)), (4, (eI s.2))] ∧ aL ⟨H0, [], []⟩ H []) hl0 ⟨.eq (by kernel_rfl), hO⟩ ?_
  clear hO
  rintro k0 s out1 T H ⟨hT, hO⟩ h1 ho0
  obtain ⟨m3, i4⟩ := s
  replace h1 : lO f0 m3 i4 = some out1 := h1
  try dsimp only at hT
  refine bC hT ?_
  clear hT
  unfold lO at h1
  refine aP ?_
  refine aT aD 4 [] [(13, (aE (decide (i4 < (lN f0)))))] ?_
  refine bF h1 (fun h1 => ?_) (fun h1 => ?_)
  · refine bG ?_
    refine bE [(0, (eL aX f0)), (3, (eI m3)), (4, (eI i4))] ?_
    refine dU (fun T H => ∃ m3 : Int, Has T [(0, (eL aX f0)), (3, (eI m3)), (4, (eI i4))] ∧ aL ⟨H0, [], []⟩ H [] ∧ qT f0 m3 i4 = some out1) ?_ ?_
    · clear hO h1
      rintro T H ⟨m3, hT, hO, h1⟩
      refine bC hT ?_
      clear hT
      unfold qT at h1
      refine aW aD 3 ?_
      refine bD ?_
      exact aG (aF (⟨rfl, _, (oI h1).symm, .eq (by kernel_rfl), hO⟩))
    refine bZ 1 ?_
    refine aP ?_
    refine aW aD 9 ?_
    obtain ⟨c9, h1⟩ := aR h1
    refine nR 6 [0 ≤ i4 ∧ i4 < (lN f0)] ⟨c9, trivial⟩ ?_
    obtain ⟨x10, hx11, h1⟩ := aZ h1
    refine dL (xV f0 ((gD f0 i4).At) _ hx11) hO ?_
    intro H hO
    refine bD ?_
    refine bU [] [(24, (aE (decide (x10 < m3))))] ?_
    refine bF h1 (fun h1 => ?_) (fun h1 => ?_)
    · refine aW aD 8 ?_
      obtain ⟨c14, h1⟩ := aR h1
      refine nR 6 [0 ≤ i4 ∧ i4 < (lN f0)] ⟨c14, trivial⟩ ?_
      obtain ⟨x15, hx16, h1⟩ := aZ h1
      refine dL (xV f0 ((gD f0 i4).At) _ hx16) hO ?_
      intro H hO
      refine bD ?_
      exact aG (aY (aF (⟨rfl, _, .eq (by kernel_rfl), hO, h1⟩)))
    refine bG ?_
    exact aG (aY (aF (⟨rfl, _, .eq (by kernel_rfl), hO, h1⟩)))
  refine eP 0 ?_
  obtain rfl := oI h1
  obtain rfl : _ = rr0 := ho0
  replace h0 : qN m3 = some r := h0
  exact aG (aS (aS (bP (aF (⟨rfl, _, .eq (by kernel_rfl), hO, h0⟩)))))

theorem LW (l0 : (List aI)) (r : Bool) (h0 : rV l0 = some r) : dH Try.prog 35 [(eL aH l0)] (aE r) := by
  intro H0
  refine dF Try.func35 ?_
  have hO := aL.start H0
  unfold rV at h0
  refine aT aD 1 [] [] ?_
  refine aP ?_
  refine aP ?_
  refine aW aD 3 ?_
  refine bV 1 ?_
  obtain ⟨x1, hx2, h0⟩ := aZ h0
  refine dL (FN l0 _ hx2) hO ?_
  intro H hO
  refine bD ?_
  refine bU [] [(7, (aE (!x1)))] ?_
  refine bF h0 (fun h0 => ?_) (fun h0 => ?_)
  · refine bT aD 1 [(2, (aE false))] ?_
    refine bI ?_
    obtain rfl := oI h0
    exact aG (aQ (Q_r hO))
  refine bG ?_
  refine bE [(0, (eL aH l0))] ?_
  refine aP ?_
  refine aW aD 3 ?_
  refine bV 1 ?_
  obtain ⟨x5, hx6, h0⟩ := aZ h0
  refine dL (zF l0 _ hx6) hO ?_
  intro H hO
  refine bD ?_
  refine bU [] [(3, (eL (eL aC) x5))] ?_
  refine dU (fun T H => Has T [] ∧ aL ⟨H0, [], []⟩ H [] ∧ tR  = some r) ?_ ?_
  · clear hO h0
    rintro T H ⟨hT, hO, h0⟩
    refine bC hT ?_
    clear hT
    unfold tR at h0
    refine bT aD 1 [(2, (aE true))] ?_
    refine bI ?_
    obtain rfl := oI h0
    exact aG (Q_r hO)
  refine aT aD 1 [] [(4, (eI (0 : Int)))] ?_
  refine bZ 0 ?_
  refine eZ [(0, (eL aH l0)), (3, (eL (eL aC) x5)), (4, (eI (0 : Int)))] ?_
  refine dO (fun T H => ∃ bL : (List (List aB)), ∃ i4 : Int, Has T [(0, (eL aH l0)), (3, (eL (eL aC) bL)), (4, (eI i4))] ∧ aL ⟨H0, [], []⟩ H [] ∧ tO l0 bL i4 = some r) ?_ ⟨x5, (0 : Int), .eq (by kernel_rfl), hO, h0⟩
  clear hO h0
  rintro T H ⟨bL, i4, hT, hO, h0⟩
  refine bC hT ?_
  clear hT
  unfold tO at h0
  obtain ⟨rr0, hl0, h0⟩ := aZ h0
  refine cP (by kernel_rfl) (fun (s : Int) T H => Has T [(0, (eL aH l0)), (3, (eL (eL aC) bL)), (4, (eI s))] ∧ aL ⟨H0, [], []⟩ H []) hl0 ⟨.eq (by kernel_rfl), hO⟩ ?_
  clear hO
  rintro k0 s out1 T H ⟨hT, hO⟩ h1 ho0
  obtain ⟨i4, rfl⟩ : ∃ x, x = s := ⟨_, rfl⟩
  replace h1 : mY l0 bL i4 = some out1 := h1
  refine bC hT ?_
  clear hT
  unfold mY at h1
  refine aP ?_
  refine aT aD 4 [] [(13, (aE (decide (i4 < (lN bL)))))] ?_
  refine bF h1 (fun h1 => ?_) (fun h1 => ?_)
  · refine bG ?_
    refine bE [(0, (eL aH l0)), (3, (eL (eL aC) bL)), (4, (eI i4))] ?_
    refine aP ?_
    refine bZ 1 ?_
    refine aP ?_
    refine aW aD 8 ?_
    obtain ⟨c9, h1⟩ := aR h1
    refine nR 5 [0 ≤ i4 ∧ i4 < (lN bL)] ⟨c9, trivial⟩ ?_
    obtain ⟨x10, hx11, h1⟩ := aZ h1
    refine dL (yA l0 (gD bL i4) _ hx11) hO ?_
    intro H hO
    obtain ⟨x13, hx14, h1⟩ := aZ h1
    refine dL (LO x10 _ hx14) hO ?_
    intro H hO
    refine bD ?_
    refine bU [] [(23, (aE (decide (x13 < (0 : Int)))))] ?_
    refine bF h1 (fun h1 => ?_) (fun h1 => ?_)
    · refine bT aD 1 [(2, (aE false))] ?_
      refine bI ?_
      obtain rfl := oI h1
      obtain rfl : _ = rr0 := ho0
      replace h0 : some false = some r := h0
      obtain rfl := oI h0
      exact aG (bK (aQ (aQ (bK (aQ (Q_r hO))))))
    refine bG ?_
    refine fZ [(0, (eL aH l0)), (3, (eL (eL aC) bL)), (4, (eI i4))] ?_
    refine aG (aY (aF (?_)))
    refine aW aD 3 ?_
    refine bD ?_
    exact aG (aF (⟨rfl, _, (oI h1).symm, .eq (by kernel_rfl), hO⟩))
  refine eP 0 ?_
  obtain rfl := oI h1
  obtain rfl : _ = rr0 := ho0
  replace h0 : tR  = some r := h0
  exact aG (aS (aS (bP (aF (⟨rfl, .eq (by kernel_rfl), hO, h0⟩)))))

theorem CR (l0 : (List aI)) (n1 : Int) (r : Int) (h0 : pF l0 n1 = some r) : dH Try.prog 48 [(eL aH l0), (eI n1)] (eI r) := by
  intro H0
  refine dF Try.func48 ?_
  have hO := aL.start H0
  unfold pF at h0
  refine aT aD 1 [] [] ?_
  refine aP ?_
  refine aP ?_
  refine aW aD 11 ?_
  refine bV 1 ?_
  obtain ⟨x1, hx2, h0⟩ := aZ h0
  refine dL (FN l0 _ hx2) hO ?_
  intro H hO
  refine bD ?_
  refine bU [1] [(15, (aE (((!x1) || (decide (n1 < (1 : Int)))) || (decide ((64 : Int) < n1)))))] ?_
  refine bF h0 (fun h0 => ?_) (fun h0 => ?_)
  · refine bT aD 1 [(4, (eI (2 : Int)))] ?_
    refine bI ?_
    obtain rfl := oI h0
    exact aG (aQ (Q_r hO))
  refine bG ?_
  refine bE [(0, (eL aH l0))] ?_
  refine aP ?_
  refine aP ?_
  refine aW aD 3 ?_
  refine bV 1 ?_
  obtain ⟨x5, hx6, h0⟩ := aZ h0
  refine dL (LW l0 _ hx6) hO ?_
  intro H hO
  refine bD ?_
  refine bE [(18, (aE (!x5)))] ?_
  refine bF h0 (fun h0 => ?_) (fun h0 => ?_)
  · refine bT aD 1 [(4, (eI (20 : Int)))] ?_
    refine bI ?_
    obtain rfl := oI h0
    exact aG (aQ (Q_r hO))
  refine bG ?_
  refine bE [] ?_
  refine bT aD 1 [(4, (eI (0 : Int)))] ?_
  refine bI ?_
  obtain rfl := oI h0
  exact aG (Q_r hO)

theorem PA (l0 : (List Int)) (t1 : Int) (r : (List Int)) (h0 : tJ l0 t1 = some r) : dH Try.prog 37 [(eL (eI) l0), (eI t1)] (eL (eI) r) := by
  intro H0
  refine dF Try.func37 ?_
  have hO := aL.start H0
  unfold tJ at h0
  refine aT aD 1 [] [] ?_
  refine aP ?_
  refine aW aD 2 ?_
  refine nA (xs := []) (k := 1) (by kernel_rfl) (by kernel_rfl) ?_
  refine bD ?_
  refine bU [] [(5, (.sl true 0 (fun _ => .bad)))] ?_
  refine aT aD 1 [] [(6, (aE false))] ?_
  refine dU (fun T H => ∃ out5 : List Int, ∃ put6 : Bool, ∃ lo1 : Nat, Has T [(1, (eI t1)), (5, (.msl 1 lo1 0 (List.length out5))), (6, (aE put6))] ∧ aL ⟨H0, [], []⟩ H [(lo1, 1, List.map (eI) out5)] ∧ pG t1 out5 put6 = some r) ?_ ?_
  · clear hO h0
    rintro T H ⟨out5, put6, lo1, hT, hO, h0⟩
    refine bC hT ?_
    clear hT
    unfold pG at h0
    refine dU (fun T H => ∃ out5 : List Int, ∃ lo2 : Nat, Has T [(5, (.msl 1 lo2 0 (List.length out5)))] ∧ aL ⟨H0, [], []⟩ H [(lo2, 1, List.map (eI) out5)] ∧ pE out5 = some r) ?_ ?_
    · clear hO h0
      rintro T H ⟨out5, lo2, hT, hO, h0⟩
      refine bC hT ?_
      clear hT
      unfold pE at h0
      refine bT aD 2 [(4, (.msl 1 lo2 0 (List.length out5)))] ?_
      refine bI ?_
      refine fZ [(4, (.msl 1 lo2 0 (List.length out5)))] ?_
      refine tK (en := (eI)) out5 0 0 4 1 lo2 (List.length out5) hO (by kernel_rfl) (by kernel_rfl) (by kernel_rfl) (L' := []) (by kernel_rfl) ?_
      intro H3 hO
      obtain rfl := oI h0
      exact aG (Q_r hO)
    refine aT aD 2 [6] [(44, (aE (!put6)))] ?_
    refine bF h0 (fun h0 => ?_) (fun h0 => ?_)
    · refine aW aD 5 ?_
      refine bV 2 ?_
      refine nA (xs := [(eI t1)]) (k := 1) (by kernel_rfl) (by kernel_rfl) ?_
      obtain ⟨c6, h0⟩ := aR h0
      refine sH (e := (eI)) out5 ([t1]) 0 lo1 1 8 (iO [(eI t1)]) (fun lo5 => [(lo5, 1, List.map (eI) (out5 ++ ([t1])))]) (by kernel_rfl) (by kernel_rfl) hO (by kernel_rfl) (by kernel_rfl) c6 (fun _ => by kernel_rfl) ?_
      intro lo5 H hO
      refine bD ?_
      exact aG (aF (⟨rfl, _, _, .eq (by kernel_rfl), hO, h0⟩))
    refine bG ?_
    exact aG (aF (⟨rfl, _, _, .eq (by kernel_rfl), hO, h0⟩))
  refine aT aD 1 [] [(7, (eI (0 : Int)))] ?_
  refine bZ 0 ?_
  refine eZ [(0, (eL (eI) l0)), (1, (eI t1)), (5, (.sl true 0 (fun _ => .bad))), (6, (aE false)), (7, (eI (0 : Int)))] ?_
  refine BK (el := (fun _ => .bad)) 2 5 1 hO (by kernel_rfl) ?_
  intro lo20 H21 hO
  refine dO (fun T H => ∃ out5 : List Int, ∃ put6 : Bool, ∃ i7 : Int, ∃ lo8 : Nat, Has T [(0, (eL (eI) l0)), (1, (eI t1)), (5, (.msl 1 lo8 0 (List.length out5))), (6, (aE put6)), (7, (eI i7))] ∧ aL ⟨H0, [], []⟩ H [(lo8, 1, List.map (eI) out5)] ∧ uZ l0 t1 out5 put6 i7 = some r) ?_ ⟨([] : List Int), false, (0 : Int), lo20, .eq (by kernel_rfl), hO, h0⟩
  clear hO h0
  rintro T H ⟨out5, put6, i7, lo8, hT, hO, h0⟩
  refine bC hT ?_
  clear hT
  unfold uZ at h0
  obtain ⟨rr0, hl0, h0⟩ := aZ h0
  refine cP (by kernel_rfl) (fun (s : List Int × Bool × Int) T H => ∃ lo8 : Nat, Has T [(0, (eL (eI) l0)), (1, (eI t1)), (5, (.msl 1 lo8 0 (List.length s.1))), (6, (aE s.2.1)), (7, (eI s.2.2))] ∧ aL ⟨H0, [], []⟩ H [(lo8, 1, List.map (eI) s.1)]) hl0 ⟨lo8, .eq (by kernel_rfl), hO⟩ ?_
  clear hO
  rintro k0 s out1 T H ⟨lo8, hT, hO⟩ h1 ho0
  obtain ⟨out5, put6, i7⟩ := s
  replace h1 : jC l0 t1 out5 put6 i7 = some out1 := h1
  try dsimp only at hT
  refine bC hT ?_
  clear hT
  unfold jC at h1
  refine aP ?_
  refine aT aD 4 [] [(12, (aE (decide (i7 < (lN l0)))))] ?_
  refine bF h1 (fun h1 => ?_) (fun h1 => ?_)
  · refine bG ?_
    refine bE [(0, (eL (eI) l0)), (1, (eI t1)), (5, (.msl 1 lo8 0 (List.length out5))), (6, (aE put6)), (7, (eI i7))] ?_
    refine aP ?_
    refine bZ 1 ?_
    refine aP ?_
    refine aP ?_
    refine aW aD 6 ?_
    obtain ⟨c10, h1⟩ := aR h1
    refine mH [0 ≤ i7 ∧ i7 < (lN l0)] ⟨c10, trivial⟩ ?_
    refine bU [] [(20, (aE (decide ((gD l0 i7) = t1))))] ?_
    refine bF h1 (fun h1 => ?_) (fun h1 => ?_)
    · refine aP ?_
      refine aW aD 2 ?_
      refine bD ?_
      refine fZ [(4, (eL (eI) l0))] ?_
      replace hO := hO.pick (L' := []) [] (by decide) (by kernel_rfl)
      refine aG (aF (?_))
      refine bI ?_
      obtain rfl := oI h1
      obtain rfl : _ = rr0 := ho0
      replace h0 : some l0 = some r := h0
      obtain rfl := oI h0
      exact aG (aQ (bK (aQ (aQ (bK (aQ (Q_r hO)))))))
    refine bG ?_
    refine bE [(0, (eL (eI) l0)), (1, (eI t1)), (5, (.msl 1 lo8 0 (List.length out5))), (6, (aE put6)), (7, (eI i7))] ?_
    refine dU (fun T H => ∃ out5 : List Int, ∃ put6 : Bool, ∃ lo12 : Nat, Has T [(0, (eL (eI) l0)), (1, (eI t1)), (5, (.msl 1 lo12 0 (List.length out5))), (6, (aE put6)), (7, (eI i7))] ∧ aL ⟨H0, [], []⟩ H [(lo12, 1, List.map (eI) out5)] ∧ rJ l0 t1 out5 put6 i7 = some out1) ?_ ?_
    · clear hO h1
      rintro T H ⟨out5, put6, lo12, hT, hO, h1⟩
      refine bC hT ?_
      clear hT
      unfold rJ at h1
      refine aW aD 8 ?_
      obtain ⟨c13, h1⟩ := aR h1
      refine nR 5 [0 ≤ i7 ∧ i7 < (lN l0)] ⟨c13, trivial⟩ ?_
      refine nA (xs := [(eI (gD l0 i7))]) (k := 1) (by kernel_rfl) (by kernel_rfl) ?_
      obtain ⟨c15, h1⟩ := aR h1
      refine sH (e := (eI)) out5 ([gD l0 i7]) 0 lo12 1 8 (iO [(eI (gD l0 i7))]) (fun lo14 => [(lo14, 1, List.map (eI) (out5 ++ ([gD l0 i7])))]) (by kernel_rfl) (by kernel_rfl) hO (by kernel_rfl) (by kernel_rfl) c15 (fun _ => by kernel_rfl) ?_
      intro lo14 H hO
      refine bD ?_
      refine fZ [(0, (eL (eI) l0)), (1, (eI t1)), (5, (.msl 1 lo14 0 (List.length (out5 ++ ([gD l0 i7]))))), (6, (aE put6)), (7, (eI i7))] ?_
      refine aG (aY (aF (?_)))
      refine aW aD 3 ?_
      refine bD ?_
      exact aG (aF (⟨rfl, _, (oI h1).symm, _, .eq (by kernel_rfl), hO⟩))
    refine aP ?_
    refine aW aD 10 ?_
    obtain ⟨c16, h1⟩ := aR h1
    refine mH [0 ≤ i7 ∧ i7 < (lN l0)] ⟨c16, trivial⟩ ?_
    refine bU [] [(31, (aE ((decide (t1 < (gD l0 i7))) && (!put6))))] ?_
    refine bF h1 (fun h1 => ?_) (fun h1 => ?_)
    · refine aP ?_
      refine aW aD 5 ?_
      refine bV 2 ?_
      refine nA (xs := [(eI t1)]) (k := 1) (by kernel_rfl) (by kernel_rfl) ?_
      obtain ⟨c19, h1⟩ := aR h1
      refine sH (e := (eI)) out5 ([t1]) 0 lo8 1 8 (iO [(eI t1)]) (fun lo18 => [(lo18, 1, List.map (eI) (out5 ++ ([t1])))]) (by kernel_rfl) (by kernel_rfl) hO (by kernel_rfl) (by kernel_rfl) c19 (fun _ => by kernel_rfl) ?_
      intro lo18 H hO
      refine bD ?_
      refine bU [5, 6, 31] [(5, (.msl 1 lo18 0 (List.length (out5 ++ ([t1])))))] ?_
      refine aW aD 1 ?_
      refine bD ?_
      exact aG (aF (⟨rfl, _, _, _, .eq (by kernel_rfl), hO, h1⟩))
    refine bG ?_
    exact aG (aF (⟨rfl, _, _, _, .eq (by kernel_rfl), hO, h1⟩))
  refine eP 0 ?_
  obtain rfl := oI h1
  obtain rfl : _ = rr0 := ho0
  replace h0 : pG t1 out5 put6 = some r := h0
  exact aG (aS (aS (bP (aF (⟨rfl, _, _, _, .eq (by kernel_rfl), hO, h0⟩)))))

theorem JL (l0 : (List aI)) (r : ((List Int) × Int)) (h0 : qR l0 = some r) : dH Try.prog 22 [(eL aH l0)] (.tup [(eL (eI) r.1), (eI r.2)]) := by
  intro H0
  refine dF Try.func22 ?_
  have hO := aL.start H0
  unfold qR at h0
  refine aT aD 2 [] [] ?_
  refine aP ?_
  refine aP ?_
  refine aW aD 3 ?_
  refine bV 1 ?_
  obtain ⟨x1, hx2, h0⟩ := aZ h0
  refine dL (CR l0 (1 : Int) _ hx2) hO ?_
  intro H hO
  refine bD ?_
  refine bU [] [(4, (eI x1))] ?_
  refine aT aD 2 [] [(10, (aE (!decide (x1 = (0 : Int)))))] ?_
  refine bF h0 (fun h0 => ?_) (fun h0 => ?_)
  · refine bT aD 3 [(2, (.sl true 0 (fun _ => .bad))), (3, (eI x1))] ?_
    refine bI ?_
    refine dA (l := [(2, (eL (eI) ([]))), (3, (eI x1))]) ⟨[(2, (.sl true 0 (fun _ => .bad))), (3, (eI x1))], by kernel_rfl, rfl, ⟨kY, aN.refl _, trivial⟩⟩ ?_
    obtain rfl := oI h0
    exact aG (aQ (Q_r hO))
  refine bG ?_
  refine bE [(0, (eL aH l0))] ?_
  refine aP ?_
  refine aW aD 2 ?_
  refine nA (xs := []) (k := 1) (by kernel_rfl) (by kernel_rfl) ?_
  refine bD ?_
  refine bU [] [(5, (.sl true 0 (fun _ => .bad)))] ?_
  refine dU (fun T H => ∃ out5 : (List Int), Has T [(5, (eL (eI) out5))] ∧ aL ⟨H0, [], []⟩ H [] ∧ sP out5 = some r) ?_ ?_
  · clear hO h0
    rintro T H ⟨out5, hT, hO, h0⟩
    refine bC hT ?_
    clear hT
    unfold sP at h0
    refine bT aD 3 [(2, (eL (eI) out5)), (3, (eI (0 : Int)))] ?_
    refine bI ?_
    obtain rfl := oI h0
    exact aG (Q_r hO)
  refine aT aD 1 [] [(6, (eI (0 : Int)))] ?_
  refine bZ 0 ?_
  refine bC (l := [(0, (eL aH l0)), (5, (eL (eI) ([]))), (6, (eI (0 : Int)))]) ⟨[(0, (eL aH l0)), (5, (.sl true 0 (fun _ => .bad))), (6, (eI (0 : Int)))], by kernel_rfl, rfl, ⟨aN.refl _, kY, aN.refl _, trivial⟩⟩ ?_
  refine dO (fun T H => ∃ out5 : (List Int), ∃ i6 : Int, Has T [(0, (eL aH l0)), (5, (eL (eI) out5)), (6, (eI i6))] ∧ aL ⟨H0, [], []⟩ H [] ∧ sR l0 out5 i6 = some r) ?_ ⟨[], (0 : Int), .eq (by kernel_rfl), hO, h0⟩
  clear hO h0
  rintro T H ⟨out5, i6, hT, hO, h0⟩
  refine bC hT ?_
  clear hT
  unfold sR at h0
  obtain ⟨rr0, hl0, h0⟩ := aZ h0
  refine cP (by kernel_rfl) (fun (s : (List Int) × Int) T H => Has T [(0, (eL aH l0)), (5, (eL (eI) s.1)), (6, (eI s.2))] ∧ aL ⟨H0, [], []⟩ H []) hl0 ⟨.eq (by kernel_rfl), hO⟩ ?_
  clear hO
  rintro k0 s out1 T H ⟨hT, hO⟩ h1 ho0
  obtain ⟨out5, i6⟩ := s
  replace h1 : kV l0 out5 i6 = some out1 := h1
  try dsimp only at hT
  refine bC hT ?_
  clear hT
  unfold kV at h1
  refine aP ?_
  refine aT aD 4 [] [(16, (aE (decide (i6 < (lN l0)))))] ?_
  refine bF h1 (fun h1 => ?_) (fun h1 => ?_)
  · refine bG ?_
    refine bE [(0, (eL aH l0)), (5, (eL (eI) out5)), (6, (eI i6))] ?_
    refine dU (fun T H => ∃ out5 : (List Int), Has T [(0, (eL aH l0)), (5, (eL (eI) out5)), (6, (eI i6))] ∧ aL ⟨H0, [], []⟩ H [] ∧ nJ l0 out5 i6 = some out1) ?_ ?_
    · clear hO h1
      rintro T H ⟨out5, hT, hO, h1⟩
      refine bC hT ?_
      clear hT
      unfold nJ at h1
      refine aW aD 3 ?_
      refine bD ?_
      exact aG (aF (⟨rfl, _, (oI h1).symm, .eq (by kernel_rfl), hO⟩))
    refine bZ 1 ?_
    refine aP ?_
    refine aW aD 14 ?_
    obtain ⟨c7, h1⟩ := aR h1
    obtain ⟨c8, h1⟩ := aR h1
    refine mH [0 ≤ i6 ∧ i6 < (lN l0), (((decide ((0 : Int) < ((gD l0 i6).Net)))) = true → 0 ≤ i6 ∧ i6 < (lN l0))] ⟨c7, c8, trivial⟩ ?_
    refine bU [] [(32, (aE ((decide ((0 : Int) < ((gD l0 i6).Net))) && (decide ((0 : Int) ≤ ((gD l0 i6).At))))))] ?_
    refine bF h1 (fun h1 => ?_) (fun h1 => ?_)
    · refine aW aD 8 ?_
      obtain ⟨c10, h1⟩ := aR h1
      refine nR 6 [0 ≤ i6 ∧ i6 < (lN l0)] ⟨c10, trivial⟩ ?_
      obtain ⟨x11, hx12, h1⟩ := aZ h1
      refine dL (PA out5 ((gD l0 i6).At) _ hx12) hO ?_
      intro H hO
      refine bD ?_
      exact aG (aY (aF (⟨rfl, _, .eq (by kernel_rfl), hO, h1⟩)))
    refine bG ?_
    exact aG (aY (aF (⟨rfl, _, .eq (by kernel_rfl), hO, h1⟩)))
  refine eP 0 ?_
  obtain rfl := oI h1
  obtain rfl : _ = rr0 := ho0
  replace h0 : sP out5 = some r := h0
  exact aG (aS (aS (bP (aF (⟨rfl, _, .eq (by kernel_rfl), hO, h0⟩)))))

theorem OJ (t0 : Int) (r : Bool) (h0 : wL t0 = some r) : dH Try.prog 36 [(eI t0)] (aE r) := by
  intro H0
  refine dF Try.func36 ?_
  have hO := aL.start H0
  unfold wL at h0
  refine aT aD 1 [] [] ?_
  refine bT aD 7 [(2, (aE ((decide ((0 : Int) ≤ t0)) && (decide (t0 ≤ (1125899906842624 : Int))))))] ?_
  refine bI ?_
  obtain rfl := oI h0
  exact aG (Q_r hO)

end Go.Abs
namespace Go.Abs
open Go Go.RowKit Go.Proofs
theorem MB (l0 : (List aI)) (n1 : Int) (cD : Int) (r : ((List aO) × Int)) (h0 : rN l0 n1 cD = some r) : dH Try.prog 26 [(eL aH l0), (eI n1), (eI cD)] (.tup [(eL aV r.1), (eI r.2)]) := by
  intro H0
  refine dF Try.func26 ?_
  have hO := aL.start H0
  unfold rN at h0
  refine aT aD 2 [] [] ?_
  refine aP ?_
  refine aP ?_
  refine aW aD 4 ?_
  refine bV 2 ?_
  obtain ⟨x1, hx2, h0⟩ := aZ h0
  refine dL (CR l0 n1 _ hx2) hO ?_
  intro H hO
  refine bD ?_
  refine bU [] [(8, (eI x1))] ?_
  refine aT aD 2 [] [(23, (aE (!decide (x1 = (0 : Int)))))] ?_
  refine bF h0 (fun h0 => ?_) (fun h0 => ?_)
  · refine bT aD 3 [(6, (.sl true 0 (fun _ => .bad))), (7, (eI x1))] ?_
    refine bI ?_
    refine dA (l := [(6, (eL aV ([]))), (7, (eI x1))]) ⟨[(6, (.sl true 0 (fun _ => .bad))), (7, (eI x1))], by kernel_rfl, rfl, ⟨kY, aN.refl _, trivial⟩⟩ ?_
    obtain rfl := oI h0
    exact aG (aQ (Q_r hO))
  refine bG ?_
  refine bE [(0, (eL aH l0)), (1, (eI n1)), (2, (eI cD))] ?_
  refine aP ?_
  refine aP ?_
  refine aW aD 3 ?_
  refine bV 1 ?_
  obtain ⟨x5, hx6, h0⟩ := aZ h0
  refine dL (OJ cD _ hx6) hO ?_
  intro H hO
  refine bD ?_
  refine bU [] [(27, (aE (!x5)))] ?_
  refine bF h0 (fun h0 => ?_) (fun h0 => ?_)
  · refine bT aD 2 [(6, (.sl true 0 (fun _ => .bad))), (7, (eI (13 : Int)))] ?_
    refine bI ?_
    refine dA (l := [(6, (eL aV ([]))), (7, (eI (13 : Int)))]) ⟨[(6, (.sl true 0 (fun _ => .bad))), (7, (eI (13 : Int)))], by kernel_rfl, rfl, ⟨kY, aN.refl _, trivial⟩⟩ ?_
    obtain rfl := oI h0
    exact aG (aQ (Q_r hO))
  refine bG ?_
  refine bE [(0, (eL aH l0)), (1, (eI n1)), (2, (eI cD))] ?_
  refine aP ?_
  refine aW aD 7 ?_
  refine bV 1 ?_
  obtain ⟨x9, hx10, h0⟩ := aZ h0
  refine dL (JL l0 _ hx10) hO ?_
  intro H hO
  refine bD ?_
  refine bU [] [(9, (eL (eI) x9.1))] ?_
  refine aP ?_
  refine aW aD 3 ?_
  refine bV 1 ?_
  obtain ⟨x12, hx13, h0⟩ := aZ h0
  refine dL (zF l0 _ hx13) hO ?_
  intro H hO
  refine bD ?_
  refine bU [] [(11, (eL (eL aC) x12))] ?_
  refine aP ?_
  refine aW aD 2 ?_
  refine nA (xs := []) (k := 3) (by kernel_rfl) (by kernel_rfl) ?_
  refine bD ?_
  refine bU [] [(12, (.sl true 0 (fun _ => .bad)))] ?_
  refine dU (fun T H => ∃ bQ : List aO, ∃ lo15 : Nat, Has T [(12, (.msl 3 lo15 0 (List.length bQ)))] ∧ aL ⟨H0, [], []⟩ H [(lo15, 3, List.map aV bQ)] ∧ qH bQ = some r) ?_ ?_
  · clear hO h0
    rintro T H ⟨bQ, lo15, hT, hO, h0⟩
    refine bC hT ?_
    clear hT
    unfold qH at h0
    refine aP ?_
    refine aT aD 3 [] [(144, (aE (decide ((1024 : Int) < (lN bQ)))))] ?_
    refine bF h0 (fun h0 => ?_) (fun h0 => ?_)
    · refine aP ?_
      refine aW aD 2 ?_
      refine bD ?_
      refine fZ [(6, (.sl true 0 (fun _ => .bad))), (7, (eI (7 : Int)))] ?_
      replace hO := hO.pick (L' := []) [] (by decide) (by kernel_rfl)
      refine aG (aF (?_))
      refine bI ?_
      refine dA (l := [(6, (eL aV ([]))), (7, (eI (7 : Int)))]) ⟨[(6, (.sl true 0 (fun _ => .bad))), (7, (eI (7 : Int)))], by kernel_rfl, rfl, ⟨kY, aN.refl _, trivial⟩⟩ ?_
      obtain rfl := oI h0
      exact aG (aQ (Q_r hO))
    refine bG ?_
    refine bE [(12, (.msl 3 lo15 0 (List.length bQ)))] ?_
    refine bT aD 3 [(6, (.msl 3 lo15 0 (List.length bQ))), (7, (eI (0 : Int)))] ?_
    refine bI ?_
    refine fZ [(6, (.msl 3 lo15 0 (List.length bQ))), (7, (eI (0 : Int)))] ?_
    refine tK (en := aV) bQ 0 0 6 3 lo15 (List.length bQ) hO (by kernel_rfl) (by kernel_rfl) (by kernel_rfl) (L' := []) (by kernel_rfl) ?_
    intro H17 hO
    obtain rfl := oI h0
    exact aG (Q_r hO)
  refine aT aD 1 [] [(13, (eI (0 : Int)))] ?_
  refine bZ 0 ?_
  refine eZ [(0, (eL aH l0)), (1, (eI n1)), (2, (eI cD)), (9, (eL (eI) x9.1)), (11, (eL (eL aC) x12)), (12, (.sl true 0 (fun _ => .bad))), (13, (eI (0 : Int)))] ?_
  refine BK (el := (fun _ => .bad)) 5 12 3 hO (by kernel_rfl) ?_
  intro lo66 H67 hO
  refine dO (fun T H => ∃ all9 : (List Int), ∃ cI : (List (List aB)), ∃ bQ : List aO, ∃ i13 : Int, ∃ lo19 : Nat, Has T [(0, (eL aH l0)), (1, (eI n1)), (2, (eI cD)), (9, (eL (eI) all9)), (11, (eL (eL aC) cI)), (12, (.msl 3 lo19 0 (List.length bQ))), (13, (eI i13))] ∧ aL ⟨H0, [], []⟩ H [(lo19, 3, List.map aV bQ)] ∧ tW l0 n1 cD all9 cI bQ i13 = some r) ?_ ⟨x9.1, x12, ([] : List aO), (0 : Int), lo66, .eq (by kernel_rfl), hO, h0⟩
  clear hO h0
  rintro T H ⟨all9, cI, bQ, i13, lo19, hT, hO, h0⟩
  refine bC hT ?_
  clear hT
  unfold tW at h0
  obtain ⟨rr0, hl0, h0⟩ := aZ h0
  refine cP (by kernel_rfl) (fun (s : List aO × Int) T H => ∃ lo19 : Nat, Has T [(0, (eL aH l0)), (1, (eI n1)), (2, (eI cD)), (9, (eL (eI) all9)), (11, (eL (eL aC) cI)), (12, (.msl 3 lo19 0 (List.length s.1))), (13, (eI s.2))] ∧ aL ⟨H0, [], []⟩ H [(lo19, 3, List.map aV s.1)]) hl0 ⟨lo19, .eq (by kernel_rfl), hO⟩ ?_
  clear hO
  rintro k0 s out1 T H ⟨lo19, hT, hO⟩ h1 ho0
  obtain ⟨bQ, i13⟩ := s
  replace h1 : jT l0 n1 cD all9 cI bQ i13 = some out1 := h1
  try dsimp only at hT
  refine bC hT ?_
  clear hT
  unfold jT at h1
  refine aP ?_
  refine aT aD 6 [] [(41, (aE (decide ((wR (i13 + n1)) ≤ (lN all9)))))] ?_
  refine bF h1 (fun h1 => ?_) (fun h1 => ?_)
  · refine bG ?_
    refine bE [(0, (eL aH l0)), (1, (eI n1)), (2, (eI cD)), (9, (eL (eI) all9)), (11, (eL (eL aC) cI)), (12, (.msl 3 lo19 0 (List.length bQ))), (13, (eI i13))] ?_
    refine dU (fun T H => ∃ bQ : List aO, ∃ lo21 : Nat, Has T [(0, (eL aH l0)), (1, (eI n1)), (2, (eI cD)), (9, (eL (eI) all9)), (11, (eL (eL aC) cI)), (12, (.msl 3 lo21 0 (List.length bQ))), (13, (eI i13))] ∧ aL ⟨H0, [], []⟩ H [(lo21, 3, List.map aV bQ)] ∧ nY l0 n1 cD all9 cI bQ i13 = some out1) ?_ ?_
    · clear hO h1
      rintro T H ⟨bQ, lo21, hT, hO, h1⟩
      refine bC hT ?_
      clear hT
      unfold nY at h1
      refine aW aD 3 ?_
      refine bD ?_
      exact aG (aF (⟨rfl, _, (oI h1).symm, _, .eq (by kernel_rfl), hO⟩))
    refine bZ 1 ?_
    refine aP ?_
    refine aP ?_
    refine aW aD 6 ?_
    obtain ⟨c22, h1⟩ := aR h1
    refine mH [0 ≤ i13 ∧ i13 < (lN all9)] ⟨c22, trivial⟩ ?_
    refine bU [] [(49, (aE (decide ((gD all9 i13) < cD))))] ?_
    refine bF h1 (fun h1 => ?_) (fun h1 => ?_)
    · refine eP 1 ?_
      exact aG (aS (bP (aF (⟨rfl, _, _, .eq (by kernel_rfl), hO, h1⟩))))
    refine bG ?_
    refine bE [(0, (eL aH l0)), (1, (eI n1)), (2, (eI cD)), (9, (eL (eI) all9)), (11, (eL (eL aC) cI)), (12, (.msl 3 lo19 0 (List.length bQ))), (13, (eI i13))] ?_
    refine aP ?_
    refine eC (eE [53, 60, 14]) aD 16 ?_
    obtain ⟨c24, h1⟩ := aR h1
    obtain ⟨c25, h1⟩ := aR h1
    refine cB 14 [0 ≤ i13 ∧ i13 < (lN all9), 0 ≤ (wR ((wR (i13 + n1)) - (1 : Int))) ∧ (wR ((wR (i13 + n1)) - (1 : Int))) < (lN all9)] ⟨c24, c25, trivial⟩ ?_
    refine NY 3 (.agg [(eI 0), (eI 0), (.sl true 0 (fun _ => .bad))]) (aV (aO.mk (cE.mk 0 0) ([]))) (yZ (xs := [(eI 0), (eI 0), (.sl true 0 (fun _ => .bad))]) (ys := [(eI 0), (eI 0), (eL bB ([]))]) ⟨aN.refl _, aN.refl _, kY, trivial⟩) hO ?_
    intro lo26 H hO
    refine jN 1 lo26 3 0 (aV (aO.mk (cE.mk 0 0) ([]))) (.agg [(eI ((cE.mk (gD all9 i13) (wR ((gD all9 (wR ((wR (i13 + n1)) - (1 : Int)))) + (1 : Int)))).From)), (eI ((cE.mk (gD all9 i13) (wR ((gD all9 (wR ((wR (i13 + n1)) - (1 : Int)))) + (1 : Int)))).To)), (.sl true 0 (fun _ => .bad))]) [(aV (aO.mk (cE.mk 0 0) ([])))] [(lo19, 3, List.map aV bQ), (lo26, 3, [(.agg [(eI ((cE.mk (gD all9 i13) (wR ((gD all9 (wR ((wR (i13 + n1)) - (1 : Int)))) + (1 : Int)))).From)), (eI ((cE.mk (gD all9 i13) (wR ((gD all9 (wR ((wR (i13 + n1)) - (1 : Int)))) + (1 : Int)))).To)), (.sl true 0 (fun _ => .bad))])])] hO rfl (by kernel_rfl) ?_
    intro H hO
    refine lZ (by kernel_rfl) ?_
    refine UM 1 3 lo26 2 2 [(eI ((cE.mk (gD all9 i13) (wR ((gD all9 (wR ((wR (i13 + n1)) - (1 : Int)))) + (1 : Int)))).From)), (eI ((cE.mk (gD all9 i13) (wR ((gD all9 (wR ((wR (i13 + n1)) - (1 : Int)))) + (1 : Int)))).To)), (.sl true 0 (fun _ => .bad))] (fun _ => .bad) (fun lo27 => [(lo19, 3, List.map aV bQ), (lo26, 3, [(.agg [(eI ((aO.mk (cE.mk (gD all9 i13) (wR ((gD all9 (wR ((wR (i13 + n1)) - (1 : Int)))) + (1 : Int)))) ([])).Span.From)), (eI ((aO.mk (cE.mk (gD all9 i13) (wR ((gD all9 (wR ((wR (i13 + n1)) - (1 : Int)))) + (1 : Int)))) ([])).Span.To)), (.msl 2 lo27 0 (List.length ([] : List bH)))])]), (lo27, 2, List.map bB ([] : List bH))]) hO (by kernel_rfl) (by kernel_rfl) (fun _ => by kernel_rfl) ?_
    intro lo27 H hO
    refine bE [(0, (eL aH l0)), (1, (eI n1)), (2, (eI cD)), (9, (eL (eI) all9)), (11, (eL (eL aC) cI)), (12, (.msl 3 lo19 0 (List.length bQ))), (13, (eI i13)), (14, (.lp lo26 0 0))] ?_
    refine dU (fun T H => ∃ bQ : List aO, ∃ p14 : aO, ∃ lo28 : Nat, ∃ lo29 : Nat, Has T [(0, (eL aH l0)), (1, (eI n1)), (2, (eI cD)), (9, (eL (eI) all9)), (11, (eL (eL aC) cI)), (12, (.msl 3 lo28 0 (List.length bQ))), (13, (eI i13)), (14, (.lp lo26 0 0))] ∧ aL ⟨H0, [], []⟩ H [(lo28, 3, List.map aV bQ), (lo26, 3, [(.agg [(eI p14.Span.From), (eI p14.Span.To), (.msl 2 lo29 0 (List.length p14.Rows))])]), (lo29, 2, List.map bB p14.Rows)] ∧ qU l0 n1 cD all9 cI bQ i13 p14 = some out1) ?_ ?_
    · clear hO h1
      rintro T H ⟨bQ, p14, lo28, lo29, hT, hO, h1⟩
      refine bC hT ?_
      clear hT
      unfold qU at h1
      refine FQ (e := bB) p14.Rows 1 2 3 2 lo26 lo29 (List.length p14.Rows) 2 [(eI p14.Span.From), (eI p14.Span.To), (.msl 2 lo29 0 (List.length p14.Rows))] [(lo28, 3, List.map aV bQ), (lo26, 3, [(aV p14)])] hO (by kernel_rfl) (by kernel_rfl) (by kernel_rfl) (by kernel_rfl) (by kernel_rfl) (by kernel_rfl) ?_
      intro H hO
      refine aW aD 5 ?_
      refine bV 1 ?_
      refine pQ 1 lo26 3 0 (aV p14) (aV p14) [(aV p14)] hO rfl ?_
      refine nA (xs := [(aV p14)]) (k := 3) (by kernel_rfl) (by kernel_rfl) ?_
      obtain ⟨c31, h1⟩ := aR h1
      refine sH (e := aV) bQ ([p14]) 0 lo28 3 40 (iO [(aV p14)]) (fun lo30 => [(lo30, 3, List.map aV (bQ ++ ([p14]))), (lo26, 3, [(aV p14)])]) (by kernel_rfl) (by kernel_rfl) hO (by kernel_rfl) (by kernel_rfl) c31 (fun _ => by kernel_rfl) ?_
      intro lo30 H hO
      refine bD ?_
      replace hO := hO.pick (L' := [(lo30, 3, List.map aV (bQ ++ ([p14])))]) [0] (by decide) (by kernel_rfl)
      exact aG (aY (aF (⟨rfl, _, _, .eq (by kernel_rfl), hO, h1⟩)))
    refine aT aD 1 [] [(15, (eI (0 : Int)))] ?_
    refine bZ 2 ?_
    refine eZ [(0, (eL aH l0)), (1, (eI n1)), (2, (eI cD)), (9, (eL (eI) all9)), (11, (eL (eL aC) cI)), (12, (.msl 3 lo19 0 (List.length bQ))), (13, (eI i13)), (14, (.lp lo26 0 0)), (15, (eI (0 : Int)))] ?_
    refine dO (fun T H => ∃ bQ : List aO, ∃ p14 : aO, ∃ k15 : Int, ∃ lo34 : Nat, ∃ lo35 : Nat, Has T [(0, (eL aH l0)), (1, (eI n1)), (2, (eI cD)), (9, (eL (eI) all9)), (11, (eL (eL aC) cI)), (12, (.msl 3 lo34 0 (List.length bQ))), (13, (eI i13)), (14, (.lp lo26 0 0)), (15, (eI k15))] ∧ aL ⟨H0, [], []⟩ H [(lo34, 3, List.map aV bQ), (lo26, 3, [(.agg [(eI p14.Span.From), (eI p14.Span.To), (.msl 2 lo35 0 (List.length p14.Rows))])]), (lo35, 2, List.map bB p14.Rows)] ∧ tY l0 n1 cD all9 cI bQ i13 p14 k15 = some out1) ?_ ⟨bQ, aO.mk (cE.mk (gD all9 i13) (wR ((gD all9 (wR ((wR (i13 + n1)) - (1 : Int)))) + (1 : Int)))) ([]), (0 : Int), lo19, lo27, .eq (by kernel_rfl), hO, h1⟩
    clear hO h1
    rintro T H ⟨bQ, p14, k15, lo34, lo35, hT, hO, h1⟩
    refine bC hT ?_
    clear hT
    unfold tY at h1
    obtain ⟨rr1, hl1, h1⟩ := aZ h1
    refine cP (by kernel_rfl) (fun (s : List aO × aO × Int) T H => ∃ lo34 : Nat, ∃ lo35 : Nat, Has T [(0, (eL aH l0)), (1, (eI n1)), (2, (eI cD)), (9, (eL (eI) all9)), (11, (eL (eL aC) cI)), (12, (.msl 3 lo34 0 (List.length s.1))), (13, (eI i13)), (14, (.lp lo26 0 0)), (15, (eI s.2.2))] ∧ aL ⟨H0, [], []⟩ H [(lo34, 3, List.map aV s.1), (lo26, 3, [(.agg [(eI s.2.1.Span.From), (eI s.2.1.Span.To), (.msl 2 lo35 0 (List.length s.2.1.Rows))])]), (lo35, 2, List.map bB s.2.1.Rows)]) hl1 ⟨lo34, lo35, .eq (by kernel_rfl), hO⟩ ?_
    clear hO
    rintro k1 s out2 T H ⟨lo34, lo35, hT, hO⟩ h2 ho1
    obtain ⟨bQ, p14, k15⟩ := s
    replace h2 : lU l0 n1 cD all9 cI i13 bQ p14 k15 = some out2 := h2
    try dsimp only at hT
    refine bC hT ?_
    clear hT
    unfold lU at h2
    refine aP ?_
    refine aT aD 4 [] [(67, (aE (decide (k15 < (lN cI)))))] ?_
    refine bF h2 (fun h2 => ?_) (fun h2 => ?_)
    · refine bG ?_
      refine bE [(0, (eL aH l0)), (1, (eI n1)), (2, (eI cD)), (9, (eL (eI) all9)), (11, (eL (eL aC) cI)), (12, (.msl 3 lo34 0 (List.length bQ))), (13, (eI i13)), (14, (.lp lo26 0 0)), (15, (eI k15))] ?_
      refine dU (fun T H => ∃ bQ : List aO, ∃ p14 : aO, ∃ lo37 : Nat, ∃ lo38 : Nat, Has T [(0, (eL aH l0)), (1, (eI n1)), (2, (eI cD)), (9, (eL (eI) all9)), (11, (eL (eL aC) cI)), (12, (.msl 3 lo37 0 (List.length bQ))), (13, (eI i13)), (14, (.lp lo26 0 0)), (15, (eI k15))] ∧ aL ⟨H0, [], []⟩ H [(lo37, 3, List.map aV bQ), (lo26, 3, [(.agg [(eI p14.Span.From), (eI p14.Span.To), (.msl 2 lo38 0 (List.length p14.Rows))])]), (lo38, 2, List.map bB p14.Rows)] ∧ qO l0 n1 cD all9 cI bQ i13 p14 k15 = some out2) ?_ ?_
      · clear hO h2
        rintro T H ⟨bQ, p14, lo37, lo38, hT, hO, h2⟩
        refine bC hT ?_
        clear hT
        unfold qO at h2
        refine aW aD 3 ?_
        refine bD ?_
        exact aG (aF (⟨rfl, _, (oI h2).symm, _, _, .eq (by kernel_rfl), hO⟩))
      refine bZ 3 ?_
      refine aP ?_
      refine aW aD 7 ?_
      obtain ⟨c39, h2⟩ := aR h2
      refine nR 5 [0 ≤ k15 ∧ k15 < (lN cI)] ⟨c39, trivial⟩ ?_
      obtain ⟨x40, hx41, h2⟩ := aZ h2
      refine dL (yA l0 (gD cI k15) _ hx41) hO ?_
      intro H hO
      refine bD ?_
      refine bU [] [(16, (eL aX x40))] ?_
      refine aP ?_
      refine aW aD 7 ?_
      obtain ⟨c43, h2⟩ := aR h2
      refine nR 5 [0 ≤ k15 ∧ k15 < (lN cI)] ⟨c43, trivial⟩ ?_
      refine vI 2 (.agg [(.sl true 0 (fun _ => .bad)), (eI 0)]) (bB (bH.mk ([]) 0)) (by kernel_rfl) (by kernel_rfl) (by kernel_rfl) (yZ (xs := [(.sl true 0 (fun _ => .bad)), (eI 0)]) (ys := [(eL aC ([])), (eI 0)]) ⟨kY, aN.refl _, trivial⟩) (by kernel_rfl) (by kernel_rfl) hO ?_
      intro lo44 H hO
      refine pT 3 lo44 2 0 (bB (bH.mk ([]) 0)) (bB (bH.mk (gD cI k15) 0)) [(bB (bH.mk ([]) 0))] [(lo34, 3, List.map aV bQ), (lo26, 3, [(.agg [(eI p14.Span.From), (eI p14.Span.To), (.msl 2 lo35 0 (List.length p14.Rows))])]), (lo35, 2, List.map bB p14.Rows), (lo44, 2, [(bB (bH.mk (gD cI k15) 0))])] hO rfl (by kernel_rfl) ?_
      intro H hO
      refine hY ?_
      refine bU [] [(17, (.lp lo44 0 0))] ?_
      refine dU (fun T H => ∃ bQ : List aO, ∃ p14 : aO, ∃ c17 : bH, ∃ lo45 : Nat, ∃ lo46 : Nat, Has T [(0, (eL aH l0)), (1, (eI n1)), (2, (eI cD)), (9, (eL (eI) all9)), (11, (eL (eL aC) cI)), (12, (.msl 3 lo45 0 (List.length bQ))), (13, (eI i13)), (14, (.lp lo26 0 0)), (15, (eI k15)), (17, (.lp lo44 0 0))] ∧ aL ⟨H0, [], []⟩ H [(lo45, 3, List.map aV bQ), (lo26, 3, [(.agg [(eI p14.Span.From), (eI p14.Span.To), (.msl 2 lo46 0 (List.length p14.Rows))])]), (lo46, 2, List.map bB p14.Rows), (lo44, 2, [(bB c17)])] ∧ qK l0 n1 cD all9 cI bQ i13 p14 k15 c17 = some out2) ?_ ?_
      · clear hO h2
        rintro T H ⟨bQ, p14, c17, lo45, lo46, hT, hO, h2⟩
        refine bC hT ?_
        clear hT
        unfold qK at h2
        refine aP ?_
        refine aW aD 3 ?_
        refine bV 1 ?_
        refine pQ 3 lo44 2 0 (bB c17) (eI c17.N) [(bB c17)] hO rfl ?_
        refine bD ?_
        refine bU [] [(131, (aE (decide ((0 : Int) < c17.N))))] ?_
        refine bF h2 (fun h2 => ?_) (fun h2 => ?_)
        · refine aW aD 7 ?_
          refine bV 1 ?_
          refine pQ 1 lo26 3 0 (.agg [(eI p14.Span.From), (eI p14.Span.To), (.msl 2 lo46 0 (List.length p14.Rows))]) (.msl 2 lo46 0 (List.length p14.Rows)) [(.agg [(eI p14.Span.From), (eI p14.Span.To), (.msl 2 lo46 0 (List.length p14.Rows))])] hO rfl ?_
          refine pQ 3 lo44 2 0 (bB c17) (bB c17) [(bB c17)] hO rfl ?_
          refine nA (xs := [(bB c17)]) (k := 2) (by kernel_rfl) (by kernel_rfl) ?_
          obtain ⟨c49, h2⟩ := aR h2
          refine sH (e := bB) p14.Rows ([c17]) 2 lo46 2 32 (iO [(bB c17)]) (fun lo48 => [(lo45, 3, List.map aV bQ), (lo26, 3, [(.agg [(eI p14.Span.From), (eI p14.Span.To), (.msl 2 lo46 0 (List.length p14.Rows))])]), (lo48, 2, List.map bB (p14.Rows ++ ([c17]))), (lo44, 2, [(bB c17)])]) (by kernel_rfl) (by kernel_rfl) hO (by kernel_rfl) (by kernel_rfl) c49 (fun _ => by kernel_rfl) ?_
          intro lo48 H hO
          refine bV 6 ?_
          refine pT 1 lo26 3 0 (.agg [(eI p14.Span.From), (eI p14.Span.To), (.msl 2 lo46 0 (List.length p14.Rows))]) (.agg [(eI ((aO.mk p14.Span (p14.Rows ++ ([c17]))).Span.From)), (eI ((aO.mk p14.Span (p14.Rows ++ ([c17]))).Span.To)), (.msl 2 lo48 0 (List.length (p14.Rows ++ ([c17]))))]) [(.agg [(eI p14.Span.From), (eI p14.Span.To), (.msl 2 lo46 0 (List.length p14.Rows))])] [(lo45, 3, List.map aV bQ), (lo26, 3, [(.agg [(eI ((aO.mk p14.Span (p14.Rows ++ ([c17]))).Span.From)), (eI ((aO.mk p14.Span (p14.Rows ++ ([c17]))).Span.To)), (.msl 2 lo48 0 (List.length (p14.Rows ++ ([c17]))))])]), (lo48, 2, List.map bB (p14.Rows ++ ([c17]))), (lo44, 2, [(bB c17)])] hO rfl (by kernel_rfl) ?_
          intro H hO
          refine hY ?_
          replace hO := hO.pick (L' := [(lo45, 3, List.map aV bQ), (lo26, 3, [(.agg [(eI ((aO.mk p14.Span (p14.Rows ++ ([c17]))).Span.From)), (eI ((aO.mk p14.Span (p14.Rows ++ ([c17]))).Span.To)), (.msl 2 lo48 0 (List.length (p14.Rows ++ ([c17]))))])]), (lo48, 2, List.map bB (p14.Rows ++ ([c17])))]) [0, 1, 2] (by decide) (by kernel_rfl)
          exact aG (aY (aF (⟨rfl, _, _, _, _, .eq (by kernel_rfl), hO, h2⟩)))
        refine bG ?_
        replace hO := hO.pick (L' := [(lo45, 3, List.map aV bQ), (lo26, 3, [(.agg [(eI p14.Span.From), (eI p14.Span.To), (.msl 2 lo46 0 (List.length p14.Rows))])]), (lo46, 2, List.map bB p14.Rows)]) [0, 1, 2] (by decide) (by kernel_rfl)
        exact aG (aY (aF (⟨rfl, _, _, _, _, .eq (by kernel_rfl), hO, h2⟩)))
      refine aT aD 1 [] [(18, (eI (0 : Int)))] ?_
      refine bZ 4 ?_
      refine eZ [(0, (eL aH l0)), (1, (eI n1)), (2, (eI cD)), (9, (eL (eI) all9)), (11, (eL (eL aC) cI)), (12, (.msl 3 lo34 0 (List.length bQ))), (13, (eI i13)), (14, (.lp lo26 0 0)), (15, (eI k15)), (16, (eL aX x40)), (17, (.lp lo44 0 0)), (18, (eI (0 : Int)))] ?_
      refine dO (fun T H => ∃ bQ : List aO, ∃ p14 : aO, ∃ f16 : (List aM), ∃ c17 : bH, ∃ j18 : Int, ∃ lo52 : Nat, ∃ lo53 : Nat, Has T [(0, (eL aH l0)), (1, (eI n1)), (2, (eI cD)), (9, (eL (eI) all9)), (11, (eL (eL aC) cI)), (12, (.msl 3 lo52 0 (List.length bQ))), (13, (eI i13)), (14, (.lp lo26 0 0)), (15, (eI k15)), (16, (eL aX f16)), (17, (.lp lo44 0 0)), (18, (eI j18))] ∧ aL ⟨H0, [], []⟩ H [(lo52, 3, List.map aV bQ), (lo26, 3, [(.agg [(eI p14.Span.From), (eI p14.Span.To), (.msl 2 lo53 0 (List.length p14.Rows))])]), (lo53, 2, List.map bB p14.Rows), (lo44, 2, [(bB c17)])] ∧ tP l0 n1 cD all9 cI bQ i13 p14 k15 f16 c17 j18 = some out2) ?_ ⟨bQ, p14, x40, bH.mk (gD cI k15) 0, (0 : Int), lo34, lo35, .eq (by kernel_rfl), hO, h2⟩
      clear hO h2
      rintro T H ⟨bQ, p14, f16, c17, j18, lo52, lo53, hT, hO, h2⟩
      refine bC hT ?_
      clear hT
      unfold tP at h2
      obtain ⟨rr2, hl2, h2⟩ := aZ h2
      refine cP (by kernel_rfl) (fun (s : List aO × aO × bH × Int) T H => ∃ lo52 : Nat, ∃ lo53 : Nat, Has T [(0, (eL aH l0)), (1, (eI n1)), (2, (eI cD)), (9, (eL (eI) all9)), (11, (eL (eL aC) cI)), (12, (.msl 3 lo52 0 (List.length s.1))), (13, (eI i13)), (14, (.lp lo26 0 0)), (15, (eI k15)), (16, (eL aX f16)), (17, (.lp lo44 0 0)), (18, (eI s.2.2.2))] ∧ aL ⟨H0, [], []⟩ H [(lo52, 3, List.map aV s.1), (lo26, 3, [(.agg [(eI s.2.1.Span.From), (eI s.2.1.Span.To), (.msl 2 lo53 0 (List.length s.2.1.Rows))])]), (lo53, 2, List.map bB s.2.1.Rows), (lo44, 2, [(bB s.2.2.1)])]) hl2 ⟨lo52, lo53, .eq (by kernel_rfl), hO⟩ ?_
      clear hO
      rintro k2 s out3 T H ⟨lo52, lo53, hT, hO⟩ h3 ho2
      obtain ⟨bQ, p14, c17, j18⟩ := s
      replace h3 : lQ l0 n1 cD all9 cI i13 k15 f16 bQ p14 c17 j18 = some out3 := h3
      try dsimp only at hT
      refine bC hT ?_
      clear hT
      unfold lQ at h3
      refine aP ?_
      refine aT aD 4 [] [(84, (aE (decide (j18 < (lN f16)))))] ?_
      refine bF h3 (fun h3 => ?_) (fun h3 => ?_)
      · refine bG ?_
        refine bE [(0, (eL aH l0)), (1, (eI n1)), (2, (eI cD)), (9, (eL (eI) all9)), (11, (eL (eL aC) cI)), (12, (.msl 3 lo52 0 (List.length bQ))), (13, (eI i13)), (14, (.lp lo26 0 0)), (15, (eI k15)), (16, (eL aX f16)), (17, (.lp lo44 0 0)), (18, (eI j18))] ?_
        refine dU (fun T H => ∃ bQ : List aO, ∃ p14 : aO, ∃ c17 : bH, ∃ lo55 : Nat, ∃ lo56 : Nat, Has T [(0, (eL aH l0)), (1, (eI n1)), (2, (eI cD)), (9, (eL (eI) all9)), (11, (eL (eL aC) cI)), (12, (.msl 3 lo55 0 (List.length bQ))), (13, (eI i13)), (14, (.lp lo26 0 0)), (15, (eI k15)), (16, (eL aX f16)), (17, (.lp lo44 0 0)), (18, (eI j18))] ∧ aL ⟨H0, [], []⟩ H [(lo55, 3, List.map aV bQ), (lo26, 3, [(.agg [(eI p14.Span.From), (eI p14.Span.To), (.msl 2 lo56 0 (List.length p14.Rows))])]), (lo56, 2, List.map bB p14.Rows), (lo44, 2, [(bB c17)])] ∧ qI l0 n1 cD all9 cI bQ i13 p14 k15 f16 c17 j18 = some out3) ?_ ?_
        · clear hO h3
          rintro T H ⟨bQ, p14, c17, lo55, lo56, hT, hO, h3⟩
          refine bC hT ?_
          clear hT
          unfold qI at h3
          refine aW aD 3 ?_
          refine bD ?_
          exact aG (aF (⟨rfl, _, (oI h3).symm, _, _, .eq (by kernel_rfl), hO⟩))
        refine bZ 5 ?_
        refine aP ?_
        obtain ⟨c57, h3⟩ := aR h3
        obtain ⟨c58, h3⟩ := aR h3
        obtain ⟨c59, h3⟩ := aR h3
        obtain ⟨c60, h3⟩ := aR h3
        obtain ⟨c61, h3⟩ := aR h3
        refine eC (eE [91, 98, 102, 110, 117]) aD 33 ?_
        refine lR (K := fun T H => Has (lift T) [(0, (eL aH l0)), (1, (eI n1)), (2, (eI cD)), (9, (eL (eI) all9)), (11, (eL (eL aC) cI)), (12, (.msl 3 lo52 0 (List.length bQ))), (13, (eI i13)), (14, (.lp lo26 0 0)), (15, (eI k15)), (16, (eL aX f16)), (17, (.lp lo44 0 0)), (18, (eI j18)), (119, (aE (((decide ((0 : Int) < ((gD f16 j18).Net))) && (decide ((gD all9 i13) ≤ ((gD f16 j18).At)))) && (decide (((gD f16 j18).At) ≤ (gD all9 (wR ((wR (i13 + n1)) - (1 : Int)))))))))] ∧ aL ⟨H0, [], []⟩ H [(lo52, 3, List.map aV bQ), (lo26, 3, [(.agg [(eI p14.Span.From), (eI p14.Span.To), (.msl 2 lo53 0 (List.length p14.Rows))])]), (lo53, 2, List.map bB p14.Rows), (lo44, 2, [(bB c17)])]) ?_ ?_
        · refine cB 7 [0 ≤ j18 ∧ j18 < (lN f16)] ⟨c57, trivial⟩ ?_
          refine jR (t := 93) (e := decide ((0 : Int) < ((gD f16 j18).Net))) (by kernel_rfl) (fun hg62 => ?_) (fun hg62 => ?_)
          · refine cB 19 [0 ≤ j18 ∧ j18 < (lN f16), 0 ≤ i13 ∧ i13 < (lN all9)] ⟨(c58 hg62), (c59 hg62), trivial⟩ ?_
            refine jR (t := 105) (e := decide ((gD all9 i13) ≤ ((gD f16 j18).At))) (by kernel_rfl) (fun hg63 => ?_) (fun hg63 => ?_)
            · refine yI (Ds := [0 ≤ j18 ∧ j18 < (lN f16), 0 ≤ (wR ((wR (i13 + n1)) - (1 : Int))) ∧ (wR ((wR (i13 + n1)) - (1 : Int))) < (lN all9)]) (by kernel_rfl) ⟨(c60 (fV hg62 hg63)), (c61 (fV hg62 hg63)), trivial⟩ ?_
              exact ⟨⟨[(0, (eL aH l0)), (1, (eI n1)), (2, (eI cD)), (9, (eL (eI) all9)), (11, (eL (eL aC) cI)), (12, (.msl 3 lo52 0 (List.length bQ))), (13, (eI i13)), (14, (.lp lo26 0 0)), (15, (eI k15)), (16, (eL aX f16)), (17, (.lp lo44 0 0)), (18, (eI j18)), (119, (aE (decide (((gD f16 j18).At) ≤ (gD all9 (wR ((wR (i13 + n1)) - (1 : Int))))))))], by kernel_rfl, rfl, ⟨aN.refl _, aN.refl _, aN.refl _, aN.refl _, aN.refl _, aN.refl _, aN.refl _, aN.refl _, aN.refl _, aN.refl _, aN.refl _, aN.refl _, aN.eq (congrArg aE (fV (fV hg62 hg63) rfl).symm), trivial⟩⟩, hO⟩
            refine gG ?_
            exact ⟨⟨[(0, (eL aH l0)), (1, (eI n1)), (2, (eI cD)), (9, (eL (eI) all9)), (11, (eL (eL aC) cI)), (12, (.msl 3 lo52 0 (List.length bQ))), (13, (eI i13)), (14, (.lp lo26 0 0)), (15, (eI k15)), (16, (eL aX f16)), (17, (.lp lo44 0 0)), (18, (eI j18)), (119, (aE false))], by kernel_rfl, rfl, ⟨aN.refl _, aN.refl _, aN.refl _, aN.refl _, aN.refl _, aN.refl _, aN.refl _, aN.refl _, aN.refl _, aN.refl _, aN.refl _, aN.refl _, aN.eq (congrArg aE (fV (fV hg62 hg63) rfl).symm), trivial⟩⟩, hO⟩
          refine gG ?_
          exact ⟨⟨[(0, (eL aH l0)), (1, (eI n1)), (2, (eI cD)), (9, (eL (eI) all9)), (11, (eL (eL aC) cI)), (12, (.msl 3 lo52 0 (List.length bQ))), (13, (eI i13)), (14, (.lp lo26 0 0)), (15, (eI k15)), (16, (eL aX f16)), (17, (.lp lo44 0 0)), (18, (eI j18)), (119, (aE false))], by kernel_rfl, rfl, ⟨aN.refl _, aN.refl _, aN.refl _, aN.refl _, aN.refl _, aN.refl _, aN.refl _, aN.refl _, aN.refl _, aN.refl _, aN.refl _, aN.refl _, aN.eq (congrArg aE (fV (fV hg62 rfl) rfl).symm), trivial⟩⟩, hO⟩
        · rintro T H ⟨hT, hO⟩
          refine dA hT ?_
          clear hT
          refine aG (aF ?_)
          refine bF h3 (fun h3 => ?_) (fun h3 => ?_)
          · refine eC (eE [126]) aD 10 ?_
            refine kR 1 ?_
            refine fL 3 lo44 2 0 (bB c17) (eI c17.N) [(bB c17)] hO rfl ?_
            obtain ⟨c65, h3⟩ := aR h3
            refine cB 9 [0 ≤ j18 ∧ j18 < (lN f16)] ⟨c65, trivial⟩ ?_
            refine jN 3 lo44 2 0 (bB c17) (bB (bH.mk c17.Row (wR (c17.N + ((gD f16 j18).Net))))) [(bB c17)] [(lo52, 3, List.map aV bQ), (lo26, 3, [(.agg [(eI p14.Span.From), (eI p14.Span.To), (.msl 2 lo53 0 (List.length p14.Rows))])]), (lo53, 2, List.map bB p14.Rows), (lo44, 2, [(bB (bH.mk c17.Row (wR (c17.N + ((gD f16 j18).Net)))))])] hO rfl (by kernel_rfl) ?_
            intro H hO
            refine lZ (by kernel_rfl) ?_
            exact aG (aY (aF (⟨rfl, _, _, _, _, _, .eq (by kernel_rfl), hO, h3⟩)))
          refine bG ?_
          exact aG (aY (aF (⟨rfl, _, _, _, _, _, .eq (by kernel_rfl), hO, h3⟩)))
      refine eP 4 ?_
      obtain rfl := oI h3
      obtain rfl : _ = rr2 := ho2
      replace h2 : qK l0 n1 cD all9 cI bQ i13 p14 k15 c17 = some out2 := h2
      exact aG (aS (aS (bP (aF (⟨rfl, _, _, _, _, _, .eq (by kernel_rfl), hO, h2⟩)))))
    refine eP 2 ?_
    obtain rfl := oI h2
    obtain rfl : _ = rr1 := ho1
    replace h1 : qU l0 n1 cD all9 cI bQ i13 p14 = some out1 := h1
    exact aG (aS (aS (bP (aF (⟨rfl, _, _, _, _, .eq (by kernel_rfl), hO, h1⟩)))))
  refine eP 0 ?_
  obtain rfl := oI h1
  obtain rfl : _ = rr0 := ho0
  replace h0 : qH bQ = some r := h0
  exact aG (aS (aS (bP (aF (⟨rfl, _, _, .eq (by kernel_rfl), hO, h0⟩)))))

theorem EM (a0 : (List bH)) (b1 : (List bH)) (r : Bool) (h0 : nE a0 b1 = some r) : dH Try.prog 17 [(eL bB a0), (eL bB b1)] (aE r) := by
  intro H0
  refine dF Try.func17 ?_
  have hO := aL.start H0
  unfold nE at h0
  refine aT aD 1 [] [] ?_
  refine aP ?_
  refine aT aD 5 [] [(10, (aE (!decide ((lN a0) = (lN b1)))))] ?_
  refine bF h0 (fun h0 => ?_) (fun h0 => ?_)
  · refine bT aD 1 [(4, (aE false))] ?_
    refine bI ?_
    obtain rfl := oI h0
    exact aG (aQ (Q_r hO))
  refine bG ?_
  refine bE [(0, (eL bB a0)), (1, (eL bB b1))] ?_
  refine dU (fun T H => Has T [] ∧ aL ⟨H0, [], []⟩ H [] ∧ mS  = some r) ?_ ?_
  · clear hO h0
    rintro T H ⟨hT, hO, h0⟩
    refine bC hT ?_
    clear hT
    unfold mS at h0
    refine bT aD 1 [(4, (aE true))] ?_
    refine bI ?_
    obtain rfl := oI h0
    exact aG (Q_r hO)
  refine aT aD 1 [] [(5, (eI (0 : Int)))] ?_
  refine bZ 0 ?_
  refine eZ [(0, (eL bB a0)), (1, (eL bB b1)), (5, (eI (0 : Int)))] ?_
  refine dO (fun T H => ∃ i5 : Int, Has T [(0, (eL bB a0)), (1, (eL bB b1)), (5, (eI i5))] ∧ aL ⟨H0, [], []⟩ H [] ∧ oR a0 b1 i5 = some r) ?_ ⟨(0 : Int), .eq (by kernel_rfl), hO, h0⟩
  clear hO h0
  rintro T H ⟨i5, hT, hO, h0⟩
  refine bC hT ?_
  clear hT
  unfold oR at h0
  obtain ⟨rr0, hl0, h0⟩ := aZ h0
  refine cP (by kernel_rfl) (fun (s : Int) T H => Has T [(0, (eL bB a0)), (1, (eL bB b1)), (5, (eI s))] ∧ aL ⟨H0, [], []⟩ H []) hl0 ⟨.eq (by kernel_rfl), hO⟩ ?_
  clear hO
  rintro k0 s out1 T H ⟨hT, hO⟩ h1 ho0
  obtain ⟨i5, rfl⟩ : ∃ x, x = s := ⟨_, rfl⟩
  replace h1 : kX a0 b1 i5 = some out1 := h1
  refine bC hT ?_
  clear hT
  unfold kX at h1
  refine aP ?_
  refine aT aD 4 [] [(14, (aE (decide (i5 < (lN a0)))))] ?_
  refine bF h1 (fun h1 => ?_) (fun h1 => ?_)
  · refine bG ?_
    refine bE [(0, (eL bB a0)), (1, (eL bB b1)), (5, (eI i5))] ?_
    refine aP ?_
    refine bZ 1 ?_
    refine aP ?_
    obtain ⟨c3, h1⟩ := aR h1
    obtain ⟨c4, h1⟩ := aR h1
    obtain ⟨c5, h1⟩ := aR h1
    obtain ⟨c6, h1⟩ := aR h1
    obtain ⟨x7, hx8, h1⟩ := aZ h1
    refine eC (eE [21, 26, 33, 38]) aD 25 ?_
    refine lR (K := fun T H => Has (lift T) [(0, (eL bB a0)), (1, (eL bB b1)), (5, (eI i5)), (41, (aE ((!decide (((gD a0 i5).N) = ((gD b1 i5).N))) || (!x7))))] ∧ aL ⟨H0, [], []⟩ H []) ?_ ?_
    · refine cB 12 [0 ≤ i5 ∧ i5 < (lN a0), 0 ≤ i5 ∧ i5 < (lN b1)] ⟨c3, c4, trivial⟩ ?_
      refine jR (t := 28) (e := !decide (((gD a0 i5).N) = ((gD b1 i5).N))) (by kernel_rfl) (fun hg9 => ?_) (fun hg9 => ?_)
      · refine gG ?_
        exact ⟨⟨[(0, (eL bB a0)), (1, (eL bB b1)), (5, (eI i5)), (41, (aE true))], by kernel_rfl, rfl, ⟨aN.refl _, aN.refl _, aN.refl _, aN.eq (congrArg aE (BY hg9 rfl).symm), trivial⟩⟩, hO⟩
      refine cB 22 [0 ≤ i5 ∧ i5 < (lN a0), 0 ≤ i5 ∧ i5 < (lN b1)] ⟨(c5 (vW hg9)), (c6 (vW hg9)), trivial⟩ ?_
      refine lS 42 [(eL aC ((gD a0 i5).Row)), (eL aC ((gD b1 i5).Row))] (aE x7) (by kernel_rfl) (by kernel_rfl) (zE ((gD a0 i5).Row) ((gD b1 i5).Row) _ (iV hx8 (vW hg9))) hO ?_
      intro H hO
      refine gG ?_
      exact ⟨⟨[(0, (eL bB a0)), (1, (eL bB b1)), (5, (eI i5)), (41, (aE (!x7)))], by kernel_rfl, rfl, ⟨aN.refl _, aN.refl _, aN.refl _, aN.eq (congrArg aE (BY hg9 rfl).symm), trivial⟩⟩, hO⟩
    · rintro T H ⟨hT, hO⟩
      refine dA hT ?_
      clear hT
      refine aG (aF ?_)
      refine bF h1 (fun h1 => ?_) (fun h1 => ?_)
      · refine bT aD 1 [(4, (aE false))] ?_
        refine bI ?_
        obtain rfl := oI h1
        obtain rfl : _ = rr0 := ho0
        replace h0 : some false = some r := h0
        obtain rfl := oI h0
        exact aG (bK (aQ (aQ (bK (aQ (Q_r hO))))))
      refine bG ?_
      refine fZ [(0, (eL bB a0)), (1, (eL bB b1)), (5, (eI i5))] ?_
      refine aG (aY (aF (?_)))
      refine aW aD 3 ?_
      refine bD ?_
      exact aG (aF (⟨rfl, _, (oI h1).symm, .eq (by kernel_rfl), hO⟩))
  refine eP 0 ?_
  obtain rfl := oI h1
  obtain rfl : _ = rr0 := ho0
  replace h0 : mS  = some r := h0
  exact aG (aS (aS (bP (aF (⟨rfl, .eq (by kernel_rfl), hO, h0⟩)))))

theorem OS (a0 : (List aO)) (b1 : (List aO)) (r : Bool) (h0 : tF a0 b1 = some r) : dH Try.prog 16 [(eL aV a0), (eL aV b1)] (aE r) := by
  intro H0
  refine dF Try.func16 ?_
  have hO := aL.start H0
  unfold tF at h0
  refine aT aD 1 [] [] ?_
  refine aP ?_
  refine aT aD 5 [] [(10, (aE (!decide ((lN a0) = (lN b1)))))] ?_
  refine bF h0 (fun h0 => ?_) (fun h0 => ?_)
  · refine bT aD 1 [(4, (aE false))] ?_
    refine bI ?_
    obtain rfl := oI h0
    exact aG (aQ (Q_r hO))
  refine bG ?_
  refine bE [(0, (eL aV a0)), (1, (eL aV b1))] ?_
  refine dU (fun T H => Has T [] ∧ aL ⟨H0, [], []⟩ H [] ∧ rX  = some r) ?_ ?_
  · clear hO h0
    rintro T H ⟨hT, hO, h0⟩
    refine bC hT ?_
    clear hT
    unfold rX at h0
    refine bT aD 1 [(4, (aE true))] ?_
    refine bI ?_
    obtain rfl := oI h0
    exact aG (Q_r hO)
  refine aT aD 1 [] [(5, (eI (0 : Int)))] ?_
  refine bZ 0 ?_
  refine eZ [(0, (eL aV a0)), (1, (eL aV b1)), (5, (eI (0 : Int)))] ?_
  refine dO (fun T H => ∃ i5 : Int, Has T [(0, (eL aV a0)), (1, (eL aV b1)), (5, (eI i5))] ∧ aL ⟨H0, [], []⟩ H [] ∧ uT a0 b1 i5 = some r) ?_ ⟨(0 : Int), .eq (by kernel_rfl), hO, h0⟩
  clear hO h0
  rintro T H ⟨i5, hT, hO, h0⟩
  refine bC hT ?_
  clear hT
  unfold uT at h0
  obtain ⟨rr0, hl0, h0⟩ := aZ h0
  refine cP (by kernel_rfl) (fun (s : Int) T H => Has T [(0, (eL aV a0)), (1, (eL aV b1)), (5, (eI s))] ∧ aL ⟨H0, [], []⟩ H []) hl0 ⟨.eq (by kernel_rfl), hO⟩ ?_
  clear hO
  rintro k0 s out1 T H ⟨hT, hO⟩ h1 ho0
  obtain ⟨i5, rfl⟩ : ∃ x, x = s := ⟨_, rfl⟩
  replace h1 : oY a0 b1 i5 = some out1 := h1
  refine bC hT ?_
  clear hT
  unfold oY at h1
  refine aP ?_
  refine aT aD 4 [] [(14, (aE (decide (i5 < (lN a0)))))] ?_
  refine bF h1 (fun h1 => ?_) (fun h1 => ?_)
  · refine bG ?_
    refine bE [(0, (eL aV a0)), (1, (eL aV b1)), (5, (eI i5))] ?_
    refine aP ?_
    refine bZ 1 ?_
    refine aP ?_
    obtain ⟨c3, h1⟩ := aR h1
    obtain ⟨c4, h1⟩ := aR h1
    obtain ⟨c5, h1⟩ := aR h1
    obtain ⟨c6, h1⟩ := aR h1
    obtain ⟨x7, hx8, h1⟩ := aZ h1
    refine eC (eE [21, 26, 33, 38]) aD 25 ?_
    refine lR (K := fun T H => Has (lift T) [(0, (eL aV a0)), (1, (eL aV b1)), (5, (eI i5)), (41, (aE ((!((decide ((((gD a0 i5).Span).From) = (((gD b1 i5).Span).From))) && ((decide ((((gD a0 i5).Span).To) = (((gD b1 i5).Span).To))) && true))) || (!x7))))] ∧ aL ⟨H0, [], []⟩ H []) ?_ ?_
    · refine cB 12 [0 ≤ i5 ∧ i5 < (lN a0), 0 ≤ i5 ∧ i5 < (lN b1)] ⟨c3, c4, trivial⟩ ?_
      refine jR (t := 28) (e := !((decide ((((gD a0 i5).Span).From) = (((gD b1 i5).Span).From))) && ((decide ((((gD a0 i5).Span).To) = (((gD b1 i5).Span).To))) && true))) (by kernel_rfl) (fun hg9 => ?_) (fun hg9 => ?_)
      · refine gG ?_
        exact ⟨⟨[(0, (eL aV a0)), (1, (eL aV b1)), (5, (eI i5)), (41, (aE true))], by kernel_rfl, rfl, ⟨aN.refl _, aN.refl _, aN.refl _, aN.eq (congrArg aE (BY hg9 rfl).symm), trivial⟩⟩, hO⟩
      refine cB 22 [0 ≤ i5 ∧ i5 < (lN a0), 0 ≤ i5 ∧ i5 < (lN b1)] ⟨(c5 (vW hg9)), (c6 (vW hg9)), trivial⟩ ?_
      refine lS 17 [(eL bB ((gD a0 i5).Rows)), (eL bB ((gD b1 i5).Rows))] (aE x7) (by kernel_rfl) (by kernel_rfl) (EM ((gD a0 i5).Rows) ((gD b1 i5).Rows) _ (iV hx8 (vW hg9))) hO ?_
      intro H hO
      refine gG ?_
      exact ⟨⟨[(0, (eL aV a0)), (1, (eL aV b1)), (5, (eI i5)), (41, (aE (!x7)))], by kernel_rfl, rfl, ⟨aN.refl _, aN.refl _, aN.refl _, aN.eq (congrArg aE (BY hg9 rfl).symm), trivial⟩⟩, hO⟩
    · rintro T H ⟨hT, hO⟩
      refine dA hT ?_
      clear hT
      refine aG (aF ?_)
      refine bF h1 (fun h1 => ?_) (fun h1 => ?_)
      · refine bT aD 1 [(4, (aE false))] ?_
        refine bI ?_
        obtain rfl := oI h1
        obtain rfl : _ = rr0 := ho0
        replace h0 : some false = some r := h0
        obtain rfl := oI h0
        exact aG (bK (aQ (aQ (bK (aQ (Q_r hO))))))
      refine bG ?_
      refine fZ [(0, (eL aV a0)), (1, (eL aV b1)), (5, (eI i5))] ?_
      refine aG (aY (aF (?_)))
      refine aW aD 3 ?_
      refine bD ?_
      exact aG (aF (⟨rfl, _, (oI h1).symm, .eq (by kernel_rfl), hO⟩))
  refine eP 0 ?_
  obtain rfl := oI h1
  obtain rfl : _ = rr0 := ho0
  replace h0 : rX  = some r := h0
  exact aG (aS (aS (bP (aF (⟨rfl, .eq (by kernel_rfl), hO, h0⟩)))))

theorem CT (l0 : (List aI)) (n1 : Int) (cD : Int) (r : Bool) (h0 : oS l0 n1 cD = some r) : dH Try.prog 7 [(eL aH l0), (eI n1), (eI cD)] (aE r) := by
  intro H0
  refine dF Try.func7 ?_
  have hO := aL.start H0
  unfold oS at h0
  refine aT aD 1 [] [] ?_
  refine aP ?_
  refine aP ?_
  refine aW aD 3 ?_
  refine bV 1 ?_
  obtain ⟨x1, hx2, h0⟩ := aZ h0
  refine dL (PZ l0 _ hx2) hO ?_
  intro H hO
  refine bD ?_
  refine bU [] [(13, (aE (!x1)))] ?_
  refine bF h0 (fun h0 => ?_) (fun h0 => ?_)
  · refine aP ?_
    refine aW aD 2 ?_
    obtain ⟨x5, hx6, h0⟩ := aZ h0
    refine dL (DZ  _ hx6) hO ?_
    intro H hO
    refine bD ?_
    refine bE [(6, (aE x5))] ?_
    refine bI ?_
    obtain rfl := oI h0
    exact aG (aQ (Q_r hO))
  refine bG ?_
  refine bE [(0, (eL aH l0)), (1, (eI n1)), (2, (eI cD))] ?_
  refine aP ?_
  refine aW aD 9 ?_
  refine bV 3 ?_
  obtain ⟨x8, hx9, h0⟩ := aZ h0
  refine dL (BE l0 n1 cD _ hx9) hO ?_
  intro H hO
  refine bD ?_
  refine bU [] [(7, (eL aV x8.1)), (8, (eI x8.2))] ?_
  refine aP ?_
  refine aW aD 9 ?_
  refine bV 3 ?_
  obtain ⟨x11, hx12, h0⟩ := aZ h0
  refine dL (MB l0 n1 cD _ hx12) hO ?_
  intro H hO
  refine bD ?_
  refine bU [0, 1, 2] [(9, (eL aV x11.1)), (10, (eI x11.2))] ?_
  refine aP ?_
  refine aW aD 12 ?_
  obtain ⟨x14, hx15, h0⟩ := aZ h0
  refine dL (DZ  _ hx15) hO ?_
  intro H hO
  refine bV 9 ?_
  obtain ⟨x17, hx18, h0⟩ := aZ h0
  refine nK [(35, true)] 16 [(eL aV x8.1), (eL aV x11.1)] (aE x17) (x14 && (decide (x8.2 = x11.2))) (by kernel_rfl) (by kernel_rfl) (by kernel_rfl) (fun hb19 => (OS x8.1 x11.1 _ (iV hx18 hb19))) hO ?_
  intro H hO
  refine bD ?_
  refine bE [(6, (aE ((x14 && (decide (x8.2 = x11.2))) && x17)))] ?_
  refine bI ?_
  obtain rfl := oI h0
  exact aG (Q_r hO)

end Go.Abs
namespace Go.Abs
open Go Go.RowKit Go.Proofs
theorem EK {H : Type} {enc : TypeId × Value → H} {w : World} : wI enc Try.prog w 53 aC zI :=
  CY Try.underlying53 (by kernel_rfl) (sF (c' := FM) (ok' := zI) (fun (a : Int) (b : Int × ByteArray × Unit) => (aB.mk a b.1 b.2.1 : aB)) (by kernel_rfl) (AA Try.underlying51) (sF (c' := fun (b : Int × ByteArray × Unit) => (V.cells (cX .i64 b.1) ++ (V.cells (xA b.2.1) ++ []))) (ok' := fun b => (wV b.1 ∧ ((fun s => s.size ≤ maxLen) b.2.1 ∧ True))) (fun a b => (a, b)) (by kernel_rfl) (AA Try.underlying3) (sF (c' := fun (b : ByteArray × Unit) => (V.cells (xA b.1) ++ [])) (ok' := fun b => ((fun s => s.size ≤ maxLen) b.1 ∧ True)) (fun a b => (a, b)) (by kernel_rfl) (NG Try.underlying9) (IF ()) (fun _ _ => rfl) (fun _ _ h1 h2 => ⟨h1, h2⟩)) (fun _ _ => rfl) (fun _ _ h1 h2 => ⟨h1, h2⟩)) (fun _ _ => rfl) (fun _ _ h1 h2 => ⟨h1, h2⟩))

theorem FE {H : Type} {enc : TypeId × Value → H} {w : World} : wI enc Try.prog w 57 aH uL :=
  CY Try.underlying57 (by kernel_rfl) (sF (c' := IC) (ok' := uL) (fun (a : (List aB)) (b : Int × Int × Unit) => (aI.mk a b.1 b.2.1 : aI)) (by kernel_rfl) (QJ Try.underlying55 (by decide +kernel) (fun _ => by kernel_rfl) (fun _ => rfl) EK (by kernel_rfl)) (sF (c' := fun (b : Int × Int × Unit) => (V.cells (cX .i64 b.1) ++ (V.cells (cX .i64 b.2.1) ++ []))) (ok' := fun b => (wV b.1 ∧ (wV b.2.1 ∧ True))) (fun a b => (a, b)) (by kernel_rfl) (AA Try.underlying3) (sF (c' := fun (b : Int × Unit) => (V.cells (cX .i64 b.1) ++ [])) (ok' := fun b => (wV b.1 ∧ True)) (fun a b => (a, b)) (by kernel_rfl) (AA Try.underlying3) (IF ()) (fun _ _ => rfl) (fun _ _ h1 h2 => ⟨h1, h2⟩)) (fun _ _ => rfl) (fun _ _ h1 h2 => ⟨h1, h2⟩)) (fun _ _ => rfl) (fun _ _ h1 h2 => ⟨h1, h2⟩))

end Go.Abs
namespace Go.Abs
open Go
theorem dB {n : Int} (h1 : -9223372036854775808 ≤ n) (h2 : n ≤ 9223372036854775807) : IntKind.i64.wrap n = n := by
  simp only [IntKind.wrap, IntKind.bits, IntKind.signed]
  simp
  split <;> omega

def vA {α st R : Type} (step : st → α → Option (st ⊕ R)) (fin : st → R) : st → List α → Option R
  | s, [] => some (fin s)
  | s, a :: r => match step s a with
    | some (.inl s') => vA step fin s' r
    | some (.inr x) => some x
    | none => none

theorem TG {α st R : Type} {step : st → α → Option (st ⊕ R)} {fin : st → R} {s s' : st} {a : α} {r : List α} (h : step s a = some (.inl s')) : vA step fin s (a :: r) = vA step fin s' r := by
  simp only [vA, h]

theorem TH {α st R : Type} {step : st → α → Option (st ⊕ R)} {fin : st → R} {s : st} {x : R} {a : α} {r : List α} (h : step s a = some (.inr x)) : vA step fin s (a :: r) = some x := by
  simp only [vA, h]

theorem RB {α S st R : Type} {body : S → Option (S ⊕ R)} {l : List α} (mk : st → Int → S) (step : st → α → Option (st ⊕ R)) (fin : st → R)
    (hn : ∀ (i : Nat) a s, l[i]? = some a → (∀ s', step s a = some (.inl s') → body (mk s i) = some (.inl (mk s' ((i + 1 : Nat) : Int)))) ∧ (∀ x, step s a = some (.inr x) → body (mk s i) = some (.inr x)))
    (he : ∀ s, body (mk s (l.length : Nat)) = some (.inr (fin s))) : ∀ (m k : Nat) (s : st) (r : R), l.length - k = m → k ≤ l.length → vA step fin s (l.drop k) = some r → lp body (mk s k) = some r
  | 0, k, s, r, hm, hk, h => by
    have : k = l.length := by omega
    subst this
    rw [List.drop_length] at h
    simp only [vA, Option.some.injEq] at h
    subst h
    exact cQ (he s)
  | m + 1, k, s, r, hm, hk, h => by
    have hlt : k < l.length := by omega
    have hd : l.drop k = l[k] :: l.drop (k + 1) := List.drop_eq_getElem_cons hlt
    rw [hd] at h
    simp only [vA] at h
    obtain ⟨h1, h2⟩ := hn k l[k] s (List.getElem?_eq_getElem hlt)
    split at h
    · rename_i s' hs
      rw [fB (h1 s' hs)]
      exact RB mk step fin hn he m (k + 1) s' r (by omega) (by omega) h
    · rename_i x hs
      simp at h; subst h
      exact cQ (h2 x hs)
    · cases h

theorem YB {α S st R : Type} {body : S → Option (S ⊕ R)} {l : List α} (mk : st → Int → S) (step : st → α → Option (st ⊕ R)) (fin : st → R)
    (hn : ∀ (i : Nat) a s, l[i]? = some a → (∀ s', step s a = some (.inl s') → body (mk s i) = some (.inl (mk s' ((i + 1 : Nat) : Int)))) ∧ (∀ x, step s a = some (.inr x) → body (mk s i) = some (.inr x)))
    (he : ∀ s, body (mk s (l.length : Nat)) = some (.inr (fin s))) {s : st} {r : R} (h : vA step fin s l = some r) : lp body (mk s 0) = some r :=
  RB mk step fin hn he _ 0 s r rfl (Nat.zero_le _) (by simpa using h)

theorem idx {α : Type} [Inhabited α] {l : List α} {i : Nat} {a : α} (h : l[i]? = some a) (hl : l.length < 4611686018427387904) :
    decide ((i : Int) < ((l.length : Nat) : Int)) = true ∧ (0 ≤ (i : Int) ∧ (i : Int) < ((l.length : Nat) : Int)) ∧ l.getD (Int.toNat (i : Int)) default = a ∧ IntKind.i64.wrap ((i : Int) + 1) = ((i + 1 : Nat) : Int) := by
  have hlt : i < l.length := (List.getElem?_eq_some_iff.1 h).1
  refine ⟨by simpa using hlt, ⟨by omega, by omega⟩, ?_, ?_⟩
  · rw [Int.toNat_natCast, List.getD_eq_getElem?_getD, h]; rfl
  · rw [dB (by omega) (by omega)]; omega

theorem iC {n : Nat} : decide (((n : Nat) : Int) < ((n : Nat) : Int)) = false := by simp

theorem aBm {α : Type} {j : α} {r : List α} : (0 : Int) ≤ 0 ∧ (0 : Int) < ((List.length (j :: r) : Nat) : Int) := ⟨by omega, by simp⟩

theorem aAz {α : Type} [Inhabited α] {j : α} {r : List α} : List.getD (j :: r) (Int.toNat (0 : Int)) default = j := rfl

end Go.Abs
namespace Go.Abs
open Go
theorem drop_cons {α : Type} {l r : List α} {a : α} {k : Nat} (h : l.drop k = a :: r) : l[k]? = some a ∧ l.drop (k + 1) = r := by
  have hk : k < l.length := by
    apply Classical.byContradiction; intro hn
    rw [List.drop_eq_nil_of_le (by omega)] at h; cases h
  rw [List.drop_eq_getElem_cons hk] at h
  obtain ⟨h1, h2⟩ := List.cons.inj h
  exact ⟨by rw [List.getElem?_eq_getElem hk, h1], h2⟩

theorem VY {α S st R : Type} {body : S → Option (S ⊕ R)} {l : List α} (mk : st → Int → S) (G : st → List α → R) (Inv : st → List α → Prop)
    (hn : ∀ (i : Nat) a r s, l[i]? = some a → Inv s (a :: r) → (∃ s', body (mk s i) = some (.inl (mk s' ((i + 1 : Nat) : Int))) ∧ Inv s' r ∧ G s' r = G s (a :: r)) ∨ body (mk s i) = some (.inr (G s (a :: r))))
    (he : ∀ s, Inv s [] → body (mk s (l.length : Nat)) = some (.inr (G s []))) : ∀ (r : List α) (k : Nat) (s : st), l.drop k = r → k ≤ l.length → Inv s r → lp body (mk s k) = some (G s r)
  | [], k, s, hd, hk, hi => by
    have : k = l.length := by
      have := congrArg List.length hd
      simp only [List.length_drop, List.length_nil] at this; omega
    subst this
    exact cQ (he s hi)
  | a :: r, k, s, hd, hk, hi => by
    obtain ⟨h1, h2⟩ := drop_cons hd
    have hlt : k < l.length := (List.getElem?_eq_some_iff.1 h1).1
    rcases hn k a r s h1 hi with ⟨s', hb, hi', hg⟩ | hb
    · rw [fB hb, VY mk G Inv hn he r (k + 1) s' h2 (by omega) hi', hg]
    · exact cQ hb

theorem qS {α S st R : Type} {body : S → Option (S ⊕ R)} {l : List α} (mk : st → Int → S) (G : st → List α → R) (Inv : st → List α → Prop) (s : st)
    (hn : ∀ (i : Nat) a r s, l[i]? = some a → Inv s (a :: r) → (∃ s', body (mk s i) = some (.inl (mk s' ((i + 1 : Nat) : Int))) ∧ Inv s' r ∧ G s' r = G s (a :: r)) ∨ body (mk s i) = some (.inr (G s (a :: r))))
    (he : ∀ s, Inv s [] → body (mk s (l.length : Nat)) = some (.inr (G s []))) (hi : Inv s l) : lp body (mk s 0) = some (G s l) :=
  VY mk G Inv hn he l 0 s rfl (Nat.zero_le _) hi

theorem AT {α S R : Type} {body : S → Option (S ⊕ R)} {l : List α} (mk : Int → S) (bad : α → Bool) (x y : R)
    (hn : ∀ (i : Nat) a, l[i]? = some a → body (mk i) = some (if bad a then .inr x else .inl (mk ((i + 1 : Nat) : Int))))
    (he : body (mk (l.length : Nat)) = some (.inr y)) : lp body (mk 0) = some (if l.any bad then x else y) := by
  refine qS (st := Unit) (fun _ i => mk i) (fun _ r => if r.any bad then x else y) (fun _ _ => True) () ?_ ?_ trivial
  · intro i a r s ha _
    have hb := hn i a ha
    cases h : bad a
    · left; refine ⟨(), ?_, trivial, ?_⟩
      · simpa [h] using hb
      · simp [List.any_cons, h]
    · right; simpa [h, List.any_cons] using hb
  · intro _ _; simpa using he

end Go.Abs
namespace Go.Abs
open Go
variable {α : Type} [Inhabited α]
structure Cmp {β : Type} (ok : β → Prop) (le : β → β → Prop) (cmp : β → β → Option Int) : Prop where
  ans : ∀ x y, ok x → ok y → ∃ v, cmp x y = some v ∧ (v < 0 ↔ ¬ le y x)
  trans : ∀ x y z, ok x → ok y → ok z → le x y → le y z → le x z
  total : ∀ x y, ok x → ok y → le x y ∨ le y x

abbrev Srt {β : Type} (le : β → β → Prop) (l : List β) : Prop := l.Pairwise le

abbrev Oks {β : Type} (ok : β → Prop) (l : List β) : Prop := ∀ x ∈ l, ok x

theorem wr {n : Int} (h1 : -1099511627776 ≤ n) (h2 : n ≤ 8796093022208) : IntKind.i64.wrap n = n := dB (by omega) (by omega)

section ins
variable {ok : α → Prop} {le : α → α → Prop} {cmp : α → α → Option Int}
end ins
end Go.Abs
namespace Go.Abs
open Go
variable {α : Type} [Inhabited α]
theorem half {s : Nat} (h : s ≤ 4398046511104) : IntKind.i64.wrap (Int.fdiv (IntKind.u64.wrap (IntKind.i64.wrap (s : Int))) (2 ^ (min (Int.toNat (1 : Int)) 64))) = ((s / 2 : Nat) : Int) := by
  rw [wr (n := (s : Int)) (by omega) (by omega)]
  have hu : IntKind.u64.wrap (s : Int) = (s : Int) := by
    simp only [IntKind.wrap, IntKind.bits, IntKind.signed]
    simp
    omega
  have hp : (2 : Int) ^ (min (Int.toNat (1 : Int)) 64) = 2 := by decide
  rw [hu, hp, Int.fdiv_eq_ediv_of_nonneg _ (by omega), wr (by omega) (by omega)]
  omega

section sym
variable {ok : α → Prop} {le : α → α → Prop} {cmp : α → α → Option Int}
theorem Cmp.refl {β : Type} {ok : β → Prop} {le : β → β → Prop} {cmp : β → β → Option Int} (C : Cmp ok le cmp) {x : β} (h : ok x) : le x x := by rcases C.total x x h h with h | h <;> exact h

end sym
end Go.Abs
namespace Go.Abs
open Go
variable {α : Type} [Inhabited α] {ok : α → Prop} {le : α → α → Prop} {cmp : α → α → Option Int}
inductive JO {β : Type} (le : β → β → Prop) (n : Nat) : List β → Prop
  | last {l : List β} : l.length ≤ n → Srt le l → JO le n l
  | cons {x l : List β} : x.length = n → Srt le x → JO le n l → JO le n (x ++ l)

theorem JO.split {β : Type} {le : β → β → Prop} {n : Nat} {l : List β} (h : JO le n l) (hl : n < l.length) : ∃ x r, l = x ++ r ∧ x.length = n ∧ Srt le x ∧ JO le n r := by
  cases h with
  | last h' _ => omega
  | cons hx hs hr => exact ⟨_, _, rfl, hx, hs, hr⟩

theorem Oks.perm {β : Type} {ok : β → Prop} {l l' : List β} (h : Oks ok l) (hp : l'.Perm l) : Oks ok l' := fun x hx => h x (hp.mem_iff.1 hx)

end Go.Abs
namespace Go.Abs
open Go
structure aBg where
  Row : (List aB)
  Span : cE
  deriving Inhabited, DecidableEq

structure aBl where
  Kind : Int
  Input : Int
  Edges : (List aI)
  At : Int
  deriving Inhabited, DecidableEq

structure aBh where
  row : (List aB)
  jumps : (List aM)
  deriving Inhabited, DecidableEq

end Go.Abs
namespace Go.Abs
open Go
def ET (n : Int) : Bool := decide (n ≤ 1048576) && decide (-1048576 ≤ n)

theorem ZK (n : Int) : xB n = some (ET n) := rfl

def oK (last : Int) (j : aM) : Bool := decide (j.At ≤ last) || decide (1125899906842624 ≤ j.At) || decide (j.Net = 0) || !ET j.Net

def chk (last : Int) : List aM → Bool
  | [] => true
  | j :: r => !oK last j && chk j.At r

def mG (f : List aM) : Bool := decide (f.length ≤ 1024) && chk (-2) f

theorem OI {f : List aM} {i : Nat} {a : aM} {last : Int} (ha : f[i]? = some a) (hl : f.length < 4611686018427387904) :
    mC f (f.length : Nat) last i = some (if oK last a then .inr (.inr false) else .inl (a.At, ((i + 1 : Nat) : Int))) := by
  obtain ⟨d1, d2, d3, d4⟩ := idx ha hl
  simp only [mC, d1, cond_true, aJ d2, d3, d4, ZK]
  unfold oK
  cases h : (decide (a.At ≤ last) || decide (1125899906842624 ≤ a.At) || decide (a.Net = 0)) <;> cases h2 : ET a.Net <;> simp [cV]

theorem NB : ∀ (f : List aM) (last : Int), vA (fun last (j : aM) => some (if oK last j then .inr (.inr false) else .inl j.At)) (fun _ => (.inl () : Unit ⊕ Bool)) last f = some (if chk last f then .inl () else .inr false)
  | [], last => by simp [vA, chk]
  | j :: r, last => by
    cases h : oK last j
    · rw [TG (s' := j.At) (by simp [h])]
      rw [NB r j.At]
      simp [chk, h]
    · rw [TH (x := .inr false) (by simp [h])]
      simp [chk, h]

theorem ND (f : List aM) : pH f = some (mG f) := by
  unfold pH mG
  by_cases hl : f.length ≤ 1024
  · have h1 : decide ((1024 : Int) < ((f.length : Nat) : Int)) = false := by simp; omega
    rw [h1, cond_false]
    unfold xJ
    have key := YB (l := f) (body := fun s : Int × Int => mC f (f.length : Nat) s.1 s.2) (fun last i => (last, i)) _ _
      (fun i a s ha => by
        constructor
        · intro s' hs
          show mC f (f.length : Nat) s i = _
          rw [OI ha (by omega)]
          split at hs <;> simp_all
        · intro x hs
          show mC f (f.length : Nat) s i = _
          rw [OI ha (by omega)]
          split at hs <;> simp_all)
      (fun s => by show mC f (f.length : Nat) s (f.length : Nat) = _; simp only [mC, iC, cond_false]) (NB f (-2))
    rw [key]
    cases h : chk (-2) f <;> simp [uJ, hl]
  · have h1 : decide ((1024 : Int) < ((f.length : Nat) : Int)) = true := by simp; omega
    rw [h1, cond_true]
    simp [hl]

theorem lC {last : Int} {j : aM} : oK last j = false ↔ last < j.At ∧ j.At < 1125899906842624 ∧ j.Net ≠ 0 ∧ j.Net ≤ 1048576 ∧ -1048576 ≤ j.Net := by
  simp [oK, ET]
  omega

def sV (last : Int) : List aM → Prop
  | [] => True
  | j :: r => (last < j.At ∧ j.At < 1125899906842624 ∧ j.Net ≠ 0 ∧ j.Net ≤ 1048576 ∧ -1048576 ≤ j.Net) ∧ sV j.At r

theorem RV : ∀ {f : List aM} {last : Int}, chk last f = true ↔ sV last f
  | [], last => by simp [chk, sV]
  | j :: r, last => by simp [chk, sV, lC, RV]

theorem qC {f : List aM} : mG f = true ↔ f.length ≤ 1024 ∧ sV (-2) f := by simp [mG, RV]

theorem sV.above : ∀ {f : List aM} {last : Int}, sV last f → ∀ j ∈ f, last < j.At ∧ j.At < 1125899906842624 ∧ j.Net ≠ 0 ∧ j.Net ≤ 1048576 ∧ -1048576 ≤ j.Net
  | [], _, _, j, hj => by simp at hj
  | a :: r, last, h, j, hj => by
    rcases List.mem_cons.1 hj with rfl | hj
    · exact h.1
    · have := h.2.above j hj
      have h1 := h.1.1
      exact ⟨by omega, this.2⟩

def val (f : List aM) (t : Int) : Int := (f.map fun j => if j.At ≤ t then j.Net else 0).sum

theorem RS (t : Int) : val [] t = 0 := rfl

theorem lJ (j : aM) (r : List aM) (t : Int) : val (j :: r) t = (if j.At ≤ t then j.Net else 0) + val r t := by simp [val]

theorem DX {f : List aM} {t : Int} (h : ∀ j ∈ f, t < j.At) : val f t = 0 := by
  induction f with
  | nil => rfl
  | cons j r ih =>
    rw [lJ, ih (fun k hk => h k (List.mem_cons_of_mem _ hk))]
    have := h j (List.mem_cons_self ..)
    rw [if_neg (by omega)]; rfl

end Go.Abs
namespace Go.Abs
open Go
section both
variable {op : Int → Int → Option Int} {f g r : List aM} {out : List aM} {a b was t : Int} {j : aM}
end both
def emit (p v was : Int) : List aM := if v = was then [] else [⟨p, v - was⟩]

def YO (was : Int) : List (Int × Int) → List aM
  | [] => []
  | x :: r => emit x.1 x.2 was ++ YO x.2 r

def merge (f g : List aM) (a b : Int) : List (Int × Int × Int) :=
  match f, g with
  | [], [] => []
  | j :: f, [] => (j.At, a + j.Net, b) :: merge f [] (a + j.Net) b
  | [], k :: g => (k.At, a, b + k.Net) :: merge [] g a (b + k.Net)
  | j :: f, k :: g =>
    if j.At < k.At then (j.At, a + j.Net, b) :: merge f (k :: g) (a + j.Net) b
    else if k.At < j.At then (k.At, a, b + k.Net) :: merge (j :: f) g a (b + k.Net)
    else (j.At, a + j.Net, b + k.Net) :: merge f g (a + j.Net) (b + k.Net)

termination_by f.length + g.length
end Go.Abs
namespace Go.Abs
open Go
def comb (OP : Int → Int → Int) (f g : List aM) : List aM := YO 0 ((merge f g 0 0).map fun x => (x.1, OP x.2.1 x.2.2))

end Go.Abs
