/- What the law HopParts stands on: the framework, the given functions as plain functions, their walks, and the plain laws; part 4. -/
import Derived.Test.YteecjdpicjpnfaaHopPartsZ3
set_option linter.unusedSimpArgs false
set_option linter.unusedVariables false
namespace Go.Abs
open Go Go.RowKit Go.Proofs
theorem rS (lo0p : Nat) (aA : (List Int)) (lo1 : Int) (hi2 : Int) (bQ : Int) (r : List Int) (h0 : fT aA lo1 hi2 bQ = some r) : nX Try.prog 100 lo0p 1 (List.map (eI) aA) (List.map (eI) r) [(.msl 1 lo0p 0 (List.length aA)), (eI lo1), (eI hi2), (eI bQ)] (.tup []) := by
  intro H0 hl0
  refine dH Try.func100 ?_
  have hO := aI.vH hl0
  clear hl0
  obtain ⟨N0, hN0⟩ : ∃ n, n = List.length aA := ⟨_, rfl⟩
  have hN : List.length aA = N0 := hN0.symm
  unfold fT at h0
  refine aX aD 2 [1] [(8, (eI lo1))] ?_
  refine cA 0 ?_
  refine eG [(0, (.msl 1 lo0p 0 (List.length aA))), (2, (eI hi2)), (3, (eI bQ)), (8, (eI lo1))] ?_
  refine dY (fun T H => ∃ aA : List Int, ∃ cK : Int, Has T [(0, (.msl 1 lo0p 0 (List.length aA))), (2, (eI hi2)), (3, (eI bQ)), (8, (eI cK))] ∧ aI ⟨H0, [lo0p], []⟩ H [(lo0p, 1, List.map (eI) aA)] ∧ List.length aA = N0 ∧ kX aA hi2 bQ cK = some r) ?_ ⟨aA, lo1, .eq (by kernel_rfl), hO, hN, h0⟩
  clear hO hN h0
  rintro T H ⟨aA, cK, hT, hO, hN, h0⟩
  refine bD hT ?_
  clear hT
  unfold kX at h0
  obtain ⟨rr0, hl0, h0⟩ := aZ h0
  refine cR (by kernel_rfl) (fun (s : List Int × Int) T H => Has T [(0, (.msl 1 lo0p 0 (List.length s.1))), (2, (eI hi2)), (3, (eI bQ)), (8, (eI s.2))] ∧ aI ⟨H0, [lo0p], []⟩ H [(lo0p, 1, List.map (eI) s.1)] ∧ List.length s.1 = N0) hl0 ⟨.eq (by kernel_rfl), hO, hN⟩ ?_
  clear hO hN
  rintro k0 s out1 T H ⟨hT, hO, hN⟩ h1 ho0
  obtain ⟨aA, cK⟩ := s
  replace h1 : dR hi2 bQ aA cK = some out1 := h1
  try dsimp only at hT
  refine bD hT ?_
  clear hT
  unfold dR at h1
  refine cA 1 ?_
  refine aX aD 4 [] [(9, (eI (wR ((wR ((2 : Int) * cK)) + (1 : Int)))))] ?_
  refine aL ?_
  refine aX aD 3 [] [(16, (aE (decide (hi2 ≤ (wR ((wR ((2 : Int) * cK)) + (1 : Int)))))))] ?_
  refine bJ h1 (fun h1 => ?_) (fun h1 => ?_)
  · refine eR 0 ?_
    obtain rfl := oI h1
    obtain rfl : _ = rr0 := ho0
    replace h0 : some aA = some r := h0
    obtain rfl := oI h0
    exact aG (aV (uG (by kernel_rfl) (aV (bS (zI (x := (.tup [])) (by kernel_rfl) (aN.refl _) ⟨rfl, hO.ext, hO.at 0 (by kernel_rfl), by first | rfl | (simp only [List.length_map]; exact hN.trans hN0)⟩)))))
  refine bK ?_
  refine bH [(0, (.msl 1 lo0p 0 (List.length aA))), (2, (eI hi2)), (3, (eI bQ)), (8, (eI cK)), (9, (eI (wR ((wR ((2 : Int) * cK)) + (1 : Int)))))] ?_
  refine dP (fun T H => ∃ aA : List Int, ∃ eJ : Int, Has T [(0, (.msl 1 lo0p 0 (List.length aA))), (2, (eI hi2)), (3, (eI bQ)), (8, (eI cK)), (9, (eI eJ))] ∧ aI ⟨H0, [lo0p], []⟩ H [(lo0p, 1, List.map (eI) aA)] ∧ List.length aA = N0 ∧ gW aA hi2 bQ cK eJ = some out1) ?_ ?_
  · clear hO hN h1
    rintro T H ⟨aA, eJ, hT, hO, hN, h1⟩
    refine bD hT ?_
    clear hT
    unfold gW at h1
    refine aL ?_
    refine aL ?_
    refine eS (eU [51]) aD 14 ?_
    obtain ⟨c2, h1⟩ := bA h1
    refine cI 5 [0 ≤ (wR (bQ + cK)) ∧ (wR (bQ + cK)) < (lN aA)] ⟨c2, trivial⟩ ?_
    refine hU 0 lo0p 1 (0 + Int.toNat (wR (bQ + cK))) (eI (gD aA (wR (bQ + cK)))) (eI (gD aA (wR (bQ + cK)))) (List.map (eI) aA) hO (cF c2) ?_
    obtain ⟨c3, h1⟩ := bA h1
    refine cI 11 [0 ≤ (wR (bQ + eJ)) ∧ (wR (bQ + eJ)) < (lN aA)] ⟨c3, trivial⟩ ?_
    refine hU 0 lo0p 1 (0 + Int.toNat (wR (bQ + eJ))) (eI (gD aA (wR (bQ + eJ)))) (eI (gD aA (wR (bQ + eJ)))) (List.map (eI) aA) hO (cF c3) ?_
    obtain ⟨x4, hx5, h1⟩ := aZ h1
    refine yL (gH (gD aA (wR (bQ + cK))) (gD aA (wR (bQ + eJ))) _ hx5) hO ?_
    intro H hO
    refine gK ?_
    refine bZ [] [(52, (aE (!x4)))] ?_
    refine bJ h1 (fun h1 => ?_) (fun h1 => ?_)
    · refine bL ?_
      obtain rfl := oI h1
      obtain rfl : _ = rr0 := ho0
      replace h0 : some aA = some r := h0
      obtain rfl := oI h0
      exact aG (aO (bE (aO (bE (mZ (x := (.tup [])) (by kernel_rfl) (aN.refl _) ⟨rfl, hO.ext, hO.at 0 (by kernel_rfl), by first | rfl | (simp only [List.length_map]; exact hN.trans hN0)⟩)))))
    refine bK ?_
    refine bH [(0, (.msl 1 lo0p 0 (List.length aA))), (2, (eI hi2)), (3, (eI bQ)), (8, (eI cK)), (9, (eI eJ))] ?_
    refine aL ?_
    refine eS (eU []) aD 24 ?_
    obtain ⟨c8, h1⟩ := bA h1
    refine cI 13 [0 ≤ (wR (bQ + eJ)) ∧ (wR (bQ + eJ)) < (lN aA)] ⟨c8, trivial⟩ ?_
    refine hU 0 lo0p 1 (0 + Int.toNat (wR (bQ + eJ))) (eI (gD aA (wR (bQ + eJ)))) (eI (gD aA (wR (bQ + eJ)))) (List.map (eI) aA) hO (cF c8) ?_
    obtain ⟨c9, h1⟩ := bA h1
    refine cI 19 [0 ≤ (wR (bQ + cK)) ∧ (wR (bQ + cK)) < (lN aA)] ⟨c9, trivial⟩ ?_
    refine hU 0 lo0p 1 (0 + Int.toNat (wR (bQ + cK))) (eI (gD aA (wR (bQ + cK)))) (eI (gD aA (wR (bQ + cK)))) (List.map (eI) aA) hO (cF c9) ?_
    obtain ⟨c10, h1⟩ := bA h1
    refine cI 21 [0 ≤ (wR (bQ + cK)) ∧ (wR (bQ + cK)) < (lN aA)] ⟨c10, trivial⟩ ?_
    refine kV 0 lo0p 1 (0 + Int.toNat (wR (bQ + cK))) (eI (gD aA (wR (bQ + cK)))) (eI (gD aA (wR (bQ + eJ)))) (List.map (eI) aA) [(lo0p, 1, List.map (eI) (List.set aA (Int.toNat (wR (bQ + cK))) (gD aA (wR (bQ + eJ)))))] hO (cF c10) (by simp only [List.set, iO]) ?_
    intro H hO
    replace hN : List.length (List.set aA (Int.toNat (wR (bQ + cK))) (gD aA (wR (bQ + eJ)))) = N0 := by simpa using hN
    obtain ⟨c11, h1⟩ := bA h1
    refine cI 23 [0 ≤ (wR (bQ + eJ)) ∧ (wR (bQ + eJ)) < (lN aA)] ⟨c11, trivial⟩ ?_
    refine kV 0 lo0p 1 (0 + Int.toNat (wR (bQ + eJ))) (eI (gD (List.set aA (Int.toNat (wR (bQ + cK))) (gD aA (wR (bQ + eJ)))) (wR (bQ + eJ)))) (eI (gD aA (wR (bQ + cK)))) (List.map (eI) (List.set aA (Int.toNat (wR (bQ + cK))) (gD aA (wR (bQ + eJ))))) [(lo0p, 1, List.map (eI) (List.set (List.set aA (Int.toNat (wR (bQ + cK))) (gD aA (wR (bQ + eJ)))) (Int.toNat (wR (bQ + eJ))) (gD aA (wR (bQ + cK)))))] hO (nR c11 (by simp [])) (by simp only [List.set, iO]) ?_
    intro H hO
    replace hN : List.length (List.set (List.set aA (Int.toNat (wR (bQ + cK))) (gD aA (wR (bQ + eJ)))) (Int.toNat (wR (bQ + eJ))) (gD aA (wR (bQ + cK)))) = N0 := by simpa using hN
    refine nJ (by kernel_rfl) ?_
    refine dS (l := [(0, (.msl 1 lo0p 0 (List.length (List.set (List.set aA (Int.toNat (wR (bQ + cK))) (gD aA (wR (bQ + eJ)))) (Int.toNat (wR (bQ + eJ))) (gD aA (wR (bQ + cK))))))), (2, (eI hi2)), (3, (eI bQ)), (9, (eI eJ))]) ⟨[(0, (.msl 1 lo0p 0 (List.length aA))), (2, (eI hi2)), (3, (eI bQ)), (9, (eI eJ))], by kernel_rfl, rfl, ⟨aN.eq (by simp []), aN.refl _, aN.refl _, aN.refl _, trivial⟩⟩ ?_
    refine aG (aF (?_))
    refine aW aD 2 ?_
    refine bG ?_
    exact aG (aY (aF (⟨rfl, _, (oI h1).symm, .eq (by kernel_rfl), hO, hN⟩)))
  refine aL ?_
  obtain ⟨c12, h1⟩ := bA h1
  obtain ⟨c13, h1⟩ := bA h1
  obtain ⟨x14, hx15, h1⟩ := aZ h1
  refine eS (eU []) aD 20 ?_
  refine mB (K := fun T H => Has (lift T) [(0, (.msl 1 lo0p 0 (List.length aA))), (2, (eI hi2)), (3, (eI bQ)), (8, (eI cK)), (9, (eI (wR ((wR ((2 : Int) * cK)) + (1 : Int))))), (36, (aE ((decide ((wR ((wR ((wR ((2 : Int) * cK)) + (1 : Int))) + (1 : Int))) < hi2)) && x14)))] ∧ aI ⟨H0, [lo0p], []⟩ H [(lo0p, 1, List.map (eI) aA)]) ?_ ?_
  · refine jZ 5 ?_
    refine kB (t := 21) (e := decide ((wR ((wR ((wR ((2 : Int) * cK)) + (1 : Int))) + (1 : Int))) < hi2)) (by kernel_rfl) (fun hg16 => ?_) (fun hg16 => ?_)
    · refine cI 10 [0 ≤ (wR (bQ + (wR ((wR ((2 : Int) * cK)) + (1 : Int))))) ∧ (wR (bQ + (wR ((wR ((2 : Int) * cK)) + (1 : Int))))) < (lN aA)] ⟨(c12 hg16), trivial⟩ ?_
      refine jG 0 lo0p 1 (0 + Int.toNat (wR (bQ + (wR ((wR ((2 : Int) * cK)) + (1 : Int)))))) (eI (gD aA (wR (bQ + (wR ((wR ((2 : Int) * cK)) + (1 : Int))))))) (eI (gD aA (wR (bQ + (wR ((wR ((2 : Int) * cK)) + (1 : Int))))))) (List.map (eI) aA) (by kernel_rfl) (by kernel_rfl) (by kernel_rfl) hO (by kernel_rfl) (cF (c12 hg16)) ?_
      refine cI 17 [0 ≤ (wR ((wR (bQ + (wR ((wR ((2 : Int) * cK)) + (1 : Int))))) + (1 : Int))) ∧ (wR ((wR (bQ + (wR ((wR ((2 : Int) * cK)) + (1 : Int))))) + (1 : Int))) < (lN aA)] ⟨(c13 hg16), trivial⟩ ?_
      refine jG 0 lo0p 1 (0 + Int.toNat (wR ((wR (bQ + (wR ((wR ((2 : Int) * cK)) + (1 : Int))))) + (1 : Int)))) (eI (gD aA (wR ((wR (bQ + (wR ((wR ((2 : Int) * cK)) + (1 : Int))))) + (1 : Int))))) (eI (gD aA (wR ((wR (bQ + (wR ((wR ((2 : Int) * cK)) + (1 : Int))))) + (1 : Int))))) (List.map (eI) aA) (by kernel_rfl) (by kernel_rfl) (by kernel_rfl) hO (by kernel_rfl) (cF (c13 hg16)) ?_
      refine lZ 84 [(eI (gD aA (wR (bQ + (wR ((wR ((2 : Int) * cK)) + (1 : Int))))))), (eI (gD aA (wR ((wR (bQ + (wR ((wR ((2 : Int) * cK)) + (1 : Int))))) + (1 : Int)))))] (aE x14) (by kernel_rfl) (by kernel_rfl) (gH (gD aA (wR (bQ + (wR ((wR ((2 : Int) * cK)) + (1 : Int)))))) (gD aA (wR ((wR (bQ + (wR ((wR ((2 : Int) * cK)) + (1 : Int))))) + (1 : Int)))) _ (gV hx15 hg16)) hO ?_
      intro H hO
      refine gK ?_
      exact ⟨⟨[(0, (.msl 1 lo0p 0 (List.length aA))), (2, (eI hi2)), (3, (eI bQ)), (8, (eI cK)), (9, (eI (wR ((wR ((2 : Int) * cK)) + (1 : Int))))), (36, (aE x14))], by kernel_rfl, rfl, ⟨aN.refl _, aN.refl _, aN.refl _, aN.refl _, aN.refl _, aN.eq (congrArg aE (gY hg16 rfl).symm), trivial⟩⟩, hO⟩
    refine gK ?_
    exact ⟨⟨[(0, (.msl 1 lo0p 0 (List.length aA))), (2, (eI hi2)), (3, (eI bQ)), (8, (eI cK)), (9, (eI (wR ((wR ((2 : Int) * cK)) + (1 : Int))))), (36, (aE false))], by kernel_rfl, rfl, ⟨aN.refl _, aN.refl _, aN.refl _, aN.refl _, aN.refl _, aN.eq (congrArg aE (gY hg16 rfl).symm), trivial⟩⟩, hO⟩
  · rintro T H ⟨hT, hO⟩
    refine dS hT ?_
    clear hT
    refine aG (aF ?_)
    refine bJ h1 (fun h1 => ?_) (fun h1 => ?_)
    · refine aW aD 3 ?_
      refine bG ?_
      exact aG (aF (⟨rfl, _, _, .eq (by kernel_rfl), hO, hN, h1⟩))
    refine bK ?_
    exact aG (aF (⟨rfl, _, _, .eq (by kernel_rfl), hO, hN, h1⟩))

theorem AB (lo0p : Nat) (aA : (List Int)) (a1 : Int) (b2 : Int) (r : List Int) (h0 : jV aA a1 b2 = some r) : nX Try.prog 79 lo0p 1 (List.map (eI) aA) (List.map (eI) r) [(.msl 1 lo0p 0 (List.length aA)), (eI a1), (eI b2)] (.tup []) := by
  intro H0 hl0
  refine dH Try.func79 ?_
  have hO := aI.vH hl0
  clear hl0
  obtain ⟨N0, hN0⟩ : ∃ n, n = List.length aA := ⟨_, rfl⟩
  have hN : List.length aA = N0 := hN0.symm
  unfold jV at h0
  refine aX aD 2 [] [(6, (eI a1))] ?_
  refine aX aD 1 [] [(7, (eI (0 : Int)))] ?_
  refine aX aD 4 [1, 2] [(8, (eI (wR (b2 - a1))))] ?_
  refine dP (fun T H => ∃ aA : List Int, ∃ bY : Int, ∃ lo7 : Int, ∃ hi8 : Int, Has T [(0, (.msl 1 lo0p 0 (List.length aA))), (6, (eI bY)), (7, (eI lo7)), (8, (eI hi8))] ∧ aI ⟨H0, [lo0p], []⟩ H [(lo0p, 1, List.map (eI) aA)] ∧ List.length aA = N0 ∧ jL aA bY lo7 hi8 = some r) ?_ ?_
  · clear hO hN h0
    rintro T H ⟨aA, bY, lo7, hi8, hT, hO, hN, h0⟩
    refine bD hT ?_
    clear hT
    unfold jL at h0
    refine aX aD 3 [8] [(10, (eI (wR (hi8 - (1 : Int)))))] ?_
    refine cA 2 ?_
    refine eG [(0, (.msl 1 lo0p 0 (List.length aA))), (6, (eI bY)), (7, (eI lo7)), (10, (eI (wR (hi8 - (1 : Int)))))] ?_
    refine dY (fun T H => ∃ aA : List Int, ∃ i10 : Int, Has T [(0, (.msl 1 lo0p 0 (List.length aA))), (6, (eI bY)), (7, (eI lo7)), (10, (eI i10))] ∧ aI ⟨H0, [lo0p], []⟩ H [(lo0p, 1, List.map (eI) aA)] ∧ List.length aA = N0 ∧ kZ aA bY lo7 i10 = some r) ?_ ⟨aA, wR (hi8 - (1 : Int)), .eq (by kernel_rfl), hO, hN, h0⟩
    clear hO hN h0
    rintro T H ⟨aA, i10, hT, hO, hN, h0⟩
    refine bD hT ?_
    clear hT
    unfold kZ at h0
    obtain ⟨rr0, hl0, h0⟩ := aZ h0
    refine cR (by kernel_rfl) (fun (s : List Int × Int) T H => Has T [(0, (.msl 1 lo0p 0 (List.length s.1))), (6, (eI bY)), (7, (eI lo7)), (10, (eI s.2))] ∧ aI ⟨H0, [lo0p], []⟩ H [(lo0p, 1, List.map (eI) s.1)] ∧ List.length s.1 = N0) hl0 ⟨.eq (by kernel_rfl), hO, hN⟩ ?_
    clear hO hN
    rintro k0 s out1 T H ⟨hT, hO, hN⟩ h1 ho0
    obtain ⟨aA, i10⟩ := s
    replace h1 : eO bY lo7 aA i10 = some out1 := h1
    try dsimp only at hT
    refine bD hT ?_
    clear hT
    unfold eO at h1
    refine aL ?_
    refine aX aD 2 [] [(30, (aE (decide ((0 : Int) ≤ i10))))] ?_
    refine bJ h1 (fun h1 => ?_) (fun h1 => ?_)
    · refine bK ?_
      refine bH [(0, (.msl 1 lo0p 0 (List.length aA))), (6, (eI bY)), (7, (eI lo7)), (10, (eI i10))] ?_
      refine aL ?_
      refine cA 3 ?_
      refine aL ?_
      refine eS (eU []) aD 20 ?_
      obtain ⟨c2, h1⟩ := bA h1
      refine cI 11 [0 ≤ (wR (bY + i10)) ∧ (wR (bY + i10)) < (lN aA)] ⟨c2, trivial⟩ ?_
      refine hU 0 lo0p 1 (0 + Int.toNat (wR (bY + i10))) (eI (gD aA (wR (bY + i10)))) (eI (gD aA (wR (bY + i10)))) (List.map (eI) aA) hO (cF c2) ?_
      obtain ⟨c3, h1⟩ := bA h1
      refine cI 15 [0 ≤ bY ∧ bY < (lN aA)] ⟨c3, trivial⟩ ?_
      refine hU 0 lo0p 1 (0 + Int.toNat bY) (eI (gD aA bY)) (eI (gD aA bY)) (List.map (eI) aA) hO (cF c3) ?_
      obtain ⟨c4, h1⟩ := bA h1
      refine cI 17 [0 ≤ bY ∧ bY < (lN aA)] ⟨c4, trivial⟩ ?_
      refine kV 0 lo0p 1 (0 + Int.toNat bY) (eI (gD aA bY)) (eI (gD aA (wR (bY + i10)))) (List.map (eI) aA) [(lo0p, 1, List.map (eI) (List.set aA (Int.toNat bY) (gD aA (wR (bY + i10)))))] hO (cF c4) (by simp only [List.set, iO]) ?_
      intro H hO
      replace hN : List.length (List.set aA (Int.toNat bY) (gD aA (wR (bY + i10)))) = N0 := by simpa using hN
      obtain ⟨c5, h1⟩ := bA h1
      refine cI 19 [0 ≤ (wR (bY + i10)) ∧ (wR (bY + i10)) < (lN aA)] ⟨c5, trivial⟩ ?_
      refine kV 0 lo0p 1 (0 + Int.toNat (wR (bY + i10))) (eI (gD (List.set aA (Int.toNat bY) (gD aA (wR (bY + i10)))) (wR (bY + i10)))) (eI (gD aA bY)) (List.map (eI) (List.set aA (Int.toNat bY) (gD aA (wR (bY + i10))))) [(lo0p, 1, List.map (eI) (List.set (List.set aA (Int.toNat bY) (gD aA (wR (bY + i10)))) (Int.toNat (wR (bY + i10))) (gD aA bY)))] hO (nR c5 (by simp [])) (by simp only [List.set, iO]) ?_
      intro H hO
      replace hN : List.length (List.set (List.set aA (Int.toNat bY) (gD aA (wR (bY + i10)))) (Int.toNat (wR (bY + i10))) (gD aA bY)) = N0 := by simpa using hN
      refine nJ (by kernel_rfl) ?_
      refine dS (l := [(0, (.msl 1 lo0p 0 (List.length (List.set (List.set aA (Int.toNat bY) (gD aA (wR (bY + i10)))) (Int.toNat (wR (bY + i10))) (gD aA bY))))), (6, (eI bY)), (7, (eI lo7)), (10, (eI i10))]) ⟨[(0, (.msl 1 lo0p 0 (List.length aA))), (6, (eI bY)), (7, (eI lo7)), (10, (eI i10))], by kernel_rfl, rfl, ⟨aN.eq (by simp []), aN.refl _, aN.refl _, aN.refl _, trivial⟩⟩ ?_
      refine aG (aF (?_))
      refine aW aD 5 ?_
      refine bU 4 ?_
      obtain ⟨x6, hx7, h1⟩ := aZ h1
      refine zV [(lo0p, 1, List.map (eI) x6)] 0 (rS lo0p (List.set (List.set aA (Int.toNat bY) (gD aA (wR (bY + i10)))) (Int.toNat (wR (bY + i10))) (gD aA bY)) lo7 i10 bY _ hx7) hO ?_
      intro H hO hl8
      simp only [List.length_map] at hl8
      replace hN := hl8.trans hN
      refine eT ?_
      refine dS (l := [(0, (.msl 1 lo0p 0 (List.length x6))), (6, (eI bY)), (7, (eI lo7)), (10, (eI i10))]) ⟨[(0, (.msl 1 lo0p 0 (List.length (List.set (List.set aA (Int.toNat bY) (gD aA (wR (bY + i10)))) (Int.toNat (wR (bY + i10))) (gD aA bY))))), (6, (eI bY)), (7, (eI lo7)), (10, (eI i10))], by kernel_rfl, rfl, ⟨aN.eq (by simp [hl8]), aN.refl _, aN.refl _, aN.refl _, trivial⟩⟩ ?_
      refine aG (aY (aF (?_)))
      refine aW aD 3 ?_
      refine bG ?_
      exact aG (aF (⟨rfl, _, (oI h1).symm, .eq (by kernel_rfl), hO, hN⟩))
    refine eR 2 ?_
    obtain rfl := oI h1
    obtain rfl : _ = rr0 := ho0
    replace h0 : some aA = some r := h0
    obtain rfl := oI h0
    exact aG (aV (aV (bS (zI (x := (.tup [])) (by kernel_rfl) (aN.refl _) ⟨rfl, hO.ext, hO.at 0 (by kernel_rfl), by first | rfl | (simp only [List.length_map]; exact hN.trans hN0)⟩))))
  refine aL ?_
  refine aW aD 4 ?_
  obtain ⟨c9, h0⟩ := bA h0
  refine oJ [(2 : Int) ≠ 0] ⟨c9, trivial⟩ ?_
  refine bZ [] [(9, (eI (wR (Int.tdiv (wR ((wR (b2 - a1)) - (1 : Int))) (2 : Int)))))] ?_
  refine cA 0 ?_
  refine eG [(0, (.msl 1 lo0p 0 (List.length aA))), (6, (eI a1)), (7, (eI (0 : Int))), (8, (eI (wR (b2 - a1)))), (9, (eI (wR (Int.tdiv (wR ((wR (b2 - a1)) - (1 : Int))) (2 : Int)))))] ?_
  refine dY (fun T H => ∃ aA : List Int, ∃ bY : Int, ∃ lo7 : Int, ∃ hi8 : Int, ∃ i9 : Int, Has T [(0, (.msl 1 lo0p 0 (List.length aA))), (6, (eI bY)), (7, (eI lo7)), (8, (eI hi8)), (9, (eI i9))] ∧ aI ⟨H0, [lo0p], []⟩ H [(lo0p, 1, List.map (eI) aA)] ∧ List.length aA = N0 ∧ kY aA bY lo7 hi8 i9 = some r) ?_ ⟨aA, a1, (0 : Int), wR (b2 - a1), wR (Int.tdiv (wR ((wR (b2 - a1)) - (1 : Int))) (2 : Int)), .eq (by kernel_rfl), hO, hN, h0⟩
  clear hO hN h0
  rintro T H ⟨aA, bY, lo7, hi8, i9, hT, hO, hN, h0⟩
  refine bD hT ?_
  clear hT
  unfold kY at h0
  obtain ⟨rr0, hl0, h0⟩ := aZ h0
  refine cR (by kernel_rfl) (fun (s : List Int × Int) T H => Has T [(0, (.msl 1 lo0p 0 (List.length s.1))), (6, (eI bY)), (7, (eI lo7)), (8, (eI hi8)), (9, (eI s.2))] ∧ aI ⟨H0, [lo0p], []⟩ H [(lo0p, 1, List.map (eI) s.1)] ∧ List.length s.1 = N0) hl0 ⟨.eq (by kernel_rfl), hO, hN⟩ ?_
  clear hO hN
  rintro k0 s out1 T H ⟨hT, hO, hN⟩ h1 ho0
  obtain ⟨aA, i9⟩ := s
  replace h1 : eN bY lo7 hi8 aA i9 = some out1 := h1
  try dsimp only at hT
  refine bD hT ?_
  clear hT
  unfold eN at h1
  refine aL ?_
  refine aX aD 2 [] [(19, (aE (decide ((0 : Int) ≤ i9))))] ?_
  refine bJ h1 (fun h1 => ?_) (fun h1 => ?_)
  · refine bK ?_
    refine bH [(0, (.msl 1 lo0p 0 (List.length aA))), (6, (eI bY)), (7, (eI lo7)), (8, (eI hi8)), (9, (eI i9))] ?_
    refine aL ?_
    refine cA 1 ?_
    refine aW aD 5 ?_
    refine bU 4 ?_
    obtain ⟨x11, hx12, h1⟩ := aZ h1
    refine zV [(lo0p, 1, List.map (eI) x11)] 0 (rS lo0p aA i9 hi8 bY _ hx12) hO ?_
    intro H hO hl13
    simp only [List.length_map] at hl13
    replace hN := hl13.trans hN
    refine eT ?_
    refine dS (l := [(0, (.msl 1 lo0p 0 (List.length x11))), (6, (eI bY)), (7, (eI lo7)), (8, (eI hi8)), (9, (eI i9))]) ⟨[(0, (.msl 1 lo0p 0 (List.length aA))), (6, (eI bY)), (7, (eI lo7)), (8, (eI hi8)), (9, (eI i9))], by kernel_rfl, rfl, ⟨aN.eq (by simp [hl13]), aN.refl _, aN.refl _, aN.refl _, aN.refl _, trivial⟩⟩ ?_
    refine aG (aY (aF (?_)))
    refine aW aD 3 ?_
    refine bG ?_
    exact aG (aF (⟨rfl, _, (oI h1).symm, .eq (by kernel_rfl), hO, hN⟩))
  refine eR 0 ?_
  obtain rfl := oI h1
  obtain rfl : _ = rr0 := ho0
  replace h0 : jL aA bY lo7 hi8 = some r := h0
  exact aG (aV (aV (bS (aF (⟨rfl, _, _, _, _, .eq (by kernel_rfl), hO, hN, h0⟩)))))

theorem DF (FF : Int) (r : Int) (h0 : lQ FF = some r) : dJ Try.prog 101 [(eI FF)] (dG .u64 r) := by
  intro H0
  refine dH Try.func101 ?_
  have hO := aI.start H0
  unfold lQ at h0
  refine aX aD 1 [] [] ?_
  refine aL ?_
  refine aW aD 5 ?_
  refine bU 2 ?_
  obtain ⟨x1, hx2, h0⟩ := aZ h0
  refine dQ (DT (IntKind.u64.wrap FF) _ hx2) hO ?_
  intro H hO
  obtain ⟨c4, h0⟩ := bA h0
  refine oJ [0 ≤ x1] ⟨c4, trivial⟩ ?_
  refine bH [(2, (dG .u64 (IntKind.u64.wrap ((1 : Int) * 2 ^ (min (Int.toNat x1) 64)))))] ?_
  refine bL ?_
  obtain rfl := oI h0
  exact aG (Q_r hO)

theorem EJ (lo0p : Nat) (r0 : Int) (r : (Int × Int)) (h0 : mD r0 = some r) : BO Try.prog 102 [(.lp lo0p 0 0)] [(lo0p, 1, [(dG .u64 r0)])] (fun x L => x = (dG .u64 r.1) ∧ L = [(lo0p, 1, [(dG .u64 r.2)])]) := by
  intro F H0 hO
  obtain ⟨Fh, Fe, Fg⟩ := F
  refine dH Try.func102 ?_
  unfold mD at h0
  refine aX aD 1 [] [] ?_
  refine aL ?_
  refine eS (eU []) aD 10 ?_
  refine jZ 2 ?_
  refine hU 0 lo0p 1 0 (dG .u64 r0) (dG .u64 r0) [(dG .u64 r0)] hO rfl ?_
  refine jZ 5 ?_
  refine hU 0 lo0p 1 0 (dG .u64 r0) (dG .u64 r0) [(dG .u64 r0)] hO rfl ?_
  obtain ⟨c1, h0⟩ := bA h0
  refine cI 9 [0 ≤ (13 : Int)] ⟨c1, trivial⟩ ?_
  refine kV 0 lo0p 1 0 (dG .u64 r0) (dG .u64 (bX .xor .u64 r0 (IntKind.u64.wrap (r0 * 2 ^ (min (Int.toNat (13 : Int)) 64))))) [(dG .u64 r0)] [(lo0p, 1, [(dG .u64 (bX .xor .u64 r0 (IntKind.u64.wrap (r0 * 2 ^ (min (Int.toNat (13 : Int)) 64)))))])] hO rfl (by kernel_rfl) ?_
  intro H hO
  refine nJ (by kernel_rfl) ?_
  refine bZ [] [] ?_
  refine aL ?_
  refine eS (eU []) aD 10 ?_
  refine jZ 2 ?_
  refine hU 0 lo0p 1 0 (dG .u64 (bX .xor .u64 r0 (IntKind.u64.wrap (r0 * 2 ^ (min (Int.toNat (13 : Int)) 64))))) (dG .u64 (bX .xor .u64 r0 (IntKind.u64.wrap (r0 * 2 ^ (min (Int.toNat (13 : Int)) 64))))) [(dG .u64 (bX .xor .u64 r0 (IntKind.u64.wrap (r0 * 2 ^ (min (Int.toNat (13 : Int)) 64)))))] hO rfl ?_
  refine jZ 5 ?_
  refine hU 0 lo0p 1 0 (dG .u64 (bX .xor .u64 r0 (IntKind.u64.wrap (r0 * 2 ^ (min (Int.toNat (13 : Int)) 64))))) (dG .u64 (bX .xor .u64 r0 (IntKind.u64.wrap (r0 * 2 ^ (min (Int.toNat (13 : Int)) 64))))) [(dG .u64 (bX .xor .u64 r0 (IntKind.u64.wrap (r0 * 2 ^ (min (Int.toNat (13 : Int)) 64)))))] hO rfl ?_
  obtain ⟨c2, h0⟩ := bA h0
  refine cI 9 [0 ≤ (7 : Int)] ⟨c2, trivial⟩ ?_
  refine kV 0 lo0p 1 0 (dG .u64 (bX .xor .u64 r0 (IntKind.u64.wrap (r0 * 2 ^ (min (Int.toNat (13 : Int)) 64))))) (dG .u64 (bX .xor .u64 (bX .xor .u64 r0 (IntKind.u64.wrap (r0 * 2 ^ (min (Int.toNat (13 : Int)) 64)))) (Int.fdiv (bX .xor .u64 r0 (IntKind.u64.wrap (r0 * 2 ^ (min (Int.toNat (13 : Int)) 64)))) (2 ^ (min (Int.toNat (7 : Int)) 64))))) [(dG .u64 (bX .xor .u64 r0 (IntKind.u64.wrap (r0 * 2 ^ (min (Int.toNat (13 : Int)) 64)))))] [(lo0p, 1, [(dG .u64 (bX .xor .u64 (bX .xor .u64 r0 (IntKind.u64.wrap (r0 * 2 ^ (min (Int.toNat (13 : Int)) 64)))) (Int.fdiv (bX .xor .u64 r0 (IntKind.u64.wrap (r0 * 2 ^ (min (Int.toNat (13 : Int)) 64)))) (2 ^ (min (Int.toNat (7 : Int)) 64)))))])] hO rfl (by kernel_rfl) ?_
  intro H hO
  refine nJ (by kernel_rfl) ?_
  refine bZ [] [] ?_
  refine aL ?_
  refine eS (eU []) aD 10 ?_
  refine jZ 2 ?_
  refine hU 0 lo0p 1 0 (dG .u64 (bX .xor .u64 (bX .xor .u64 r0 (IntKind.u64.wrap (r0 * 2 ^ (min (Int.toNat (13 : Int)) 64)))) (Int.fdiv (bX .xor .u64 r0 (IntKind.u64.wrap (r0 * 2 ^ (min (Int.toNat (13 : Int)) 64)))) (2 ^ (min (Int.toNat (7 : Int)) 64))))) (dG .u64 (bX .xor .u64 (bX .xor .u64 r0 (IntKind.u64.wrap (r0 * 2 ^ (min (Int.toNat (13 : Int)) 64)))) (Int.fdiv (bX .xor .u64 r0 (IntKind.u64.wrap (r0 * 2 ^ (min (Int.toNat (13 : Int)) 64)))) (2 ^ (min (Int.toNat (7 : Int)) 64))))) [(dG .u64 (bX .xor .u64 (bX .xor .u64 r0 (IntKind.u64.wrap (r0 * 2 ^ (min (Int.toNat (13 : Int)) 64)))) (Int.fdiv (bX .xor .u64 r0 (IntKind.u64.wrap (r0 * 2 ^ (min (Int.toNat (13 : Int)) 64)))) (2 ^ (min (Int.toNat (7 : Int)) 64)))))] hO rfl ?_
  refine jZ 5 ?_
  refine hU 0 lo0p 1 0 (dG .u64 (bX .xor .u64 (bX .xor .u64 r0 (IntKind.u64.wrap (r0 * 2 ^ (min (Int.toNat (13 : Int)) 64)))) (Int.fdiv (bX .xor .u64 r0 (IntKind.u64.wrap (r0 * 2 ^ (min (Int.toNat (13 : Int)) 64)))) (2 ^ (min (Int.toNat (7 : Int)) 64))))) (dG .u64 (bX .xor .u64 (bX .xor .u64 r0 (IntKind.u64.wrap (r0 * 2 ^ (min (Int.toNat (13 : Int)) 64)))) (Int.fdiv (bX .xor .u64 r0 (IntKind.u64.wrap (r0 * 2 ^ (min (Int.toNat (13 : Int)) 64)))) (2 ^ (min (Int.toNat (7 : Int)) 64))))) [(dG .u64 (bX .xor .u64 (bX .xor .u64 r0 (IntKind.u64.wrap (r0 * 2 ^ (min (Int.toNat (13 : Int)) 64)))) (Int.fdiv (bX .xor .u64 r0 (IntKind.u64.wrap (r0 * 2 ^ (min (Int.toNat (13 : Int)) 64)))) (2 ^ (min (Int.toNat (7 : Int)) 64)))))] hO rfl ?_
  obtain ⟨c3, h0⟩ := bA h0
  refine cI 9 [0 ≤ (17 : Int)] ⟨c3, trivial⟩ ?_
  refine kV 0 lo0p 1 0 (dG .u64 (bX .xor .u64 (bX .xor .u64 r0 (IntKind.u64.wrap (r0 * 2 ^ (min (Int.toNat (13 : Int)) 64)))) (Int.fdiv (bX .xor .u64 r0 (IntKind.u64.wrap (r0 * 2 ^ (min (Int.toNat (13 : Int)) 64)))) (2 ^ (min (Int.toNat (7 : Int)) 64))))) (dG .u64 (bX .xor .u64 (bX .xor .u64 (bX .xor .u64 r0 (IntKind.u64.wrap (r0 * 2 ^ (min (Int.toNat (13 : Int)) 64)))) (Int.fdiv (bX .xor .u64 r0 (IntKind.u64.wrap (r0 * 2 ^ (min (Int.toNat (13 : Int)) 64)))) (2 ^ (min (Int.toNat (7 : Int)) 64)))) (IntKind.u64.wrap ((bX .xor .u64 (bX .xor .u64 r0 (IntKind.u64.wrap (r0 * 2 ^ (min (Int.toNat (13 : Int)) 64)))) (Int.fdiv (bX .xor .u64 r0 (IntKind.u64.wrap (r0 * 2 ^ (min (Int.toNat (13 : Int)) 64)))) (2 ^ (min (Int.toNat (7 : Int)) 64)))) * 2 ^ (min (Int.toNat (17 : Int)) 64))))) [(dG .u64 (bX .xor .u64 (bX .xor .u64 r0 (IntKind.u64.wrap (r0 * 2 ^ (min (Int.toNat (13 : Int)) 64)))) (Int.fdiv (bX .xor .u64 r0 (IntKind.u64.wrap (r0 * 2 ^ (min (Int.toNat (13 : Int)) 64)))) (2 ^ (min (Int.toNat (7 : Int)) 64)))))] [(lo0p, 1, [(dG .u64 (bX .xor .u64 (bX .xor .u64 (bX .xor .u64 r0 (IntKind.u64.wrap (r0 * 2 ^ (min (Int.toNat (13 : Int)) 64)))) (Int.fdiv (bX .xor .u64 r0 (IntKind.u64.wrap (r0 * 2 ^ (min (Int.toNat (13 : Int)) 64)))) (2 ^ (min (Int.toNat (7 : Int)) 64)))) (IntKind.u64.wrap ((bX .xor .u64 (bX .xor .u64 r0 (IntKind.u64.wrap (r0 * 2 ^ (min (Int.toNat (13 : Int)) 64)))) (Int.fdiv (bX .xor .u64 r0 (IntKind.u64.wrap (r0 * 2 ^ (min (Int.toNat (13 : Int)) 64)))) (2 ^ (min (Int.toNat (7 : Int)) 64)))) * 2 ^ (min (Int.toNat (17 : Int)) 64)))))])] hO rfl (by kernel_rfl) ?_
  intro H hO
  refine nJ (by kernel_rfl) ?_
  refine bZ [] [] ?_
  refine aL ?_
  refine aW aD 4 ?_
  refine bU 2 ?_
  refine oQ 0 lo0p 1 0 (dG .u64 (bX .xor .u64 (bX .xor .u64 (bX .xor .u64 r0 (IntKind.u64.wrap (r0 * 2 ^ (min (Int.toNat (13 : Int)) 64)))) (Int.fdiv (bX .xor .u64 r0 (IntKind.u64.wrap (r0 * 2 ^ (min (Int.toNat (13 : Int)) 64)))) (2 ^ (min (Int.toNat (7 : Int)) 64)))) (IntKind.u64.wrap ((bX .xor .u64 (bX .xor .u64 r0 (IntKind.u64.wrap (r0 * 2 ^ (min (Int.toNat (13 : Int)) 64)))) (Int.fdiv (bX .xor .u64 r0 (IntKind.u64.wrap (r0 * 2 ^ (min (Int.toNat (13 : Int)) 64)))) (2 ^ (min (Int.toNat (7 : Int)) 64)))) * 2 ^ (min (Int.toNat (17 : Int)) 64))))) (dG .u64 (bX .xor .u64 (bX .xor .u64 (bX .xor .u64 r0 (IntKind.u64.wrap (r0 * 2 ^ (min (Int.toNat (13 : Int)) 64)))) (Int.fdiv (bX .xor .u64 r0 (IntKind.u64.wrap (r0 * 2 ^ (min (Int.toNat (13 : Int)) 64)))) (2 ^ (min (Int.toNat (7 : Int)) 64)))) (IntKind.u64.wrap ((bX .xor .u64 (bX .xor .u64 r0 (IntKind.u64.wrap (r0 * 2 ^ (min (Int.toNat (13 : Int)) 64)))) (Int.fdiv (bX .xor .u64 r0 (IntKind.u64.wrap (r0 * 2 ^ (min (Int.toNat (13 : Int)) 64)))) (2 ^ (min (Int.toNat (7 : Int)) 64)))) * 2 ^ (min (Int.toNat (17 : Int)) 64))))) [(dG .u64 (bX .xor .u64 (bX .xor .u64 (bX .xor .u64 r0 (IntKind.u64.wrap (r0 * 2 ^ (min (Int.toNat (13 : Int)) 64)))) (Int.fdiv (bX .xor .u64 r0 (IntKind.u64.wrap (r0 * 2 ^ (min (Int.toNat (13 : Int)) 64)))) (2 ^ (min (Int.toNat (7 : Int)) 64)))) (IntKind.u64.wrap ((bX .xor .u64 (bX .xor .u64 r0 (IntKind.u64.wrap (r0 * 2 ^ (min (Int.toNat (13 : Int)) 64)))) (Int.fdiv (bX .xor .u64 r0 (IntKind.u64.wrap (r0 * 2 ^ (min (Int.toNat (13 : Int)) 64)))) (2 ^ (min (Int.toNat (7 : Int)) 64)))) * 2 ^ (min (Int.toNat (17 : Int)) 64)))))] hO rfl ?_
  refine bG ?_
  refine bH [(0, (.lp lo0p 0 0)), (2, (dG .u64 (bX .xor .u64 (bX .xor .u64 (bX .xor .u64 r0 (IntKind.u64.wrap (r0 * 2 ^ (min (Int.toNat (13 : Int)) 64)))) (Int.fdiv (bX .xor .u64 r0 (IntKind.u64.wrap (r0 * 2 ^ (min (Int.toNat (13 : Int)) 64)))) (2 ^ (min (Int.toNat (7 : Int)) 64)))) (IntKind.u64.wrap ((bX .xor .u64 (bX .xor .u64 r0 (IntKind.u64.wrap (r0 * 2 ^ (min (Int.toNat (13 : Int)) 64)))) (Int.fdiv (bX .xor .u64 r0 (IntKind.u64.wrap (r0 * 2 ^ (min (Int.toNat (13 : Int)) 64)))) (2 ^ (min (Int.toNat (7 : Int)) 64)))) * 2 ^ (min (Int.toNat (17 : Int)) 64))))))] ?_
  refine bL ?_
  obtain rfl := oI h0
  exact aG (IE hO ⟨rfl, rfl⟩)

theorem xP (lo0p : Nat) (aA : (List Int)) (a1 : Int) (b2 : Int) (r : List Int) (h0 : hY aA a1 b2 = some r) : nX Try.prog 80 lo0p 1 (List.map (eI) aA) (List.map (eI) r) [(.msl 1 lo0p 0 (List.length aA)), (eI a1), (eI b2)] (.tup []) := by
  intro H0 hl0
  refine dH Try.func80 ?_
  have hO := aI.vH hl0
  clear hl0
  obtain ⟨N0, hN0⟩ : ∃ n, n = List.length aA := ⟨_, rfl⟩
  have hN : List.length aA = N0 := hN0.symm
  unfold hY at h0
  refine aX aD 4 [2] [(6, (eI (wR (b2 - a1))))] ?_
  refine aX aD 2 [] [(15, (aE (decide ((8 : Int) ≤ (wR (b2 - a1))))))] ?_
  refine bJ h0 (fun h0 => ?_) (fun h0 => ?_)
  · refine aL ?_
    refine aW aD 4 ?_
    refine bU 2 ?_
    refine lR 1 (dG .u64 0) (by kernel_rfl) (by kernel_rfl) hO ?_
    intro lo2 H hO
    refine jW 1 lo2 1 0 (dG .u64 0) (dG .u64 (IntKind.u64.wrap (wR (b2 - a1)))) [(dG .u64 0)] [(lo0p, 1, List.map (eI) aA), (lo2, 1, [(dG .u64 (IntKind.u64.wrap (wR (b2 - a1))))])] hO rfl (by kernel_rfl) ?_
    intro H hO
    refine eT ?_
    refine bZ [15] [(7, (.lp lo2 0 0))] ?_
    refine aL ?_
    refine aW aD 3 ?_
    refine bU 1 ?_
    obtain ⟨x3, hx4, h0⟩ := aZ h0
    refine dQ (DF (wR (b2 - a1)) _ hx4) hO ?_
    intro H hO
    refine bG ?_
    refine bZ [] [(8, (dG .u64 x3))] ?_
    refine aL ?_
    refine aW aD 7 ?_
    obtain ⟨c6, h0⟩ := bA h0
    refine oJ [(4 : Int) ≠ 0] ⟨c6, trivial⟩ ?_
    refine bH [(0, (.msl 1 lo0p 0 (List.length aA))), (1, (eI a1)), (6, (eI (wR (b2 - a1)))), (7, (.lp lo2 0 0)), (8, (dG .u64 x3)), (9, (eI (wR ((wR (a1 + (wR ((wR (Int.tdiv (wR (b2 - a1)) (4 : Int))) * (2 : Int))))) - (1 : Int)))))] ?_
    refine cA 0 ?_
    refine eG [(0, (.msl 1 lo0p 0 (List.length aA))), (1, (eI a1)), (6, (eI (wR (b2 - a1)))), (7, (.lp lo2 0 0)), (8, (dG .u64 x3)), (9, (eI (wR ((wR (a1 + (wR ((wR (Int.tdiv (wR (b2 - a1)) (4 : Int))) * (2 : Int))))) - (1 : Int)))))] ?_
    refine dY (fun T H => ∃ aA : List Int, ∃ kK : Int, ∃ lY : Int, ∃ jC : Int, ∃ idx9 : Int, Has T [(0, (.msl 1 lo0p 0 (List.length aA))), (1, (eI a1)), (6, (eI kK)), (7, (.lp lo2 0 0)), (8, (dG .u64 jC)), (9, (eI idx9))] ∧ aI ⟨H0, [lo0p], []⟩ H [(lo0p, 1, List.map (eI) aA), (lo2, 1, [(dG .u64 lY)])] ∧ List.length aA = N0 ∧ jQ aA a1 kK lY jC idx9 = some r) ?_ ⟨aA, wR (b2 - a1), IntKind.u64.wrap (wR (b2 - a1)), x3, wR ((wR (a1 + (wR ((wR (Int.tdiv (wR (b2 - a1)) (4 : Int))) * (2 : Int))))) - (1 : Int)), .eq (by kernel_rfl), hO, hN, h0⟩
    clear hO hN h0
    rintro T H ⟨aA, kK, lY, jC, idx9, hT, hO, hN, h0⟩
    refine bD hT ?_
    clear hT
    unfold jQ at h0
    obtain ⟨rr0, hl0, h0⟩ := aZ h0
    refine cR (by kernel_rfl) (fun (s : List Int × Int × Int) T H => Has T [(0, (.msl 1 lo0p 0 (List.length s.1))), (1, (eI a1)), (6, (eI kK)), (7, (.lp lo2 0 0)), (8, (dG .u64 jC)), (9, (eI s.2.2))] ∧ aI ⟨H0, [lo0p], []⟩ H [(lo0p, 1, List.map (eI) s.1), (lo2, 1, [(dG .u64 s.2.1)])] ∧ List.length s.1 = N0) hl0 ⟨.eq (by kernel_rfl), hO, hN⟩ ?_
    clear hO hN
    rintro k0 s out1 T H ⟨hT, hO, hN⟩ h1 ho0
    obtain ⟨aA, lY, idx9⟩ := s
    replace h1 : dK a1 kK jC aA lY idx9 = some out1 := h1
    try dsimp only at hT
    refine bD hT ?_
    clear hT
    unfold dK at h1
    refine aL ?_
    refine aL ?_
    refine aW aD 8 ?_
    obtain ⟨c7, h1⟩ := bA h1
    refine oJ [(4 : Int) ≠ 0] ⟨c7, trivial⟩ ?_
    refine bZ [] [(33, (aE (decide (idx9 ≤ (wR ((wR (a1 + (wR ((wR (Int.tdiv kK (4 : Int))) * (2 : Int))))) + (1 : Int)))))))] ?_
    refine bJ h1 (fun h1 => ?_) (fun h1 => ?_)
    · refine bK ?_
      refine bH [(0, (.msl 1 lo0p 0 (List.length aA))), (1, (eI a1)), (6, (eI kK)), (7, (.lp lo2 0 0)), (8, (dG .u64 jC)), (9, (eI idx9))] ?_
      refine aL ?_
      refine cA 1 ?_
      refine aL ?_
      refine aW aD 6 ?_
      obtain ⟨x9, hx10, h1⟩ := aZ h1
      refine EK [(lo0p, 1, List.map (eI) aA)] [1, 0] (EJ lo2 lY _ hx10) hO ?_
      intro r11 L12 H hP13 hO
      obtain ⟨rfl, rfl⟩ := hP13
      replace hO : aI ⟨H0, [lo0p], []⟩ H [(lo2, 1, [(dG .u64 x9.2)]), (lo0p, 1, List.map (eI) aA)] := hO
      refine bG ?_
      replace hO := hO.pick (L' := [(lo0p, 1, List.map (eI) aA), (lo2, 1, [(dG .u64 x9.2)])]) [1, 0] (by decide) (by kernel_rfl)
      refine bZ [] [(10, (eI (wR (bX .and .u64 x9.1 (IntKind.u64.wrap (jC - (1 : Int)))))))] ?_
      refine dP (fun T H => ∃ aA : List Int, ∃ lY : Int, ∃ fY : Int, Has T [(0, (.msl 1 lo0p 0 (List.length aA))), (1, (eI a1)), (6, (eI kK)), (7, (.lp lo2 0 0)), (8, (dG .u64 jC)), (9, (eI idx9)), (10, (eI fY))] ∧ aI ⟨H0, [lo0p], []⟩ H [(lo0p, 1, List.map (eI) aA), (lo2, 1, [(dG .u64 lY)])] ∧ List.length aA = N0 ∧ fJ aA a1 kK lY jC idx9 fY = some out1) ?_ ?_
      · clear hO hN h1
        rintro T H ⟨aA, lY, fY, hT, hO, hN, h1⟩
        refine bD hT ?_
        clear hT
        unfold fJ at h1
        refine eS (eU []) aD 20 ?_
        obtain ⟨c14, h1⟩ := bA h1
        refine cI 11 [0 ≤ (wR (a1 + fY)) ∧ (wR (a1 + fY)) < (lN aA)] ⟨c14, trivial⟩ ?_
        refine hU 0 lo0p 1 (0 + Int.toNat (wR (a1 + fY))) (eI (gD aA (wR (a1 + fY)))) (eI (gD aA (wR (a1 + fY)))) (List.map (eI) aA) hO (cF c14) ?_
        obtain ⟨c15, h1⟩ := bA h1
        refine cI 15 [0 ≤ idx9 ∧ idx9 < (lN aA)] ⟨c15, trivial⟩ ?_
        refine hU 0 lo0p 1 (0 + Int.toNat idx9) (eI (gD aA idx9)) (eI (gD aA idx9)) (List.map (eI) aA) hO (cF c15) ?_
        obtain ⟨c16, h1⟩ := bA h1
        refine cI 17 [0 ≤ idx9 ∧ idx9 < (lN aA)] ⟨c16, trivial⟩ ?_
        refine kV 0 lo0p 1 (0 + Int.toNat idx9) (eI (gD aA idx9)) (eI (gD aA (wR (a1 + fY)))) (List.map (eI) aA) [(lo0p, 1, List.map (eI) (List.set aA (Int.toNat idx9) (gD aA (wR (a1 + fY))))), (lo2, 1, [(dG .u64 lY)])] hO (cF c16) (by simp only [List.set, iO]) ?_
        intro H hO
        replace hN : List.length (List.set aA (Int.toNat idx9) (gD aA (wR (a1 + fY)))) = N0 := by simpa using hN
        obtain ⟨c17, h1⟩ := bA h1
        refine cI 19 [0 ≤ (wR (a1 + fY)) ∧ (wR (a1 + fY)) < (lN aA)] ⟨c17, trivial⟩ ?_
        refine kV 0 lo0p 1 (0 + Int.toNat (wR (a1 + fY))) (eI (gD (List.set aA (Int.toNat idx9) (gD aA (wR (a1 + fY)))) (wR (a1 + fY)))) (eI (gD aA idx9)) (List.map (eI) (List.set aA (Int.toNat idx9) (gD aA (wR (a1 + fY))))) [(lo0p, 1, List.map (eI) (List.set (List.set aA (Int.toNat idx9) (gD aA (wR (a1 + fY)))) (Int.toNat (wR (a1 + fY))) (gD aA idx9))), (lo2, 1, [(dG .u64 lY)])] hO (nR c17 (by simp [])) (by simp only [List.set, iO]) ?_
        intro H hO
        replace hN : List.length (List.set (List.set aA (Int.toNat idx9) (gD aA (wR (a1 + fY)))) (Int.toNat (wR (a1 + fY))) (gD aA idx9)) = N0 := by simpa using hN
        refine nJ (by kernel_rfl) ?_
        refine dS (l := [(0, (.msl 1 lo0p 0 (List.length (List.set (List.set aA (Int.toNat idx9) (gD aA (wR (a1 + fY)))) (Int.toNat (wR (a1 + fY))) (gD aA idx9))))), (1, (eI a1)), (6, (eI kK)), (7, (.lp lo2 0 0)), (8, (dG .u64 jC)), (9, (eI idx9))]) ⟨[(0, (.msl 1 lo0p 0 (List.length aA))), (1, (eI a1)), (6, (eI kK)), (7, (.lp lo2 0 0)), (8, (dG .u64 jC)), (9, (eI idx9))], by kernel_rfl, rfl, ⟨aN.eq (by simp []), aN.refl _, aN.refl _, aN.refl _, aN.refl _, aN.refl _, trivial⟩⟩ ?_
        refine aG (aY (aF (?_)))
        refine aW aD 3 ?_
        refine bG ?_
        exact aG (aF (⟨rfl, _, (oI h1).symm, .eq (by kernel_rfl), hO, hN⟩))
      refine aX aD 3 [] [(43, (aE (decide (kK ≤ (wR (bX .and .u64 x9.1 (IntKind.u64.wrap (jC - (1 : Int)))))))))] ?_
      refine bJ h1 (fun h1 => ?_) (fun h1 => ?_)
      · refine aW aD 4 ?_
        refine bG ?_
        exact aG (aF (⟨rfl, _, _, _, .eq (by kernel_rfl), hO, hN, h1⟩))
      refine bK ?_
      exact aG (aF (⟨rfl, _, _, _, .eq (by kernel_rfl), hO, hN, h1⟩))
    refine eR 0 ?_
    replace hO := hO.pick (L' := [(lo0p, 1, List.map (eI) aA)]) [0] (by decide) (by kernel_rfl)
    obtain rfl := oI h1
    obtain rfl : _ = rr0 := ho0
    replace h0 : some aA = some r := h0
    obtain rfl := oI h0
    exact aG (aV (aV (bS (zI (x := (.tup [])) (by kernel_rfl) (aN.refl _) ⟨rfl, hO.ext, hO.at 0 (by kernel_rfl), by first | rfl | (simp only [List.length_map]; exact hN.trans hN0)⟩))))
  refine bK ?_
  obtain rfl := oI h0
  exact aG (zI (x := (.tup [])) (by kernel_rfl) (aN.refl _) ⟨rfl, hO.ext, hO.at 0 (by kernel_rfl), by first | rfl | (simp only [List.length_map]; exact hN.trans hN0)⟩)

theorem oR (lo0p : Nat) (aA : (List Int)) (a1 : Int) (b2 : Int) (lo3p : Nat) (tU : Int) (r : ((Int × Int) × Int)) (h0 : gP aA a1 b2 tU = some r) : BO Try.prog 109 [(.msl 1 lo0p 0 (List.length aA)), (eI a1), (eI b2), (.lp lo3p 0 0)] [(lo0p, 1, List.map (eI) aA), (lo3p, 1, [(eI tU)])] (fun x L => x = (.tup [(eI r.1.1), (eI r.1.2)]) ∧ L = [(lo0p, 1, List.map (eI) aA), (lo3p, 1, [(eI r.2)])]) := by
  intro F H0 hO
  obtain ⟨Fh, Fe, Fg⟩ := F
  refine dH Try.func109 ?_
  unfold gP at h0
  refine aX aD 2 [] [] ?_
  refine aL ?_
  refine aL ?_
  refine eS (eU [18]) aD 9 ?_
  obtain ⟨c1, h0⟩ := bA h0
  refine cI 3 [0 ≤ b2 ∧ b2 < (lN aA)] ⟨c1, trivial⟩ ?_
  refine hU 0 lo0p 1 (0 + Int.toNat b2) (eI (gD aA b2)) (eI (gD aA b2)) (List.map (eI) aA) hO (cF c1) ?_
  obtain ⟨c2, h0⟩ := bA h0
  refine cI 7 [0 ≤ a1 ∧ a1 < (lN aA)] ⟨c2, trivial⟩ ?_
  refine hU 0 lo0p 1 (0 + Int.toNat a1) (eI (gD aA a1)) (eI (gD aA a1)) (List.map (eI) aA) hO (cF c2) ?_
  obtain ⟨x3, hx4, h0⟩ := aZ h0
  refine yL (gH (gD aA b2) (gD aA a1) _ hx4) hO ?_
  intro H hO
  refine nJ (by kernel_rfl) ?_
  refine bZ [] [(18, (aE x3))] ?_
  refine bJ h0 (fun h0 => ?_) (fun h0 => ?_)
  · refine aL ?_
    refine aW aD 6 ?_
    refine bU 2 ?_
    refine oQ 1 lo3p 1 0 (eI tU) (eI tU) [(eI tU)] hO rfl ?_
    refine bU 5 ?_
    refine jW 1 lo3p 1 0 (eI tU) (eI (wR (tU + (1 : Int)))) [(eI tU)] [(lo0p, 1, List.map (eI) aA), (lo3p, 1, [(eI (wR (tU + (1 : Int))))])] hO rfl (by kernel_rfl) ?_
    intro H hO
    refine eT ?_
    refine bZ [18] [] ?_
    refine aX aD 4 [1, 2] [(8, (eI b2)), (9, (eI a1))] ?_
    refine bL ?_
    obtain rfl := oI h0
    exact aG (aO (IE hO ⟨rfl, rfl⟩))
  refine bK ?_
  refine bH [(0, (.msl 1 lo0p 0 (List.length aA))), (1, (eI a1)), (2, (eI b2)), (3, (.lp lo3p 0 0))] ?_
  refine aX aD 4 [1, 2] [(8, (eI a1)), (9, (eI b2))] ?_
  refine bL ?_
  obtain rfl := oI h0
  exact aG (IE hO ⟨rfl, rfl⟩)

theorem tD (lo0p : Nat) (aA : (List Int)) (a1 : Int) (b2 : Int) (c3 : Int) (lo4p : Nat) (HR : Int) (r : (Int × Int)) (h0 : iT aA a1 b2 c3 HR = some r) : BO Try.prog 104 [(.msl 1 lo0p 0 (List.length aA)), (eI a1), (eI b2), (eI c3), (.lp lo4p 0 0)] [(lo0p, 1, List.map (eI) aA), (lo4p, 1, [(eI HR)])] (fun x L => x = (eI r.1) ∧ L = [(lo0p, 1, List.map (eI) aA), (lo4p, 1, [(eI r.2)])]) := by
  intro F H0 hO
  obtain ⟨Fh, Fe, Fg⟩ := F
  refine dH Try.func104 ?_
  unfold iT at h0
  refine aX aD 1 [] [] ?_
  refine aL ?_
  refine aW aD 10 ?_
  refine bU 4 ?_
  obtain ⟨x1, hx2, h0⟩ := aZ h0
  refine EK [] [0, 1] (oR lo0p aA a1 b2 lo4p HR _ hx2) hO ?_
  intro r3 L4 H hP5 hO
  obtain ⟨rfl, rfl⟩ := hP5
  replace hO : aI ⟨Fh, Fe, Fg⟩ H [(lo0p, 1, List.map (eI) aA), (lo4p, 1, [(eI x1.2)])] := hO
  refine bG ?_
  refine bZ [1, 2] [(1, (eI x1.1.1)), (2, (eI x1.1.2))] ?_
  refine aL ?_
  refine aW aD 10 ?_
  refine bU 4 ?_
  obtain ⟨x6, hx7, h0⟩ := aZ h0
  refine EK [] [0, 1] (oR lo0p aA x1.1.2 c3 lo4p x1.2 _ hx7) hO ?_
  intro r8 L9 H hP10 hO
  obtain ⟨rfl, rfl⟩ := hP10
  replace hO : aI ⟨Fh, Fe, Fg⟩ H [(lo0p, 1, List.map (eI) aA), (lo4p, 1, [(eI x6.2)])] := hO
  refine bG ?_
  refine bZ [2, 3] [(2, (eI x6.1.1))] ?_
  refine aL ?_
  refine aW aD 10 ?_
  refine bU 4 ?_
  obtain ⟨x11, hx12, h0⟩ := aZ h0
  refine EK [] [0, 1] (oR lo0p aA x1.1.1 x6.1.1 lo4p x6.2 _ hx12) hO ?_
  intro r13 L14 H hP15 hO
  obtain ⟨rfl, rfl⟩ := hP15
  replace hO : aI ⟨Fh, Fe, Fg⟩ H [(lo0p, 1, List.map (eI) aA), (lo4p, 1, [(eI x11.2)])] := hO
  refine bG ?_
  refine bZ [1, 2] [(2, (eI x11.1.2))] ?_
  refine bV aD 2 [(0, (.msl 1 lo0p 0 (List.length aA))), (4, (.lp lo4p 0 0)), (10, (eI x11.1.2))] ?_
  refine bL ?_
  obtain rfl := oI h0
  exact aG (IE hO ⟨rfl, rfl⟩)

theorem lS (lo0p : Nat) (aA : (List Int)) (a1 : Int) (lo2p : Nat) (HB : Int) (r : (Int × Int)) (h0 : eF aA a1 HB = some r) : BO Try.prog 103 [(.msl 1 lo0p 0 (List.length aA)), (eI a1), (.lp lo2p 0 0)] [(lo0p, 1, List.map (eI) aA), (lo2p, 1, [(eI HB)])] (fun x L => x = (eI r.1) ∧ L = [(lo0p, 1, List.map (eI) aA), (lo2p, 1, [(eI r.2)])]) := by
  intro F H0 hO
  obtain ⟨Fh, Fe, Fg⟩ := F
  refine dH Try.func103 ?_
  unfold eF at h0
  refine aX aD 1 [] [] ?_
  refine aL ?_
  refine aW aD 9 ?_
  refine bU 7 ?_
  obtain ⟨x1, hx2, h0⟩ := aZ h0
  refine EK [] [0, 1] (tD lo0p aA (wR (a1 - (1 : Int))) a1 (wR (a1 + (1 : Int))) lo2p HB _ hx2) hO ?_
  intro r3 L4 H hP5 hO
  obtain ⟨rfl, rfl⟩ := hP5
  replace hO : aI ⟨Fh, Fe, Fg⟩ H [(lo0p, 1, List.map (eI) aA), (lo2p, 1, [(eI x1.2)])] := hO
  refine bG ?_
  refine bZ [1] [(6, (eI x1.1))] ?_
  refine bL ?_
  obtain rfl := oI h0
  exact aG (IE hO ⟨rfl, rfl⟩)

theorem yR (lo0p : Nat) (aA : (List Int)) (a1 : Int) (b2 : Int) (r : (Int × Int)) (h0 : iM aA a1 b2 = some r) : BO Try.prog 81 [(.msl 1 lo0p 0 (List.length aA)), (eI a1), (eI b2)] [(lo0p, 1, List.map (eI) aA)] (fun x L => x = (.tup [(eI r.1), (eI r.2)]) ∧ L = [(lo0p, 1, List.map (eI) aA)]) := by
  intro F H0 hO
  obtain ⟨Fh, Fe, Fg⟩ := F
  refine dH Try.func81 ?_
  unfold iM at h0
  refine aX aD 2 [] [] ?_
  refine aX aD 4 [2] [(8, (eI (wR (b2 - a1))))] ?_
  refine aL ?_
  refine aW aD 1 ?_
  refine lR 1 (eI 0) (by kernel_rfl) (by kernel_rfl) hO ?_
  intro lo1 H hO
  refine eT ?_
  refine bZ [] [(9, (.lp lo1 0 0))] ?_
  refine aL ?_
  refine aW aD 6 ?_
  obtain ⟨c2, h0⟩ := bA h0
  refine oJ [(4 : Int) ≠ 0] ⟨c2, trivial⟩ ?_
  refine bZ [] [(10, (eI (wR (a1 + (wR ((wR (Int.tdiv (wR (b2 - a1)) (4 : Int))) * (1 : Int)))))))] ?_
  refine aL ?_
  refine aW aD 6 ?_
  obtain ⟨c3, h0⟩ := bA h0
  refine oJ [(4 : Int) ≠ 0] ⟨c3, trivial⟩ ?_
  refine bH [(0, (.msl 1 lo0p 0 (List.length aA))), (1, (eI a1)), (8, (eI (wR (b2 - a1)))), (9, (.lp lo1 0 0)), (10, (eI (wR (a1 + (wR ((wR (Int.tdiv (wR (b2 - a1)) (4 : Int))) * (1 : Int))))))), (11, (eI (wR (a1 + (wR ((wR (Int.tdiv (wR (b2 - a1)) (4 : Int))) * (2 : Int)))))))] ?_
  refine aL ?_
  refine aW aD 6 ?_
  obtain ⟨c4, h0⟩ := bA h0
  refine oJ [(4 : Int) ≠ 0] ⟨c4, trivial⟩ ?_
  refine bZ [1] [(12, (eI (wR (a1 + (wR ((wR (Int.tdiv (wR (b2 - a1)) (4 : Int))) * (3 : Int)))))))] ?_
  refine dP (fun T H => ∃ mU : Int, ∃ j11 : Int, Has T [(0, (.msl 1 lo0p 0 (List.length aA))), (9, (.lp lo1 0 0)), (11, (eI j11))] ∧ aI ⟨Fh, Fe, Fg⟩ H [(lo0p, 1, List.map (eI) aA), (lo1, 1, [(eI mU)])] ∧ fS aA mU j11 = some r) ?_ ?_
  · clear hO h0
    rintro T H ⟨mU, j11, hT, hO, h0⟩
    refine bD hT ?_
    clear hT
    unfold fS at h0
    refine aL ?_
    refine aW aD 1 ?_
    refine oQ 1 lo1 1 0 (eI mU) (eI mU) [(eI mU)] hO rfl ?_
    refine eT ?_
    replace hO := hO.pick (L' := [(lo0p, 1, List.map (eI) aA)]) [0] (by decide) (by kernel_rfl)
    refine bZ [9] [(49, (eI mU))] ?_
    refine cA 0 ?_
    refine aX aD 2 [] [(51, (aE (decide (mU = (0 : Int)))))] ?_
    refine bJ h0 (fun h0 => ?_) (fun h0 => ?_)
    · refine aX aD 3 [11, 49, 51] [(6, (eI j11)), (7, (eI (1 : Int)))] ?_
      refine bL ?_
      obtain rfl := oI h0
      exact aG (bE (IE hO ⟨rfl, rfl⟩))
    refine aX aD 2 [49, 51] [(54, (aE (decide (mU = (12 : Int)))))] ?_
    refine bJ h0 (fun h0 => ?_) (fun h0 => ?_)
    · refine aX aD 3 [11, 54] [(6, (eI j11)), (7, (eI (2 : Int)))] ?_
      refine bL ?_
      obtain rfl := oI h0
      exact aG (bE (IE hO ⟨rfl, rfl⟩))
    refine aX aD 3 [11, 54] [(6, (eI j11)), (7, (eI (0 : Int)))] ?_
    refine bL ?_
    obtain rfl := oI h0
    exact aG (bE (IE hO ⟨rfl, rfl⟩))
  refine aX aD 2 [] [(32, (aE (decide ((8 : Int) ≤ (wR (b2 - a1))))))] ?_
  refine bJ h0 (fun h0 => ?_) (fun h0 => ?_)
  · refine dP (fun T H => ∃ mU : Int, ∃ i10 : Int, ∃ j11 : Int, ∃ k12 : Int, Has T [(0, (.msl 1 lo0p 0 (List.length aA))), (9, (.lp lo1 0 0)), (10, (eI i10)), (11, (eI j11)), (12, (eI k12))] ∧ aI ⟨Fh, Fe, Fg⟩ H [(lo0p, 1, List.map (eI) aA), (lo1, 1, [(eI mU)])] ∧ fU aA mU i10 j11 k12 = some r) ?_ ?_
    · clear hO h0
      rintro T H ⟨mU, i10, j11, k12, hT, hO, h0⟩
      refine bD hT ?_
      clear hT
      unfold fU at h0
      refine aW aD 6 ?_
      refine bU 4 ?_
      obtain ⟨x8, hx9, h0⟩ := aZ h0
      refine EK [] [0, 1] (tD lo0p aA i10 j11 k12 lo1 mU _ hx9) hO ?_
      intro r10 L11 H hP12 hO
      obtain ⟨rfl, rfl⟩ := hP12
      replace hO : aI ⟨Fh, Fe, Fg⟩ H [(lo0p, 1, List.map (eI) aA), (lo1, 1, [(eI x8.2)])] := hO
      refine bG ?_
      exact aG (aF (⟨rfl, _, _, .eq (by kernel_rfl), hO, h0⟩))
    refine aX aD 2 [8, 32] [(34, (aE (decide ((50 : Int) ≤ (wR (b2 - a1))))))] ?_
    refine bJ h0 (fun h0 => ?_) (fun h0 => ?_)
    · refine aL ?_
      refine aW aD 4 ?_
      refine bU 2 ?_
      obtain ⟨x14, hx15, h0⟩ := aZ h0
      refine EK [] [0, 1] (lS lo0p aA (wR (a1 + (wR ((wR (Int.tdiv (wR (b2 - a1)) (4 : Int))) * (1 : Int))))) lo1 0 _ hx15) hO ?_
      intro r16 L17 H hP18 hO
      obtain ⟨rfl, rfl⟩ := hP18
      replace hO : aI ⟨Fh, Fe, Fg⟩ H [(lo0p, 1, List.map (eI) aA), (lo1, 1, [(eI x14.2)])] := hO
      refine bG ?_
      refine bZ [10, 34] [(10, (eI x14.1))] ?_
      refine aL ?_
      refine aW aD 4 ?_
      refine bU 2 ?_
      obtain ⟨x19, hx20, h0⟩ := aZ h0
      refine EK [] [0, 1] (lS lo0p aA (wR (a1 + (wR ((wR (Int.tdiv (wR (b2 - a1)) (4 : Int))) * (2 : Int))))) lo1 x14.2 _ hx20) hO ?_
      intro r21 L22 H hP23 hO
      obtain ⟨rfl, rfl⟩ := hP23
      replace hO : aI ⟨Fh, Fe, Fg⟩ H [(lo0p, 1, List.map (eI) aA), (lo1, 1, [(eI x19.2)])] := hO
      refine bG ?_
      refine bH [(0, (.msl 1 lo0p 0 (List.length aA))), (9, (.lp lo1 0 0)), (10, (eI x14.1)), (11, (eI x19.1)), (12, (eI (wR (a1 + (wR ((wR (Int.tdiv (wR (b2 - a1)) (4 : Int))) * (3 : Int)))))))] ?_
      refine aW aD 4 ?_
      refine bU 2 ?_
      obtain ⟨x24, hx25, h0⟩ := aZ h0
      refine EK [] [0, 1] (lS lo0p aA (wR (a1 + (wR ((wR (Int.tdiv (wR (b2 - a1)) (4 : Int))) * (3 : Int))))) lo1 x19.2 _ hx25) hO ?_
      intro r26 L27 H hP28 hO
      obtain ⟨rfl, rfl⟩ := hP28
      replace hO : aI ⟨Fh, Fe, Fg⟩ H [(lo0p, 1, List.map (eI) aA), (lo1, 1, [(eI x24.2)])] := hO
      refine bG ?_
      exact aG (aF (⟨rfl, _, _, _, _, .eq (by kernel_rfl), hO, h0⟩))
    refine bK ?_
    exact aG (aF (⟨rfl, _, _, _, _, .eq (by kernel_rfl), hO, h0⟩))
  refine bK ?_
  exact aG (aF (⟨rfl, _, _, .eq (by kernel_rfl), hO, h0⟩))

theorem yN (lo0p : Nat) (aA : (List Int)) (a1 : Int) (b2 : Int) (r : List Int) (h0 : iK aA a1 b2 = some r) : nX Try.prog 82 lo0p 1 (List.map (eI) aA) (List.map (eI) r) [(.msl 1 lo0p 0 (List.length aA)), (eI a1), (eI b2)] (.tup []) := by
  intro H0 hl0
  refine dH Try.func82 ?_
  have hO := aI.vH hl0
  clear hl0
  obtain ⟨N0, hN0⟩ : ∃ n, n = List.length aA := ⟨_, rfl⟩
  have hN : List.length aA = N0 := hN0.symm
  unfold iK at h0
  refine aX aD 2 [1] [(6, (eI a1))] ?_
  refine aX aD 3 [2] [(7, (eI (wR (b2 - (1 : Int)))))] ?_
  refine cA 0 ?_
  refine eG [(0, (.msl 1 lo0p 0 (List.length aA))), (6, (eI a1)), (7, (eI (wR (b2 - (1 : Int)))))] ?_
  refine dY (fun T H => ∃ aA : List Int, ∃ i6 : Int, ∃ j7 : Int, Has T [(0, (.msl 1 lo0p 0 (List.length aA))), (6, (eI i6)), (7, (eI j7))] ∧ aI ⟨H0, [lo0p], []⟩ H [(lo0p, 1, List.map (eI) aA)] ∧ List.length aA = N0 ∧ jY aA i6 j7 = some r) ?_ ⟨aA, a1, wR (b2 - (1 : Int)), .eq (by kernel_rfl), hO, hN, h0⟩
  clear hO hN h0
  rintro T H ⟨aA, i6, j7, hT, hO, hN, h0⟩
  refine bD hT ?_
  clear hT
  unfold jY at h0
  obtain ⟨rr0, hl0, h0⟩ := aZ h0
  refine cR (by kernel_rfl) (fun (s : List Int × Int × Int) T H => Has T [(0, (.msl 1 lo0p 0 (List.length s.1))), (6, (eI s.2.1)), (7, (eI s.2.2))] ∧ aI ⟨H0, [lo0p], []⟩ H [(lo0p, 1, List.map (eI) s.1)] ∧ List.length s.1 = N0) hl0 ⟨.eq (by kernel_rfl), hO, hN⟩ ?_
  clear hO hN
  rintro k0 s out1 T H ⟨hT, hO, hN⟩ h1 ho0
  obtain ⟨aA, i6, j7⟩ := s
  replace h1 : dZ aA i6 j7 = some out1 := h1
  try dsimp only at hT
  refine bD hT ?_
  clear hT
  unfold dZ at h1
  refine aL ?_
  refine aX aD 3 [] [(13, (aE (decide (i6 < j7))))] ?_
  refine bJ h1 (fun h1 => ?_) (fun h1 => ?_)
  · refine bK ?_
    refine bH [(0, (.msl 1 lo0p 0 (List.length aA))), (6, (eI i6)), (7, (eI j7))] ?_
    refine cA 1 ?_
    refine aL ?_
    refine eS (eU []) aD 16 ?_
    obtain ⟨c2, h1⟩ := bA h1
    refine cI 7 [0 ≤ j7 ∧ j7 < (lN aA)] ⟨c2, trivial⟩ ?_
    refine hU 0 lo0p 1 (0 + Int.toNat j7) (eI (gD aA j7)) (eI (gD aA j7)) (List.map (eI) aA) hO (cF c2) ?_
    obtain ⟨c3, h1⟩ := bA h1
    refine cI 11 [0 ≤ i6 ∧ i6 < (lN aA)] ⟨c3, trivial⟩ ?_
    refine hU 0 lo0p 1 (0 + Int.toNat i6) (eI (gD aA i6)) (eI (gD aA i6)) (List.map (eI) aA) hO (cF c3) ?_
    obtain ⟨c4, h1⟩ := bA h1
    refine cI 13 [0 ≤ i6 ∧ i6 < (lN aA)] ⟨c4, trivial⟩ ?_
    refine kV 0 lo0p 1 (0 + Int.toNat i6) (eI (gD aA i6)) (eI (gD aA j7)) (List.map (eI) aA) [(lo0p, 1, List.map (eI) (List.set aA (Int.toNat i6) (gD aA j7)))] hO (cF c4) (by simp only [List.set, iO]) ?_
    intro H hO
    replace hN : List.length (List.set aA (Int.toNat i6) (gD aA j7)) = N0 := by simpa using hN
    obtain ⟨c5, h1⟩ := bA h1
    refine cI 15 [0 ≤ j7 ∧ j7 < (lN aA)] ⟨c5, trivial⟩ ?_
    refine kV 0 lo0p 1 (0 + Int.toNat j7) (eI (gD (List.set aA (Int.toNat i6) (gD aA j7)) j7)) (eI (gD aA i6)) (List.map (eI) (List.set aA (Int.toNat i6) (gD aA j7))) [(lo0p, 1, List.map (eI) (List.set (List.set aA (Int.toNat i6) (gD aA j7)) (Int.toNat j7) (gD aA i6)))] hO (nR c5 (by simp [])) (by simp only [List.set, iO]) ?_
    intro H hO
    replace hN : List.length (List.set (List.set aA (Int.toNat i6) (gD aA j7)) (Int.toNat j7) (gD aA i6)) = N0 := by simpa using hN
    refine nJ (by kernel_rfl) ?_
    refine dS (l := [(0, (.msl 1 lo0p 0 (List.length (List.set (List.set aA (Int.toNat i6) (gD aA j7)) (Int.toNat j7) (gD aA i6))))), (6, (eI i6)), (7, (eI j7))]) ⟨[(0, (.msl 1 lo0p 0 (List.length aA))), (6, (eI i6)), (7, (eI j7))], by kernel_rfl, rfl, ⟨aN.eq (by simp []), aN.refl _, aN.refl _, trivial⟩⟩ ?_
    refine aG (aF (?_))
    refine aX aD 3 [6] [(6, (eI (wR (i6 + (1 : Int)))))] ?_
    refine aW aD 3 ?_
    refine bG ?_
    exact aG (aY (aF (⟨rfl, _, (oI h1).symm, .eq (by kernel_rfl), hO, hN⟩)))
  refine eR 0 ?_
  obtain rfl := oI h1
  obtain rfl : _ = rr0 := ho0
  replace h0 : some aA = some r := h0
  obtain rfl := oI h0
  exact aG (aV (aV (bS (zI (x := (.tup [])) (by kernel_rfl) (aN.refl _) ⟨rfl, hO.ext, hO.at 0 (by kernel_rfl), by first | rfl | (simp only [List.length_map]; exact hN.trans hN0)⟩))))

theorem sO (lo0p : Nat) (aA : (List Int)) (a1 : Int) (b2 : Int) (r : (Bool × List Int)) (h0 : fH aA a1 b2 = some r) : nX Try.prog 83 lo0p 1 (List.map (eI) aA) (List.map (eI) r.2) [(.msl 1 lo0p 0 (List.length aA)), (eI a1), (eI b2)] (aE r.1) := by
  intro H0 hl0
  refine dH Try.func83 ?_
  have hO := aI.vH hl0
  clear hl0
  obtain ⟨N0, hN0⟩ : ∃ n, n = List.length aA := ⟨_, rfl⟩
  have hN : List.length aA = N0 := hN0.symm
  unfold fH at h0
  refine aX aD 1 [] [] ?_
  refine aX aD 3 [] [(7, (eI (wR (a1 + (1 : Int)))))] ?_
  refine dP (fun T H => ∃ aA : List Int, Has T [(0, (.msl 1 lo0p 0 (List.length aA)))] ∧ aI ⟨H0, [lo0p], []⟩ H [(lo0p, 1, List.map (eI) aA)] ∧ List.length aA = N0 ∧ fB aA = some r) ?_ ?_
  · clear hO hN h0
    rintro T H ⟨aA, hT, hO, hN, h0⟩
    refine bD hT ?_
    clear hT
    unfold fB at h0
    refine aX aD 1 [] [(6, (aE false))] ?_
    refine bL ?_
    obtain rfl := oI h0
    exact aG (mZ (x := (aE false)) (by kernel_rfl) (aN.refl _) ⟨rfl, hO.ext, hO.at 0 (by kernel_rfl), by first | rfl | (simp only [List.length_map]; exact hN.trans hN0)⟩)
  refine aX aD 1 [] [(8, (eI (0 : Int)))] ?_
  refine cA 0 ?_
  refine eG [(0, (.msl 1 lo0p 0 (List.length aA))), (1, (eI a1)), (2, (eI b2)), (7, (eI (wR (a1 + (1 : Int))))), (8, (eI (0 : Int)))] ?_
  refine dY (fun T H => ∃ aA : List Int, ∃ i7 : Int, ∃ j8 : Int, Has T [(0, (.msl 1 lo0p 0 (List.length aA))), (1, (eI a1)), (2, (eI b2)), (7, (eI i7)), (8, (eI j8))] ∧ aI ⟨H0, [lo0p], []⟩ H [(lo0p, 1, List.map (eI) aA)] ∧ List.length aA = N0 ∧ gS aA a1 b2 i7 j8 = some r) ?_ ⟨aA, wR (a1 + (1 : Int)), (0 : Int), .eq (by kernel_rfl), hO, hN, h0⟩
  clear hO hN h0
  rintro T H ⟨aA, i7, j8, hT, hO, hN, h0⟩
  refine bD hT ?_
  clear hT
  unfold gS at h0
  obtain ⟨rr0, hl0, h0⟩ := aZ h0
  refine cR (by kernel_rfl) (fun (s : List Int × Int × Int) T H => Has T [(0, (.msl 1 lo0p 0 (List.length s.1))), (1, (eI a1)), (2, (eI b2)), (7, (eI s.2.1)), (8, (eI s.2.2))] ∧ aI ⟨H0, [lo0p], []⟩ H [(lo0p, 1, List.map (eI) s.1)] ∧ List.length s.1 = N0) hl0 ⟨.eq (by kernel_rfl), hO, hN⟩ ?_
  clear hO hN
  rintro k0 s out1 T H ⟨hT, hO, hN⟩ h1 ho0
  obtain ⟨aA, i7, j8⟩ := s
  replace h1 : cD a1 b2 aA i7 j8 = some out1 := h1
  try dsimp only at hT
  refine bD hT ?_
  clear hT
  unfold cD at h1
  refine aL ?_
  refine aX aD 2 [] [(14, (aE (decide (j8 < (5 : Int)))))] ?_
  refine bJ h1 (fun h1 => ?_) (fun h1 => ?_)
  · refine bK ?_
    refine bH [(0, (.msl 1 lo0p 0 (List.length aA))), (1, (eI a1)), (2, (eI b2)), (7, (eI i7)), (8, (eI j8))] ?_
    refine dP (fun T H => ∃ aA : List Int, ∃ i7 : Int, Has T [(0, (.msl 1 lo0p 0 (List.length aA))), (1, (eI a1)), (2, (eI b2)), (7, (eI i7)), (8, (eI j8))] ∧ aI ⟨H0, [lo0p], []⟩ H [(lo0p, 1, List.map (eI) aA)] ∧ List.length aA = N0 ∧ eB aA a1 b2 i7 j8 = some out1) ?_ ?_
    · clear hO hN h1
      rintro T H ⟨aA, i7, hT, hO, hN, h1⟩
      refine bD hT ?_
      clear hT
      unfold eB at h1
      refine aW aD 3 ?_
      refine bG ?_
      exact aG (aF (⟨rfl, _, (oI h1).symm, .eq (by kernel_rfl), hO, hN⟩))
    refine cA 1 ?_
    refine dP (fun T H => ∃ aA : List Int, ∃ i7 : Int, Has T [(0, (.msl 1 lo0p 0 (List.length aA))), (1, (eI a1)), (2, (eI b2)), (7, (eI i7)), (8, (eI j8))] ∧ aI ⟨H0, [lo0p], []⟩ H [(lo0p, 1, List.map (eI) aA)] ∧ List.length aA = N0 ∧ fA aA a1 b2 i7 j8 = some out1) ?_ ?_
    · clear hO hN h1
      rintro T H ⟨aA, i7, hT, hO, hN, h1⟩
      refine bD hT ?_
      clear hT
      unfold fA at h1
      refine aL ?_
      refine aX aD 3 [] [(37, (aE (decide (i7 = b2))))] ?_
      refine bJ h1 (fun h1 => ?_) (fun h1 => ?_)
      · refine aX aD 1 [1, 2, 7, 8, 37] [(6, (aE true))] ?_
        refine bL ?_
        obtain rfl := oI h1
        obtain rfl : _ = rr0 := ho0
        replace h0 : some (true, aA) = some r := h0
        obtain rfl := oI h0
        exact aG (aO (bE (aO (aO (bE (aO (mZ (x := (aE true)) (by kernel_rfl) (aN.refl _) ⟨rfl, hO.ext, hO.at 0 (by kernel_rfl), by first | rfl | (simp only [List.length_map]; exact hN.trans hN0)⟩)))))))
      refine bK ?_
      refine bH [(0, (.msl 1 lo0p 0 (List.length aA))), (1, (eI a1)), (2, (eI b2)), (7, (eI i7)), (8, (eI j8))] ?_
      refine aL ?_
      refine aX aD 4 [] [(41, (aE (decide ((wR (b2 - a1)) < (50 : Int)))))] ?_
      refine bJ h1 (fun h1 => ?_) (fun h1 => ?_)
      · refine aX aD 1 [1, 2, 7, 8, 41] [(6, (aE false))] ?_
        refine bL ?_
        obtain rfl := oI h1
        obtain rfl : _ = rr0 := ho0
        replace h0 : some (false, aA) = some r := h0
        obtain rfl := oI h0
        exact aG (aO (bE (aO (aO (bE (aO (mZ (x := (aE false)) (by kernel_rfl) (aN.refl _) ⟨rfl, hO.ext, hO.at 0 (by kernel_rfl), by first | rfl | (simp only [List.length_map]; exact hN.trans hN0)⟩)))))))
      refine bK ?_
      refine bH [(0, (.msl 1 lo0p 0 (List.length aA))), (1, (eI a1)), (2, (eI b2)), (7, (eI i7)), (8, (eI j8))] ?_
      refine aL ?_
      refine eS (eU []) aD 18 ?_
      obtain ⟨c4, h1⟩ := bA h1
      refine cI 9 [0 ≤ (wR (i7 - (1 : Int))) ∧ (wR (i7 - (1 : Int))) < (lN aA)] ⟨c4, trivial⟩ ?_
      refine hU 0 lo0p 1 (0 + Int.toNat (wR (i7 - (1 : Int)))) (eI (gD aA (wR (i7 - (1 : Int))))) (eI (gD aA (wR (i7 - (1 : Int))))) (List.map (eI) aA) hO (cF c4) ?_
      obtain ⟨c5, h1⟩ := bA h1
      refine cI 13 [0 ≤ i7 ∧ i7 < (lN aA)] ⟨c5, trivial⟩ ?_
      refine hU 0 lo0p 1 (0 + Int.toNat i7) (eI (gD aA i7)) (eI (gD aA i7)) (List.map (eI) aA) hO (cF c5) ?_
      obtain ⟨c6, h1⟩ := bA h1
      refine cI 15 [0 ≤ i7 ∧ i7 < (lN aA)] ⟨c6, trivial⟩ ?_
      refine kV 0 lo0p 1 (0 + Int.toNat i7) (eI (gD aA i7)) (eI (gD aA (wR (i7 - (1 : Int))))) (List.map (eI) aA) [(lo0p, 1, List.map (eI) (List.set aA (Int.toNat i7) (gD aA (wR (i7 - (1 : Int))))))] hO (cF c6) (by simp only [List.set, iO]) ?_
      intro H hO
      replace hN : List.length (List.set aA (Int.toNat i7) (gD aA (wR (i7 - (1 : Int))))) = N0 := by simpa using hN
      obtain ⟨c7, h1⟩ := bA h1
      refine cI 17 [0 ≤ (wR (i7 - (1 : Int))) ∧ (wR (i7 - (1 : Int))) < (lN aA)] ⟨c7, trivial⟩ ?_
      refine kV 0 lo0p 1 (0 + Int.toNat (wR (i7 - (1 : Int)))) (eI (gD (List.set aA (Int.toNat i7) (gD aA (wR (i7 - (1 : Int))))) (wR (i7 - (1 : Int))))) (eI (gD aA i7)) (List.map (eI) (List.set aA (Int.toNat i7) (gD aA (wR (i7 - (1 : Int)))))) [(lo0p, 1, List.map (eI) (List.set (List.set aA (Int.toNat i7) (gD aA (wR (i7 - (1 : Int))))) (Int.toNat (wR (i7 - (1 : Int)))) (gD aA i7)))] hO (nR c7 (by simp [])) (by simp only [List.set, iO]) ?_
      intro H hO
      replace hN : List.length (List.set (List.set aA (Int.toNat i7) (gD aA (wR (i7 - (1 : Int))))) (Int.toNat (wR (i7 - (1 : Int)))) (gD aA i7)) = N0 := by simpa using hN
      refine nJ (by kernel_rfl) ?_
      refine dS (l := [(0, (.msl 1 lo0p 0 (List.length (List.set (List.set aA (Int.toNat i7) (gD aA (wR (i7 - (1 : Int))))) (Int.toNat (wR (i7 - (1 : Int)))) (gD aA i7))))), (1, (eI a1)), (2, (eI b2)), (7, (eI i7)), (8, (eI j8))]) ⟨[(0, (.msl 1 lo0p 0 (List.length aA))), (1, (eI a1)), (2, (eI b2)), (7, (eI i7)), (8, (eI j8))], by kernel_rfl, rfl, ⟨aN.eq (by simp []), aN.refl _, aN.refl _, aN.refl _, aN.refl _, trivial⟩⟩ ?_
      refine aG (aF (?_))
      refine dP (fun T H => ∃ aA : List Int, Has T [(0, (.msl 1 lo0p 0 (List.length aA))), (1, (eI a1)), (2, (eI b2)), (7, (eI i7)), (8, (eI j8))] ∧ aI ⟨H0, [lo0p], []⟩ H [(lo0p, 1, List.map (eI) aA)] ∧ List.length aA = N0 ∧ cN aA a1 b2 i7 j8 = some out1) ?_ ?_
      · clear hO hN h1
        rintro T H ⟨aA, hT, hO, hN, h1⟩
        refine bD hT ?_
        clear hT
        unfold cN at h1
        refine aX aD 4 [] [(98, (aE (decide ((2 : Int) ≤ (wR (b2 - i7))))))] ?_
        refine bJ h1 (fun h1 => ?_) (fun h1 => ?_)
        · refine aX aD 3 [98] [(10, (eI (wR (i7 + (1 : Int)))))] ?_
          refine cA 6 ?_
          refine eG [(0, (.msl 1 lo0p 0 (List.length aA))), (1, (eI a1)), (2, (eI b2)), (7, (eI i7)), (8, (eI j8)), (10, (eI (wR (i7 + (1 : Int)))))] ?_
          refine dY (fun T H => ∃ aA : List Int, ∃ j10 : Int, Has T [(0, (.msl 1 lo0p 0 (List.length aA))), (1, (eI a1)), (2, (eI b2)), (7, (eI i7)), (8, (eI j8)), (10, (eI j10))] ∧ aI ⟨H0, [lo0p], []⟩ H [(lo0p, 1, List.map (eI) aA)] ∧ List.length aA = N0 ∧ gR aA a1 b2 i7 j8 j10 = some out1) ?_ ⟨aA, wR (i7 + (1 : Int)), .eq (by kernel_rfl), hO, hN, h1⟩
          clear hO hN h1
          rintro T H ⟨aA, j10, hT, hO, hN, h1⟩
          refine bD hT ?_
          clear hT
          unfold gR at h1
          obtain ⟨rr1, hl1, h1⟩ := aZ h1
          refine cR (by kernel_rfl) (fun (s : List Int × Int) T H => Has T [(0, (.msl 1 lo0p 0 (List.length s.1))), (1, (eI a1)), (2, (eI b2)), (7, (eI i7)), (8, (eI j8)), (10, (eI s.2))] ∧ aI ⟨H0, [lo0p], []⟩ H [(lo0p, 1, List.map (eI) s.1)] ∧ List.length s.1 = N0) hl1 ⟨.eq (by kernel_rfl), hO, hN⟩ ?_
          clear hO hN
          rintro k1 s out2 T H ⟨hT, hO, hN⟩ h2 ho1
          obtain ⟨aA, j10⟩ := s
          replace h2 : dA a1 b2 i7 j8 aA j10 = some out2 := h2
          try dsimp only at hT
          refine bD hT ?_
          clear hT
          unfold dA at h2
          refine aL ?_
          refine aX aD 3 [] [(103, (aE (decide (j10 < b2))))] ?_
          refine bJ h2 (fun h2 => ?_) (fun h2 => ?_)
          · refine bK ?_
            refine bH [(0, (.msl 1 lo0p 0 (List.length aA))), (1, (eI a1)), (2, (eI b2)), (7, (eI i7)), (8, (eI j8)), (10, (eI j10))] ?_
            refine aL ?_
            refine cA 7 ?_
            refine aL ?_
            refine aL ?_
            refine eS (eU [115]) aD 11 ?_
            obtain ⟨c10, h2⟩ := bA h2
            refine cI 3 [0 ≤ j10 ∧ j10 < (lN aA)] ⟨c10, trivial⟩ ?_
            refine hU 0 lo0p 1 (0 + Int.toNat j10) (eI (gD aA j10)) (eI (gD aA j10)) (List.map (eI) aA) hO (cF c10) ?_
            obtain ⟨c11, h2⟩ := bA h2
            refine cI 8 [0 ≤ (wR (j10 - (1 : Int))) ∧ (wR (j10 - (1 : Int))) < (lN aA)] ⟨c11, trivial⟩ ?_
            refine hU 0 lo0p 1 (0 + Int.toNat (wR (j10 - (1 : Int)))) (eI (gD aA (wR (j10 - (1 : Int))))) (eI (gD aA (wR (j10 - (1 : Int))))) (List.map (eI) aA) hO (cF c11) ?_
            obtain ⟨x12, hx13, h2⟩ := aZ h2
            refine yL (gH (gD aA j10) (gD aA (wR (j10 - (1 : Int)))) _ hx13) hO ?_
            intro H hO
            refine gK ?_
            refine bZ [] [(116, (aE (!x12)))] ?_
            refine bJ h2 (fun h2 => ?_) (fun h2 => ?_)
            · refine eR 6 ?_
              obtain rfl := oI h2
              obtain rfl : _ = rr1 := ho1
              replace h1 : eB aA a1 b2 i7 j8 = some out1 := h1
              exact aG (aV (uG (by kernel_rfl) (aV (aV (bS (aY (aF (⟨rfl, _, _, .eq (by kernel_rfl), hO, hN, h1⟩))))))))
            refine bK ?_
            refine bH [(0, (.msl 1 lo0p 0 (List.length aA))), (1, (eI a1)), (2, (eI b2)), (7, (eI i7)), (8, (eI j8)), (10, (eI j10))] ?_
            refine eS (eU []) aD 18 ?_
            obtain ⟨c16, h2⟩ := bA h2
            refine cI 9 [0 ≤ (wR (j10 - (1 : Int))) ∧ (wR (j10 - (1 : Int))) < (lN aA)] ⟨c16, trivial⟩ ?_
            refine hU 0 lo0p 1 (0 + Int.toNat (wR (j10 - (1 : Int)))) (eI (gD aA (wR (j10 - (1 : Int))))) (eI (gD aA (wR (j10 - (1 : Int))))) (List.map (eI) aA) hO (cF c16) ?_
            obtain ⟨c17, h2⟩ := bA h2
            refine cI 13 [0 ≤ j10 ∧ j10 < (lN aA)] ⟨c17, trivial⟩ ?_
            refine hU 0 lo0p 1 (0 + Int.toNat j10) (eI (gD aA j10)) (eI (gD aA j10)) (List.map (eI) aA) hO (cF c17) ?_
            obtain ⟨c18, h2⟩ := bA h2
            refine cI 15 [0 ≤ j10 ∧ j10 < (lN aA)] ⟨c18, trivial⟩ ?_
            refine kV 0 lo0p 1 (0 + Int.toNat j10) (eI (gD aA j10)) (eI (gD aA (wR (j10 - (1 : Int))))) (List.map (eI) aA) [(lo0p, 1, List.map (eI) (List.set aA (Int.toNat j10) (gD aA (wR (j10 - (1 : Int))))))] hO (cF c18) (by simp only [List.set, iO]) ?_
            intro H hO
            replace hN : List.length (List.set aA (Int.toNat j10) (gD aA (wR (j10 - (1 : Int))))) = N0 := by simpa using hN
            obtain ⟨c19, h2⟩ := bA h2
            refine cI 17 [0 ≤ (wR (j10 - (1 : Int))) ∧ (wR (j10 - (1 : Int))) < (lN aA)] ⟨c19, trivial⟩ ?_
            refine kV 0 lo0p 1 (0 + Int.toNat (wR (j10 - (1 : Int)))) (eI (gD (List.set aA (Int.toNat j10) (gD aA (wR (j10 - (1 : Int))))) (wR (j10 - (1 : Int))))) (eI (gD aA j10)) (List.map (eI) (List.set aA (Int.toNat j10) (gD aA (wR (j10 - (1 : Int)))))) [(lo0p, 1, List.map (eI) (List.set (List.set aA (Int.toNat j10) (gD aA (wR (j10 - (1 : Int))))) (Int.toNat (wR (j10 - (1 : Int)))) (gD aA j10)))] hO (nR c19 (by simp [])) (by simp only [List.set, iO]) ?_
            intro H hO
            replace hN : List.length (List.set (List.set aA (Int.toNat j10) (gD aA (wR (j10 - (1 : Int))))) (Int.toNat (wR (j10 - (1 : Int)))) (gD aA j10)) = N0 := by simpa using hN
            refine nJ (by kernel_rfl) ?_
            refine dS (l := [(0, (.msl 1 lo0p 0 (List.length (List.set (List.set aA (Int.toNat j10) (gD aA (wR (j10 - (1 : Int))))) (Int.toNat (wR (j10 - (1 : Int)))) (gD aA j10))))), (1, (eI a1)), (2, (eI b2)), (7, (eI i7)), (8, (eI j8)), (10, (eI j10))]) ⟨[(0, (.msl 1 lo0p 0 (List.length aA))), (1, (eI a1)), (2, (eI b2)), (7, (eI i7)), (8, (eI j8)), (10, (eI j10))], by kernel_rfl, rfl, ⟨aN.eq (by simp []), aN.refl _, aN.refl _, aN.refl _, aN.refl _, aN.refl _, trivial⟩⟩ ?_
            refine aG (aY (aF (?_)))
            refine aW aD 3 ?_
            refine bG ?_
            exact aG (aF (⟨rfl, _, (oI h2).symm, .eq (by kernel_rfl), hO, hN⟩))
          refine eR 6 ?_
          obtain rfl := oI h2
          obtain rfl : _ = rr1 := ho1
          replace h1 : eB aA a1 b2 i7 j8 = some out1 := h1
          exact aG (aV (aV (bS (aY (aF (⟨rfl, _, _, .eq (by kernel_rfl), hO, hN, h1⟩))))))
        refine bK ?_
        exact aG (aY (aF (⟨rfl, _, _, .eq (by kernel_rfl), hO, hN, h1⟩)))
      refine aX aD 4 [] [(61, (aE (decide ((2 : Int) ≤ (wR (i7 - a1))))))] ?_
      refine bJ h1 (fun h1 => ?_) (fun h1 => ?_)
      · refine aX aD 3 [61] [(9, (eI (wR (i7 - (1 : Int)))))] ?_
        refine cA 4 ?_
        refine eG [(0, (.msl 1 lo0p 0 (List.length (List.set (List.set aA (Int.toNat i7) (gD aA (wR (i7 - (1 : Int))))) (Int.toNat (wR (i7 - (1 : Int)))) (gD aA i7))))), (1, (eI a1)), (2, (eI b2)), (7, (eI i7)), (8, (eI j8)), (9, (eI (wR (i7 - (1 : Int)))))] ?_
        refine dY (fun T H => ∃ aA : List Int, ∃ j9 : Int, Has T [(0, (.msl 1 lo0p 0 (List.length aA))), (1, (eI a1)), (2, (eI b2)), (7, (eI i7)), (8, (eI j8)), (9, (eI j9))] ∧ aI ⟨H0, [lo0p], []⟩ H [(lo0p, 1, List.map (eI) aA)] ∧ List.length aA = N0 ∧ gQ aA a1 b2 i7 j8 j9 = some out1) ?_ ⟨List.set (List.set aA (Int.toNat i7) (gD aA (wR (i7 - (1 : Int))))) (Int.toNat (wR (i7 - (1 : Int)))) (gD aA i7), wR (i7 - (1 : Int)), .eq (by kernel_rfl), hO, hN, h1⟩
        clear hO hN h1
        rintro T H ⟨aA, j9, hT, hO, hN, h1⟩
        refine bD hT ?_
        clear hT
        unfold gQ at h1
        obtain ⟨rr1, hl1, h1⟩ := aZ h1
        refine cR (by kernel_rfl) (fun (s : List Int × Int) T H => Has T [(0, (.msl 1 lo0p 0 (List.length s.1))), (1, (eI a1)), (2, (eI b2)), (7, (eI i7)), (8, (eI j8)), (9, (eI s.2))] ∧ aI ⟨H0, [lo0p], []⟩ H [(lo0p, 1, List.map (eI) s.1)] ∧ List.length s.1 = N0) hl1 ⟨.eq (by kernel_rfl), hO, hN⟩ ?_
        clear hO hN
        rintro k1 s out2 T H ⟨hT, hO, hN⟩ h2 ho1
        obtain ⟨aA, j9⟩ := s
        replace h2 : cO a1 b2 i7 j8 aA j9 = some out2 := h2
        try dsimp only at hT
        refine bD hT ?_
        clear hT
        unfold cO at h2
        refine aL ?_
        refine aX aD 2 [] [(65, (aE (decide ((1 : Int) ≤ j9))))] ?_
        refine bJ h2 (fun h2 => ?_) (fun h2 => ?_)
        · refine bK ?_
          refine bH [(0, (.msl 1 lo0p 0 (List.length aA))), (1, (eI a1)), (2, (eI b2)), (7, (eI i7)), (8, (eI j8)), (9, (eI j9))] ?_
          refine aL ?_
          refine cA 5 ?_
          refine aL ?_
          refine aL ?_
          refine eS (eU [77]) aD 11 ?_
          obtain ⟨c22, h2⟩ := bA h2
          refine cI 3 [0 ≤ j9 ∧ j9 < (lN aA)] ⟨c22, trivial⟩ ?_
          refine hU 0 lo0p 1 (0 + Int.toNat j9) (eI (gD aA j9)) (eI (gD aA j9)) (List.map (eI) aA) hO (cF c22) ?_
          obtain ⟨c23, h2⟩ := bA h2
          refine cI 8 [0 ≤ (wR (j9 - (1 : Int))) ∧ (wR (j9 - (1 : Int))) < (lN aA)] ⟨c23, trivial⟩ ?_
          refine hU 0 lo0p 1 (0 + Int.toNat (wR (j9 - (1 : Int)))) (eI (gD aA (wR (j9 - (1 : Int))))) (eI (gD aA (wR (j9 - (1 : Int))))) (List.map (eI) aA) hO (cF c23) ?_
          obtain ⟨x24, hx25, h2⟩ := aZ h2
          refine yL (gH (gD aA j9) (gD aA (wR (j9 - (1 : Int)))) _ hx25) hO ?_
          intro H hO
          refine gK ?_
          refine bZ [] [(78, (aE (!x24)))] ?_
          refine bJ h2 (fun h2 => ?_) (fun h2 => ?_)
          · refine eR 4 ?_
            obtain rfl := oI h2
            obtain rfl : _ = rr1 := ho1
            replace h1 : cN aA a1 b2 i7 j8 = some out1 := h1
            exact aG (aV (uG (by kernel_rfl) (aV (aV (bS (aF (⟨rfl, _, .eq (by kernel_rfl), hO, hN, h1⟩)))))))
          refine bK ?_
          refine bH [(0, (.msl 1 lo0p 0 (List.length aA))), (1, (eI a1)), (2, (eI b2)), (7, (eI i7)), (8, (eI j8)), (9, (eI j9))] ?_
          refine eS (eU []) aD 18 ?_
          obtain ⟨c28, h2⟩ := bA h2
          refine cI 9 [0 ≤ (wR (j9 - (1 : Int))) ∧ (wR (j9 - (1 : Int))) < (lN aA)] ⟨c28, trivial⟩ ?_
          refine hU 0 lo0p 1 (0 + Int.toNat (wR (j9 - (1 : Int)))) (eI (gD aA (wR (j9 - (1 : Int))))) (eI (gD aA (wR (j9 - (1 : Int))))) (List.map (eI) aA) hO (cF c28) ?_
          obtain ⟨c29, h2⟩ := bA h2
          refine cI 13 [0 ≤ j9 ∧ j9 < (lN aA)] ⟨c29, trivial⟩ ?_
          refine hU 0 lo0p 1 (0 + Int.toNat j9) (eI (gD aA j9)) (eI (gD aA j9)) (List.map (eI) aA) hO (cF c29) ?_
          obtain ⟨c30, h2⟩ := bA h2
          refine cI 15 [0 ≤ j9 ∧ j9 < (lN aA)] ⟨c30, trivial⟩ ?_
          refine kV 0 lo0p 1 (0 + Int.toNat j9) (eI (gD aA j9)) (eI (gD aA (wR (j9 - (1 : Int))))) (List.map (eI) aA) [(lo0p, 1, List.map (eI) (List.set aA (Int.toNat j9) (gD aA (wR (j9 - (1 : Int))))))] hO (cF c30) (by simp only [List.set, iO]) ?_
          intro H hO
          replace hN : List.length (List.set aA (Int.toNat j9) (gD aA (wR (j9 - (1 : Int))))) = N0 := by simpa using hN
          obtain ⟨c31, h2⟩ := bA h2
          refine cI 17 [0 ≤ (wR (j9 - (1 : Int))) ∧ (wR (j9 - (1 : Int))) < (lN aA)] ⟨c31, trivial⟩ ?_
          refine kV 0 lo0p 1 (0 + Int.toNat (wR (j9 - (1 : Int)))) (eI (gD (List.set aA (Int.toNat j9) (gD aA (wR (j9 - (1 : Int))))) (wR (j9 - (1 : Int))))) (eI (gD aA j9)) (List.map (eI) (List.set aA (Int.toNat j9) (gD aA (wR (j9 - (1 : Int)))))) [(lo0p, 1, List.map (eI) (List.set (List.set aA (Int.toNat j9) (gD aA (wR (j9 - (1 : Int))))) (Int.toNat (wR (j9 - (1 : Int)))) (gD aA j9)))] hO (nR c31 (by simp [])) (by simp only [List.set, iO]) ?_
          intro H hO
          replace hN : List.length (List.set (List.set aA (Int.toNat j9) (gD aA (wR (j9 - (1 : Int))))) (Int.toNat (wR (j9 - (1 : Int)))) (gD aA j9)) = N0 := by simpa using hN
          refine nJ (by kernel_rfl) ?_
          refine dS (l := [(0, (.msl 1 lo0p 0 (List.length (List.set (List.set aA (Int.toNat j9) (gD aA (wR (j9 - (1 : Int))))) (Int.toNat (wR (j9 - (1 : Int)))) (gD aA j9))))), (1, (eI a1)), (2, (eI b2)), (7, (eI i7)), (8, (eI j8)), (9, (eI j9))]) ⟨[(0, (.msl 1 lo0p 0 (List.length aA))), (1, (eI a1)), (2, (eI b2)), (7, (eI i7)), (8, (eI j8)), (9, (eI j9))], by kernel_rfl, rfl, ⟨aN.eq (by simp []), aN.refl _, aN.refl _, aN.refl _, aN.refl _, aN.refl _, trivial⟩⟩ ?_
          refine aG (aY (aF (?_)))
          refine aW aD 3 ?_
          refine bG ?_
          exact aG (aF (⟨rfl, _, (oI h2).symm, .eq (by kernel_rfl), hO, hN⟩))
        refine eR 4 ?_
        obtain rfl := oI h2
        obtain rfl : _ = rr1 := ho1
        replace h1 : cN aA a1 b2 i7 j8 = some out1 := h1
        exact aG (aV (aV (bS (aF (⟨rfl, _, .eq (by kernel_rfl), hO, hN, h1⟩)))))
      refine bK ?_
      exact aG (aF (⟨rfl, _, .eq (by kernel_rfl), hO, hN, h1⟩))
    refine cA 2 ?_
    refine eG [(0, (.msl 1 lo0p 0 (List.length aA))), (1, (eI a1)), (2, (eI b2)), (7, (eI i7)), (8, (eI j8))] ?_
    refine dY (fun T H => ∃ aA : List Int, ∃ i7 : Int, Has T [(0, (.msl 1 lo0p 0 (List.length aA))), (1, (eI a1)), (2, (eI b2)), (7, (eI i7)), (8, (eI j8))] ∧ aI ⟨H0, [lo0p], []⟩ H [(lo0p, 1, List.map (eI) aA)] ∧ List.length aA = N0 ∧ dN aA a1 b2 i7 j8 = some out1) ?_ ⟨aA, i7, .eq (by kernel_rfl), hO, hN, h1⟩
    clear hO hN h1
    rintro T H ⟨aA, i7, hT, hO, hN, h1⟩
    refine bD hT ?_
    clear hT
    unfold dN at h1
    obtain ⟨rr1, hl1, h1⟩ := aZ h1
    refine cR (by kernel_rfl) (fun (s : List Int × Int) T H => Has T [(0, (.msl 1 lo0p 0 (List.length s.1))), (1, (eI a1)), (2, (eI b2)), (7, (eI s.2)), (8, (eI j8))] ∧ aI ⟨H0, [lo0p], []⟩ H [(lo0p, 1, List.map (eI) s.1)] ∧ List.length s.1 = N0) hl1 ⟨.eq (by kernel_rfl), hO, hN⟩ ?_
    clear hO hN
    rintro k1 s out2 T H ⟨hT, hO, hN⟩ h2 ho1
    obtain ⟨aA, i7⟩ := s
    replace h2 : cZ a1 b2 j8 aA i7 = some out2 := h2
    try dsimp only at hT
    refine bD hT ?_
    clear hT
    unfold cZ at h2
    refine aL ?_
    refine aL ?_
    obtain ⟨c32, h2⟩ := bA h2
    obtain ⟨c33, h2⟩ := bA h2
    obtain ⟨x34, hx35, h2⟩ := aZ h2
    refine eS (eU []) aD 16 ?_
    refine mB (K := fun T H => Has (lift T) [(0, (.msl 1 lo0p 0 (List.length aA))), (1, (eI a1)), (2, (eI b2)), (7, (eI i7)), (8, (eI j8)), (32, (aE ((decide (i7 < b2)) && (!x34))))] ∧ aI ⟨H0, [lo0p], []⟩ H [(lo0p, 1, List.map (eI) aA)]) ?_ ?_
    · refine jZ 4 ?_
      refine kB (t := 20) (e := decide (i7 < b2)) (by kernel_rfl) (fun hg36 => ?_) (fun hg36 => ?_)
      · refine cI 7 [0 ≤ i7 ∧ i7 < (lN aA)] ⟨(c32 hg36), trivial⟩ ?_
        refine jG 0 lo0p 1 (0 + Int.toNat i7) (eI (gD aA i7)) (eI (gD aA i7)) (List.map (eI) aA) (by kernel_rfl) (by kernel_rfl) (by kernel_rfl) hO (by kernel_rfl) (cF (c32 hg36)) ?_
        refine cI 12 [0 ≤ (wR (i7 - (1 : Int))) ∧ (wR (i7 - (1 : Int))) < (lN aA)] ⟨(c33 hg36), trivial⟩ ?_
        refine jG 0 lo0p 1 (0 + Int.toNat (wR (i7 - (1 : Int)))) (eI (gD aA (wR (i7 - (1 : Int))))) (eI (gD aA (wR (i7 - (1 : Int))))) (List.map (eI) aA) (by kernel_rfl) (by kernel_rfl) (by kernel_rfl) hO (by kernel_rfl) (cF (c33 hg36)) ?_
        refine lZ 84 [(eI (gD aA i7)), (eI (gD aA (wR (i7 - (1 : Int)))))] (aE x34) (by kernel_rfl) (by kernel_rfl) (gH (gD aA i7) (gD aA (wR (i7 - (1 : Int)))) _ (gV hx35 hg36)) hO ?_
        intro H hO
        refine gK ?_
        exact ⟨⟨[(0, (.msl 1 lo0p 0 (List.length aA))), (1, (eI a1)), (2, (eI b2)), (7, (eI i7)), (8, (eI j8)), (32, (aE (!x34)))], by kernel_rfl, rfl, ⟨aN.refl _, aN.refl _, aN.refl _, aN.refl _, aN.refl _, aN.eq (congrArg aE (gY hg36 rfl).symm), trivial⟩⟩, hO⟩
      refine gK ?_
      exact ⟨⟨[(0, (.msl 1 lo0p 0 (List.length aA))), (1, (eI a1)), (2, (eI b2)), (7, (eI i7)), (8, (eI j8)), (32, (aE false))], by kernel_rfl, rfl, ⟨aN.refl _, aN.refl _, aN.refl _, aN.refl _, aN.refl _, aN.eq (congrArg aE (gY hg36 rfl).symm), trivial⟩⟩, hO⟩
    · rintro T H ⟨hT, hO⟩
      refine dS hT ?_
      clear hT
      refine aG (aF ?_)
      refine bJ h2 (fun h2 => ?_) (fun h2 => ?_)
      · refine bK ?_
        refine bH [(0, (.msl 1 lo0p 0 (List.length aA))), (1, (eI a1)), (2, (eI b2)), (7, (eI i7)), (8, (eI j8))] ?_
        refine cA 3 ?_
        refine aW aD 3 ?_
        refine bG ?_
        exact aG (aY (aF (⟨rfl, _, (oI h2).symm, .eq (by kernel_rfl), hO, hN⟩)))
      refine eR 2 ?_
      obtain rfl := oI h2
      obtain rfl : _ = rr1 := ho1
      replace h1 : fA aA a1 b2 i7 j8 = some out1 := h1
      exact aG (aV (aV (bS (aF (⟨rfl, _, _, .eq (by kernel_rfl), hO, hN, h1⟩)))))
  refine eR 0 ?_
  obtain rfl := oI h1
  obtain rfl : _ = rr0 := ho0
  replace h0 : fB aA = some r := h0
  exact aG (aV (aV (bS (aF (⟨rfl, _, .eq (by kernel_rfl), hO, hN, h0⟩)))))

end Go.Abs
namespace Go.Abs
open Go Go.RowKit Go.Proofs
theorem xB (lo0p : Nat) (aA : (List Int)) (a1 : Int) (b2 : Int) (cQ : Int) (r : (Int × List Int)) (h0 : fK aA a1 b2 cQ = some r) : nX Try.prog 85 lo0p 1 (List.map (eI) aA) (List.map (eI) r.2) [(.msl 1 lo0p 0 (List.length aA)), (eI a1), (eI b2), (eI cQ)] (eI r.1) := by
  intro H0 hl0
  refine dH Try.func85 ?_
  have hO := aI.vH hl0
  clear hl0
  obtain ⟨N0, hN0⟩ : ∃ n, n = List.length aA := ⟨_, rfl⟩
  have hN : List.length aA = N0 := hN0.symm
  unfold fK at h0
  refine aX aD 1 [] [] ?_
  refine aL ?_
  refine eS (eU []) aD 16 ?_
  obtain ⟨c1, h0⟩ := bA h0
  refine cI 7 [0 ≤ cQ ∧ cQ < (lN aA)] ⟨c1, trivial⟩ ?_
  refine hU 0 lo0p 1 (0 + Int.toNat cQ) (eI (gD aA cQ)) (eI (gD aA cQ)) (List.map (eI) aA) hO (cF c1) ?_
  obtain ⟨c2, h0⟩ := bA h0
  refine cI 11 [0 ≤ a1 ∧ a1 < (lN aA)] ⟨c2, trivial⟩ ?_
  refine hU 0 lo0p 1 (0 + Int.toNat a1) (eI (gD aA a1)) (eI (gD aA a1)) (List.map (eI) aA) hO (cF c2) ?_
  obtain ⟨c3, h0⟩ := bA h0
  refine cI 13 [0 ≤ a1 ∧ a1 < (lN aA)] ⟨c3, trivial⟩ ?_
  refine kV 0 lo0p 1 (0 + Int.toNat a1) (eI (gD aA a1)) (eI (gD aA cQ)) (List.map (eI) aA) [(lo0p, 1, List.map (eI) (List.set aA (Int.toNat a1) (gD aA cQ)))] hO (cF c3) (by simp only [List.set, iO]) ?_
  intro H hO
  replace hN : List.length (List.set aA (Int.toNat a1) (gD aA cQ)) = N0 := by simpa using hN
  obtain ⟨c4, h0⟩ := bA h0
  refine cI 15 [0 ≤ cQ ∧ cQ < (lN aA)] ⟨c4, trivial⟩ ?_
  refine kV 0 lo0p 1 (0 + Int.toNat cQ) (eI (gD (List.set aA (Int.toNat a1) (gD aA cQ)) cQ)) (eI (gD aA a1)) (List.map (eI) (List.set aA (Int.toNat a1) (gD aA cQ))) [(lo0p, 1, List.map (eI) (List.set (List.set aA (Int.toNat a1) (gD aA cQ)) (Int.toNat cQ) (gD aA a1)))] hO (nR c4 (by simp [])) (by simp only [List.set, iO]) ?_
  intro H hO
  replace hN : List.length (List.set (List.set aA (Int.toNat a1) (gD aA cQ)) (Int.toNat cQ) (gD aA a1)) = N0 := by simpa using hN
  refine nJ (by kernel_rfl) ?_
  refine dS (l := [(0, (.msl 1 lo0p 0 (List.length (List.set (List.set aA (Int.toNat a1) (gD aA cQ)) (Int.toNat cQ) (gD aA a1))))), (1, (eI a1)), (2, (eI b2))]) ⟨[(0, (.msl 1 lo0p 0 (List.length aA))), (1, (eI a1)), (2, (eI b2))], by kernel_rfl, rfl, ⟨aN.eq (by simp []), aN.refl _, aN.refl _, trivial⟩⟩ ?_
  refine aG (aF (?_))
  refine aX aD 6 [2] [(9, (eI (wR (a1 + (1 : Int))))), (10, (eI (wR (b2 - (1 : Int)))))] ?_
  refine dP (fun T H => ∃ aA : List Int, ∃ i9 : Int, Has T [(0, (.msl 1 lo0p 0 (List.length aA))), (9, (eI i9))] ∧ aI ⟨H0, [lo0p], []⟩ H [(lo0p, 1, List.map (eI) aA)] ∧ List.length aA = N0 ∧ jF aA i9 = some r) ?_ ?_
  · clear hO hN h0
    rintro T H ⟨aA, i9, hT, hO, hN, h0⟩
    refine bD hT ?_
    clear hT
    unfold jF at h0
    refine aX aD 2 [9] [(8, (eI i9))] ?_
    refine bL ?_
    obtain rfl := oI h0
    exact aG (mZ (x := (eI i9)) (by kernel_rfl) (aN.refl _) ⟨rfl, hO.ext, hO.at 0 (by kernel_rfl), by first | rfl | (simp only [List.length_map]; exact hN.trans hN0)⟩)
  refine cA 0 ?_
  refine eG [(0, (.msl 1 lo0p 0 (List.length (List.set (List.set aA (Int.toNat a1) (gD aA cQ)) (Int.toNat cQ) (gD aA a1))))), (1, (eI a1)), (9, (eI (wR (a1 + (1 : Int))))), (10, (eI (wR (b2 - (1 : Int)))))] ?_
  refine dY (fun T H => ∃ aA : List Int, ∃ i9 : Int, ∃ j10 : Int, Has T [(0, (.msl 1 lo0p 0 (List.length aA))), (1, (eI a1)), (9, (eI i9)), (10, (eI j10))] ∧ aI ⟨H0, [lo0p], []⟩ H [(lo0p, 1, List.map (eI) aA)] ∧ List.length aA = N0 ∧ jJ aA a1 i9 j10 = some r) ?_ ⟨List.set (List.set aA (Int.toNat a1) (gD aA cQ)) (Int.toNat cQ) (gD aA a1), wR (a1 + (1 : Int)), wR (b2 - (1 : Int)), .eq (by kernel_rfl), hO, hN, h0⟩
  clear hO hN h0
  rintro T H ⟨aA, i9, j10, hT, hO, hN, h0⟩
  refine bD hT ?_
  clear hT
  unfold jJ at h0
  obtain ⟨rr0, hl0, h0⟩ := aZ h0
  refine cR (by kernel_rfl) (fun (s : List Int × Int × Int) T H => Has T [(0, (.msl 1 lo0p 0 (List.length s.1))), (1, (eI a1)), (9, (eI s.2.1)), (10, (eI s.2.2))] ∧ aI ⟨H0, [lo0p], []⟩ H [(lo0p, 1, List.map (eI) s.1)] ∧ List.length s.1 = N0) hl0 ⟨.eq (by kernel_rfl), hO, hN⟩ ?_
  clear hO hN
  rintro k0 s out1 T H ⟨hT, hO, hN⟩ h1 ho0
  obtain ⟨aA, i9, j10⟩ := s
  replace h1 : dF a1 aA i9 j10 = some out1 := h1
  try dsimp only at hT
  refine bD hT ?_
  clear hT
  unfold dF at h1
  refine cA 1 ?_
  refine dP (fun T H => ∃ aA : List Int, ∃ i9 : Int, Has T [(0, (.msl 1 lo0p 0 (List.length aA))), (1, (eI a1)), (9, (eI i9)), (10, (eI j10))] ∧ aI ⟨H0, [lo0p], []⟩ H [(lo0p, 1, List.map (eI) aA)] ∧ List.length aA = N0 ∧ gJ aA a1 i9 j10 = some out1) ?_ ?_
  · clear hO hN h1
    rintro T H ⟨aA, i9, hT, hO, hN, h1⟩
    refine bD hT ?_
    clear hT
    unfold gJ at h1
    refine dP (fun T H => ∃ aA : List Int, ∃ j10 : Int, Has T [(0, (.msl 1 lo0p 0 (List.length aA))), (1, (eI a1)), (9, (eI i9)), (10, (eI j10))] ∧ aI ⟨H0, [lo0p], []⟩ H [(lo0p, 1, List.map (eI) aA)] ∧ List.length aA = N0 ∧ eD aA a1 i9 j10 = some out1) ?_ ?_
    · clear hO hN h1
      rintro T H ⟨aA, j10, hT, hO, hN, h1⟩
      refine bD hT ?_
      clear hT
      unfold eD at h1
      refine aL ?_
      refine aX aD 3 [] [(64, (aE (decide (j10 < i9))))] ?_
      refine bJ h1 (fun h1 => ?_) (fun h1 => ?_)
      · refine eR 0 ?_
        obtain rfl := oI h1
        obtain rfl : _ = rr0 := ho0
        replace h0 : jF aA i9 = some r := h0
        exact aG (aV (uG (by kernel_rfl) (aV (bS (aF (⟨rfl, _, _, .eq (by kernel_rfl), hO, hN, h0⟩))))))
      refine bK ?_
      refine bH [(0, (.msl 1 lo0p 0 (List.length aA))), (1, (eI a1)), (9, (eI i9)), (10, (eI j10))] ?_
      refine aL ?_
      refine eS (eU []) aD 16 ?_
      obtain ⟨c6, h1⟩ := bA h1
      refine cI 7 [0 ≤ j10 ∧ j10 < (lN aA)] ⟨c6, trivial⟩ ?_
      refine hU 0 lo0p 1 (0 + Int.toNat j10) (eI (gD aA j10)) (eI (gD aA j10)) (List.map (eI) aA) hO (cF c6) ?_
      obtain ⟨c7, h1⟩ := bA h1
      refine cI 11 [0 ≤ i9 ∧ i9 < (lN aA)] ⟨c7, trivial⟩ ?_
      refine hU 0 lo0p 1 (0 + Int.toNat i9) (eI (gD aA i9)) (eI (gD aA i9)) (List.map (eI) aA) hO (cF c7) ?_
      obtain ⟨c8, h1⟩ := bA h1
      refine cI 13 [0 ≤ i9 ∧ i9 < (lN aA)] ⟨c8, trivial⟩ ?_
      refine kV 0 lo0p 1 (0 + Int.toNat i9) (eI (gD aA i9)) (eI (gD aA j10)) (List.map (eI) aA) [(lo0p, 1, List.map (eI) (List.set aA (Int.toNat i9) (gD aA j10)))] hO (cF c8) (by simp only [List.set, iO]) ?_
      intro H hO
      replace hN : List.length (List.set aA (Int.toNat i9) (gD aA j10)) = N0 := by simpa using hN
      obtain ⟨c9, h1⟩ := bA h1
      refine cI 15 [0 ≤ j10 ∧ j10 < (lN aA)] ⟨c9, trivial⟩ ?_
      refine kV 0 lo0p 1 (0 + Int.toNat j10) (eI (gD (List.set aA (Int.toNat i9) (gD aA j10)) j10)) (eI (gD aA i9)) (List.map (eI) (List.set aA (Int.toNat i9) (gD aA j10))) [(lo0p, 1, List.map (eI) (List.set (List.set aA (Int.toNat i9) (gD aA j10)) (Int.toNat j10) (gD aA i9)))] hO (nR c9 (by simp [])) (by simp only [List.set, iO]) ?_
      intro H hO
      replace hN : List.length (List.set (List.set aA (Int.toNat i9) (gD aA j10)) (Int.toNat j10) (gD aA i9)) = N0 := by simpa using hN
      refine nJ (by kernel_rfl) ?_
      refine dS (l := [(0, (.msl 1 lo0p 0 (List.length (List.set (List.set aA (Int.toNat i9) (gD aA j10)) (Int.toNat j10) (gD aA i9))))), (1, (eI a1)), (9, (eI i9)), (10, (eI j10))]) ⟨[(0, (.msl 1 lo0p 0 (List.length aA))), (1, (eI a1)), (9, (eI i9)), (10, (eI j10))], by kernel_rfl, rfl, ⟨aN.eq (by simp []), aN.refl _, aN.refl _, aN.refl _, trivial⟩⟩ ?_
      refine aG (aF (?_))
      refine aX aD 3 [9] [(9, (eI (wR (i9 + (1 : Int)))))] ?_
      refine aW aD 3 ?_
      refine bG ?_
      exact aG (aY (aF (⟨rfl, _, (oI h1).symm, .eq (by kernel_rfl), hO, hN⟩)))
    refine cA 4 ?_
    refine eG [(0, (.msl 1 lo0p 0 (List.length aA))), (1, (eI a1)), (9, (eI i9)), (10, (eI j10))] ?_
    refine dY (fun T H => ∃ aA : List Int, ∃ j10 : Int, Has T [(0, (.msl 1 lo0p 0 (List.length aA))), (1, (eI a1)), (9, (eI i9)), (10, (eI j10))] ∧ aI ⟨H0, [lo0p], []⟩ H [(lo0p, 1, List.map (eI) aA)] ∧ List.length aA = N0 ∧ jI aA a1 i9 j10 = some out1) ?_ ⟨aA, j10, .eq (by kernel_rfl), hO, hN, h1⟩
    clear hO hN h1
    rintro T H ⟨aA, j10, hT, hO, hN, h1⟩
    refine bD hT ?_
    clear hT
    unfold jI at h1
    obtain ⟨rr1, hl1, h1⟩ := aZ h1
    refine cR (by kernel_rfl) (fun (s : List Int × Int) T H => Has T [(0, (.msl 1 lo0p 0 (List.length s.1))), (1, (eI a1)), (9, (eI i9)), (10, (eI s.2))] ∧ aI ⟨H0, [lo0p], []⟩ H [(lo0p, 1, List.map (eI) s.1)] ∧ List.length s.1 = N0) hl1 ⟨.eq (by kernel_rfl), hO, hN⟩ ?_
    clear hO hN
    rintro k1 s out2 T H ⟨hT, hO, hN⟩ h2 ho1
    obtain ⟨aA, j10⟩ := s
    replace h2 : eC a1 i9 aA j10 = some out2 := h2
    try dsimp only at hT
    refine bD hT ?_
    clear hT
    unfold eC at h2
    refine aL ?_
    refine aL ?_
    obtain ⟨c10, h2⟩ := bA h2
    obtain ⟨c11, h2⟩ := bA h2
    obtain ⟨x12, hx13, h2⟩ := aZ h2
    refine eS (eU []) aD 14 ?_
    refine mB (K := fun T H => Has (lift T) [(0, (.msl 1 lo0p 0 (List.length aA))), (1, (eI a1)), (9, (eI i9)), (10, (eI j10)), (59, (aE ((decide (i9 ≤ j10)) && x12)))] ∧ aI ⟨H0, [lo0p], []⟩ H [(lo0p, 1, List.map (eI) aA)]) ?_ ?_
    · refine jZ 4 ?_
      refine kB (t := 49) (e := decide (i9 ≤ j10)) (by kernel_rfl) (fun hg14 => ?_) (fun hg14 => ?_)
      · refine cI 7 [0 ≤ a1 ∧ a1 < (lN aA)] ⟨(c10 hg14), trivial⟩ ?_
        refine jG 0 lo0p 1 (0 + Int.toNat a1) (eI (gD aA a1)) (eI (gD aA a1)) (List.map (eI) aA) (by kernel_rfl) (by kernel_rfl) (by kernel_rfl) hO (by kernel_rfl) (cF (c10 hg14)) ?_
        refine cI 11 [0 ≤ j10 ∧ j10 < (lN aA)] ⟨(c11 hg14), trivial⟩ ?_
        refine jG 0 lo0p 1 (0 + Int.toNat j10) (eI (gD aA j10)) (eI (gD aA j10)) (List.map (eI) aA) (by kernel_rfl) (by kernel_rfl) (by kernel_rfl) hO (by kernel_rfl) (cF (c11 hg14)) ?_
        refine lZ 84 [(eI (gD aA a1)), (eI (gD aA j10))] (aE x12) (by kernel_rfl) (by kernel_rfl) (gH (gD aA a1) (gD aA j10) _ (gV hx13 hg14)) hO ?_
        intro H hO
        refine gK ?_
        exact ⟨⟨[(0, (.msl 1 lo0p 0 (List.length aA))), (1, (eI a1)), (9, (eI i9)), (10, (eI j10)), (59, (aE x12))], by kernel_rfl, rfl, ⟨aN.refl _, aN.refl _, aN.refl _, aN.refl _, aN.eq (congrArg aE (gY hg14 rfl).symm), trivial⟩⟩, hO⟩
      refine gK ?_
      exact ⟨⟨[(0, (.msl 1 lo0p 0 (List.length aA))), (1, (eI a1)), (9, (eI i9)), (10, (eI j10)), (59, (aE false))], by kernel_rfl, rfl, ⟨aN.refl _, aN.refl _, aN.refl _, aN.refl _, aN.eq (congrArg aE (gY hg14 rfl).symm), trivial⟩⟩, hO⟩
    · rintro T H ⟨hT, hO⟩
      refine dS hT ?_
      clear hT
      refine aG (aF ?_)
      refine bJ h2 (fun h2 => ?_) (fun h2 => ?_)
      · refine bK ?_
        refine bH [(0, (.msl 1 lo0p 0 (List.length aA))), (1, (eI a1)), (9, (eI i9)), (10, (eI j10))] ?_
        refine cA 5 ?_
        refine aW aD 3 ?_
        refine bG ?_
        exact aG (aY (aF (⟨rfl, _, (oI h2).symm, .eq (by kernel_rfl), hO, hN⟩)))
      refine eR 4 ?_
      obtain rfl := oI h2
      obtain rfl : _ = rr1 := ho1
      replace h1 : eD aA a1 i9 j10 = some out1 := h1
      exact aG (aV (aV (bS (aF (⟨rfl, _, _, .eq (by kernel_rfl), hO, hN, h1⟩)))))
  refine cA 2 ?_
  refine eG [(0, (.msl 1 lo0p 0 (List.length aA))), (1, (eI a1)), (9, (eI i9)), (10, (eI j10))] ?_
  refine dY (fun T H => ∃ aA : List Int, ∃ i9 : Int, Has T [(0, (.msl 1 lo0p 0 (List.length aA))), (1, (eI a1)), (9, (eI i9)), (10, (eI j10))] ∧ aI ⟨H0, [lo0p], []⟩ H [(lo0p, 1, List.map (eI) aA)] ∧ List.length aA = N0 ∧ jK aA a1 i9 j10 = some out1) ?_ ⟨aA, i9, .eq (by kernel_rfl), hO, hN, h1⟩
  clear hO hN h1
  rintro T H ⟨aA, i9, hT, hO, hN, h1⟩
  refine bD hT ?_
  clear hT
  unfold jK at h1
  obtain ⟨rr1, hl1, h1⟩ := aZ h1
  refine cR (by kernel_rfl) (fun (s : List Int × Int) T H => Has T [(0, (.msl 1 lo0p 0 (List.length s.1))), (1, (eI a1)), (9, (eI s.2)), (10, (eI j10))] ∧ aI ⟨H0, [lo0p], []⟩ H [(lo0p, 1, List.map (eI) s.1)] ∧ List.length s.1 = N0) hl1 ⟨.eq (by kernel_rfl), hO, hN⟩ ?_
  clear hO hN
  rintro k1 s out2 T H ⟨hT, hO, hN⟩ h2 ho1
  obtain ⟨aA, i9⟩ := s
  replace h2 : eE a1 j10 aA i9 = some out2 := h2
  try dsimp only at hT
  refine bD hT ?_
  clear hT
  unfold eE at h2
  refine aL ?_
  refine aL ?_
  obtain ⟨c16, h2⟩ := bA h2
  obtain ⟨c17, h2⟩ := bA h2
  obtain ⟨x18, hx19, h2⟩ := aZ h2
  refine eS (eU []) aD 15 ?_
  refine mB (K := fun T H => Has (lift T) [(0, (.msl 1 lo0p 0 (List.length aA))), (1, (eI a1)), (9, (eI i9)), (10, (eI j10)), (43, (aE ((decide (i9 ≤ j10)) && (!x18))))] ∧ aI ⟨H0, [lo0p], []⟩ H [(lo0p, 1, List.map (eI) aA)]) ?_ ?_
  · refine jZ 4 ?_
    refine kB (t := 32) (e := decide (i9 ≤ j10)) (by kernel_rfl) (fun hg20 => ?_) (fun hg20 => ?_)
    · refine cI 7 [0 ≤ a1 ∧ a1 < (lN aA)] ⟨(c16 hg20), trivial⟩ ?_
      refine jG 0 lo0p 1 (0 + Int.toNat a1) (eI (gD aA a1)) (eI (gD aA a1)) (List.map (eI) aA) (by kernel_rfl) (by kernel_rfl) (by kernel_rfl) hO (by kernel_rfl) (cF (c16 hg20)) ?_
      refine cI 11 [0 ≤ i9 ∧ i9 < (lN aA)] ⟨(c17 hg20), trivial⟩ ?_
      refine jG 0 lo0p 1 (0 + Int.toNat i9) (eI (gD aA i9)) (eI (gD aA i9)) (List.map (eI) aA) (by kernel_rfl) (by kernel_rfl) (by kernel_rfl) hO (by kernel_rfl) (cF (c17 hg20)) ?_
      refine lZ 84 [(eI (gD aA a1)), (eI (gD aA i9))] (aE x18) (by kernel_rfl) (by kernel_rfl) (gH (gD aA a1) (gD aA i9) _ (gV hx19 hg20)) hO ?_
      intro H hO
      refine gK ?_
      exact ⟨⟨[(0, (.msl 1 lo0p 0 (List.length aA))), (1, (eI a1)), (9, (eI i9)), (10, (eI j10)), (43, (aE (!x18)))], by kernel_rfl, rfl, ⟨aN.refl _, aN.refl _, aN.refl _, aN.refl _, aN.eq (congrArg aE (gY hg20 rfl).symm), trivial⟩⟩, hO⟩
    refine gK ?_
    exact ⟨⟨[(0, (.msl 1 lo0p 0 (List.length aA))), (1, (eI a1)), (9, (eI i9)), (10, (eI j10)), (43, (aE false))], by kernel_rfl, rfl, ⟨aN.refl _, aN.refl _, aN.refl _, aN.refl _, aN.eq (congrArg aE (gY hg20 rfl).symm), trivial⟩⟩, hO⟩
  · rintro T H ⟨hT, hO⟩
    refine dS hT ?_
    clear hT
    refine aG (aF ?_)
    refine bJ h2 (fun h2 => ?_) (fun h2 => ?_)
    · refine bK ?_
      refine bH [(0, (.msl 1 lo0p 0 (List.length aA))), (1, (eI a1)), (9, (eI i9)), (10, (eI j10))] ?_
      refine cA 3 ?_
      refine aW aD 3 ?_
      refine bG ?_
      exact aG (aY (aF (⟨rfl, _, (oI h2).symm, .eq (by kernel_rfl), hO, hN⟩)))
    refine eR 2 ?_
    obtain rfl := oI h2
    obtain rfl : _ = rr1 := ho1
    replace h1 : gJ aA a1 i9 j10 = some out1 := h1
    exact aG (aV (aV (bS (aF (⟨rfl, _, _, .eq (by kernel_rfl), hO, hN, h1⟩)))))

theorem zU (lo0p : Nat) (aA : (List Int)) (a1 : Int) (b2 : Int) (cQ : Int) (r : ((Int × Bool) × List Int)) (h0 : gX aA a1 b2 cQ = some r) : nX Try.prog 86 lo0p 1 (List.map (eI) aA) (List.map (eI) r.2) [(.msl 1 lo0p 0 (List.length aA)), (eI a1), (eI b2), (eI cQ)] (.tup [(eI r.1.1), (aE r.1.2)]) := by
  intro H0 hl0
  refine dH Try.func86 ?_
  have hO := aI.vH hl0
  clear hl0
  obtain ⟨N0, hN0⟩ : ∃ n, n = List.length aA := ⟨_, rfl⟩
  have hN : List.length aA = N0 := hN0.symm
  unfold gX at h0
  refine aX aD 2 [] [] ?_
  refine aL ?_
  refine eS (eU []) aD 16 ?_
  obtain ⟨c1, h0⟩ := bA h0
  refine cI 7 [0 ≤ cQ ∧ cQ < (lN aA)] ⟨c1, trivial⟩ ?_
  refine hU 0 lo0p 1 (0 + Int.toNat cQ) (eI (gD aA cQ)) (eI (gD aA cQ)) (List.map (eI) aA) hO (cF c1) ?_
  obtain ⟨c2, h0⟩ := bA h0
  refine cI 11 [0 ≤ a1 ∧ a1 < (lN aA)] ⟨c2, trivial⟩ ?_
  refine hU 0 lo0p 1 (0 + Int.toNat a1) (eI (gD aA a1)) (eI (gD aA a1)) (List.map (eI) aA) hO (cF c2) ?_
  obtain ⟨c3, h0⟩ := bA h0
  refine cI 13 [0 ≤ a1 ∧ a1 < (lN aA)] ⟨c3, trivial⟩ ?_
  refine kV 0 lo0p 1 (0 + Int.toNat a1) (eI (gD aA a1)) (eI (gD aA cQ)) (List.map (eI) aA) [(lo0p, 1, List.map (eI) (List.set aA (Int.toNat a1) (gD aA cQ)))] hO (cF c3) (by simp only [List.set, iO]) ?_
  intro H hO
  replace hN : List.length (List.set aA (Int.toNat a1) (gD aA cQ)) = N0 := by simpa using hN
  obtain ⟨c4, h0⟩ := bA h0
  refine cI 15 [0 ≤ cQ ∧ cQ < (lN aA)] ⟨c4, trivial⟩ ?_
  refine kV 0 lo0p 1 (0 + Int.toNat cQ) (eI (gD (List.set aA (Int.toNat a1) (gD aA cQ)) cQ)) (eI (gD aA a1)) (List.map (eI) (List.set aA (Int.toNat a1) (gD aA cQ))) [(lo0p, 1, List.map (eI) (List.set (List.set aA (Int.toNat a1) (gD aA cQ)) (Int.toNat cQ) (gD aA a1)))] hO (nR c4 (by simp [])) (by simp only [List.set, iO]) ?_
  intro H hO
  replace hN : List.length (List.set (List.set aA (Int.toNat a1) (gD aA cQ)) (Int.toNat cQ) (gD aA a1)) = N0 := by simpa using hN
  refine nJ (by kernel_rfl) ?_
  refine dS (l := [(0, (.msl 1 lo0p 0 (List.length (List.set (List.set aA (Int.toNat a1) (gD aA cQ)) (Int.toNat cQ) (gD aA a1))))), (1, (eI a1)), (2, (eI b2))]) ⟨[(0, (.msl 1 lo0p 0 (List.length aA))), (1, (eI a1)), (2, (eI b2))], by kernel_rfl, rfl, ⟨aN.eq (by simp []), aN.refl _, aN.refl _, trivial⟩⟩ ?_
  refine aG (aF (?_))
  refine aX aD 6 [2] [(10, (eI (wR (a1 + (1 : Int))))), (11, (eI (wR (b2 - (1 : Int)))))] ?_
  refine dP (fun T H => ∃ aA : List Int, ∃ i10 : Int, ∃ j11 : Int, Has T [(0, (.msl 1 lo0p 0 (List.length aA))), (1, (eI a1)), (10, (eI i10)), (11, (eI j11))] ∧ aI ⟨H0, [lo0p], []⟩ H [(lo0p, 1, List.map (eI) aA)] ∧ List.length aA = N0 ∧ iV aA a1 i10 j11 = some r) ?_ ?_
  · clear hO hN h0
    rintro T H ⟨aA, i10, j11, hT, hO, hN, h0⟩
    refine bD hT ?_
    clear hT
    unfold iV at h0
    refine dP (fun T H => ∃ aA : List Int, ∃ j11 : Int, Has T [(0, (.msl 1 lo0p 0 (List.length aA))), (1, (eI a1)), (10, (eI i10)), (11, (eI j11))] ∧ aI ⟨H0, [lo0p], []⟩ H [(lo0p, 1, List.map (eI) aA)] ∧ List.length aA = N0 ∧ fE aA a1 i10 j11 = some r) ?_ ?_
    · clear hO hN h0
      rintro T H ⟨aA, j11, hT, hO, hN, h0⟩
      refine bD hT ?_
      clear hT
      unfold fE at h0
      refine aL ?_
      refine aX aD 3 [] [(65, (aE (decide (j11 < i10))))] ?_
      refine bJ h0 (fun h0 => ?_) (fun h0 => ?_)
      · refine aL ?_
        refine eS (eU []) aD 16 ?_
        obtain ⟨c6, h0⟩ := bA h0
        refine cI 7 [0 ≤ a1 ∧ a1 < (lN aA)] ⟨c6, trivial⟩ ?_
        refine hU 0 lo0p 1 (0 + Int.toNat a1) (eI (gD aA a1)) (eI (gD aA a1)) (List.map (eI) aA) hO (cF c6) ?_
        obtain ⟨c7, h0⟩ := bA h0
        refine cI 11 [0 ≤ j11 ∧ j11 < (lN aA)] ⟨c7, trivial⟩ ?_
        refine hU 0 lo0p 1 (0 + Int.toNat j11) (eI (gD aA j11)) (eI (gD aA j11)) (List.map (eI) aA) hO (cF c7) ?_
        obtain ⟨c8, h0⟩ := bA h0
        refine cI 13 [0 ≤ j11 ∧ j11 < (lN aA)] ⟨c8, trivial⟩ ?_
        refine kV 0 lo0p 1 (0 + Int.toNat j11) (eI (gD aA j11)) (eI (gD aA a1)) (List.map (eI) aA) [(lo0p, 1, List.map (eI) (List.set aA (Int.toNat j11) (gD aA a1)))] hO (cF c8) (by simp only [List.set, iO]) ?_
        intro H hO
        replace hN : List.length (List.set aA (Int.toNat j11) (gD aA a1)) = N0 := by simpa using hN
        obtain ⟨c9, h0⟩ := bA h0
        refine cI 15 [0 ≤ a1 ∧ a1 < (lN aA)] ⟨c9, trivial⟩ ?_
        refine kV 0 lo0p 1 (0 + Int.toNat a1) (eI (gD (List.set aA (Int.toNat j11) (gD aA a1)) a1)) (eI (gD aA j11)) (List.map (eI) (List.set aA (Int.toNat j11) (gD aA a1))) [(lo0p, 1, List.map (eI) (List.set (List.set aA (Int.toNat j11) (gD aA a1)) (Int.toNat a1) (gD aA j11)))] hO (nR c9 (by simp [])) (by simp only [List.set, iO]) ?_
        intro H hO
        replace hN : List.length (List.set (List.set aA (Int.toNat j11) (gD aA a1)) (Int.toNat a1) (gD aA j11)) = N0 := by simpa using hN
        refine nJ (by kernel_rfl) ?_
        refine dS (l := [(0, (.msl 1 lo0p 0 (List.length (List.set (List.set aA (Int.toNat j11) (gD aA a1)) (Int.toNat a1) (gD aA j11))))), (11, (eI j11))]) ⟨[(0, (.msl 1 lo0p 0 (List.length aA))), (11, (eI j11))], by kernel_rfl, rfl, ⟨aN.eq (by simp []), aN.refl _, trivial⟩⟩ ?_
        refine aG (aF (?_))
        refine aX aD 3 [11] [(8, (eI j11)), (9, (aE true))] ?_
        refine bL ?_
        obtain rfl := oI h0
        exact aG (aO (mZ (x := (.tup [(eI j11), (aE true)])) (by kernel_rfl) (aN.refl _) ⟨rfl, hO.ext, hO.at 0 (by kernel_rfl), by simp only [List.length_map]; exact hN.trans hN0⟩))
      refine bK ?_
      refine bH [(0, (.msl 1 lo0p 0 (List.length aA))), (1, (eI a1)), (10, (eI i10)), (11, (eI j11))] ?_
      refine aL ?_
      refine eS (eU []) aD 16 ?_
      obtain ⟨c10, h0⟩ := bA h0
      refine cI 7 [0 ≤ j11 ∧ j11 < (lN aA)] ⟨c10, trivial⟩ ?_
      refine hU 0 lo0p 1 (0 + Int.toNat j11) (eI (gD aA j11)) (eI (gD aA j11)) (List.map (eI) aA) hO (cF c10) ?_
      obtain ⟨c11, h0⟩ := bA h0
      refine cI 11 [0 ≤ i10 ∧ i10 < (lN aA)] ⟨c11, trivial⟩ ?_
      refine hU 0 lo0p 1 (0 + Int.toNat i10) (eI (gD aA i10)) (eI (gD aA i10)) (List.map (eI) aA) hO (cF c11) ?_
      obtain ⟨c12, h0⟩ := bA h0
      refine cI 13 [0 ≤ i10 ∧ i10 < (lN aA)] ⟨c12, trivial⟩ ?_
      refine kV 0 lo0p 1 (0 + Int.toNat i10) (eI (gD aA i10)) (eI (gD aA j11)) (List.map (eI) aA) [(lo0p, 1, List.map (eI) (List.set aA (Int.toNat i10) (gD aA j11)))] hO (cF c12) (by simp only [List.set, iO]) ?_
      intro H hO
      replace hN : List.length (List.set aA (Int.toNat i10) (gD aA j11)) = N0 := by simpa using hN
      obtain ⟨c13, h0⟩ := bA h0
      refine cI 15 [0 ≤ j11 ∧ j11 < (lN aA)] ⟨c13, trivial⟩ ?_
      refine kV 0 lo0p 1 (0 + Int.toNat j11) (eI (gD (List.set aA (Int.toNat i10) (gD aA j11)) j11)) (eI (gD aA i10)) (List.map (eI) (List.set aA (Int.toNat i10) (gD aA j11))) [(lo0p, 1, List.map (eI) (List.set (List.set aA (Int.toNat i10) (gD aA j11)) (Int.toNat j11) (gD aA i10)))] hO (nR c13 (by simp [])) (by simp only [List.set, iO]) ?_
      intro H hO
      replace hN : List.length (List.set (List.set aA (Int.toNat i10) (gD aA j11)) (Int.toNat j11) (gD aA i10)) = N0 := by simpa using hN
      refine nJ (by kernel_rfl) ?_
      refine dS (l := [(0, (.msl 1 lo0p 0 (List.length (List.set (List.set aA (Int.toNat i10) (gD aA j11)) (Int.toNat j11) (gD aA i10))))), (1, (eI a1)), (10, (eI i10)), (11, (eI j11))]) ⟨[(0, (.msl 1 lo0p 0 (List.length aA))), (1, (eI a1)), (10, (eI i10)), (11, (eI j11))], by kernel_rfl, rfl, ⟨aN.eq (by simp []), aN.refl _, aN.refl _, aN.refl _, trivial⟩⟩ ?_
      refine aG (aF (?_))
      refine aX aD 3 [10] [(10, (eI (wR (i10 + (1 : Int)))))] ?_
      refine aX aD 3 [11] [(11, (eI (wR (j11 - (1 : Int)))))] ?_
      refine dP (fun T H => ∃ aA : List Int, ∃ j11 : Int, Has T [(0, (.msl 1 lo0p 0 (List.length aA))), (1, (eI a1)), (11, (eI j11))] ∧ aI ⟨H0, [lo0p], []⟩ H [(lo0p, 1, List.map (eI) aA)] ∧ List.length aA = N0 ∧ iY aA a1 j11 = some r) ?_ ?_
      · clear hO hN h0
        rintro T H ⟨aA, j11, hT, hO, hN, h0⟩
        refine bD hT ?_
        clear hT
        unfold iY at h0
        refine aL ?_
        refine eS (eU []) aD 16 ?_
        obtain ⟨c14, h0⟩ := bA h0
        refine cI 7 [0 ≤ a1 ∧ a1 < (lN aA)] ⟨c14, trivial⟩ ?_
        refine hU 0 lo0p 1 (0 + Int.toNat a1) (eI (gD aA a1)) (eI (gD aA a1)) (List.map (eI) aA) hO (cF c14) ?_
        obtain ⟨c15, h0⟩ := bA h0
        refine cI 11 [0 ≤ j11 ∧ j11 < (lN aA)] ⟨c15, trivial⟩ ?_
        refine hU 0 lo0p 1 (0 + Int.toNat j11) (eI (gD aA j11)) (eI (gD aA j11)) (List.map (eI) aA) hO (cF c15) ?_
        obtain ⟨c16, h0⟩ := bA h0
        refine cI 13 [0 ≤ j11 ∧ j11 < (lN aA)] ⟨c16, trivial⟩ ?_
        refine kV 0 lo0p 1 (0 + Int.toNat j11) (eI (gD aA j11)) (eI (gD aA a1)) (List.map (eI) aA) [(lo0p, 1, List.map (eI) (List.set aA (Int.toNat j11) (gD aA a1)))] hO (cF c16) (by simp only [List.set, iO]) ?_
        intro H hO
        replace hN : List.length (List.set aA (Int.toNat j11) (gD aA a1)) = N0 := by simpa using hN
        obtain ⟨c17, h0⟩ := bA h0
        refine cI 15 [0 ≤ a1 ∧ a1 < (lN aA)] ⟨c17, trivial⟩ ?_
        refine kV 0 lo0p 1 (0 + Int.toNat a1) (eI (gD (List.set aA (Int.toNat j11) (gD aA a1)) a1)) (eI (gD aA j11)) (List.map (eI) (List.set aA (Int.toNat j11) (gD aA a1))) [(lo0p, 1, List.map (eI) (List.set (List.set aA (Int.toNat j11) (gD aA a1)) (Int.toNat a1) (gD aA j11)))] hO (nR c17 (by simp [])) (by simp only [List.set, iO]) ?_
        intro H hO
        replace hN : List.length (List.set (List.set aA (Int.toNat j11) (gD aA a1)) (Int.toNat a1) (gD aA j11)) = N0 := by simpa using hN
        refine nJ (by kernel_rfl) ?_
        refine dS (l := [(0, (.msl 1 lo0p 0 (List.length (List.set (List.set aA (Int.toNat j11) (gD aA a1)) (Int.toNat a1) (gD aA j11))))), (11, (eI j11))]) ⟨[(0, (.msl 1 lo0p 0 (List.length aA))), (11, (eI j11))], by kernel_rfl, rfl, ⟨aN.eq (by simp []), aN.refl _, trivial⟩⟩ ?_
        refine aG (aF (?_))
        refine aX aD 3 [11] [(8, (eI j11)), (9, (aE false))] ?_
        refine bL ?_
        obtain rfl := oI h0
        exact aG (mZ (x := (.tup [(eI j11), (aE false)])) (by kernel_rfl) (aN.refl _) ⟨rfl, hO.ext, hO.at 0 (by kernel_rfl), by simp only [List.length_map]; exact hN.trans hN0⟩)
      refine cA 4 ?_
      refine eG [(0, (.msl 1 lo0p 0 (List.length (List.set (List.set aA (Int.toNat i10) (gD aA j11)) (Int.toNat j11) (gD aA i10))))), (1, (eI a1)), (10, (eI (wR (i10 + (1 : Int))))), (11, (eI (wR (j11 - (1 : Int)))))] ?_
      refine dY (fun T H => ∃ aA : List Int, ∃ i10 : Int, ∃ j11 : Int, Has T [(0, (.msl 1 lo0p 0 (List.length aA))), (1, (eI a1)), (10, (eI i10)), (11, (eI j11))] ∧ aI ⟨H0, [lo0p], []⟩ H [(lo0p, 1, List.map (eI) aA)] ∧ List.length aA = N0 ∧ kR aA a1 i10 j11 = some r) ?_ ⟨List.set (List.set aA (Int.toNat i10) (gD aA j11)) (Int.toNat j11) (gD aA i10), wR (i10 + (1 : Int)), wR (j11 - (1 : Int)), .eq (by kernel_rfl), hO, hN, h0⟩
      clear hO hN h0
      rintro T H ⟨aA, i10, j11, hT, hO, hN, h0⟩
      refine bD hT ?_
      clear hT
      unfold kR at h0
      obtain ⟨rr0, hl0, h0⟩ := aZ h0
      refine cR (by kernel_rfl) (fun (s : List Int × Int × Int) T H => Has T [(0, (.msl 1 lo0p 0 (List.length s.1))), (1, (eI a1)), (10, (eI s.2.1)), (11, (eI s.2.2))] ∧ aI ⟨H0, [lo0p], []⟩ H [(lo0p, 1, List.map (eI) s.1)] ∧ List.length s.1 = N0) hl0 ⟨.eq (by kernel_rfl), hO, hN⟩ ?_
      clear hO hN
      rintro k0 s out1 T H ⟨hT, hO, hN⟩ h1 ho0
      obtain ⟨aA, i10, j11⟩ := s
      replace h1 : dX a1 aA i10 j11 = some out1 := h1
      try dsimp only at hT
      refine bD hT ?_
      clear hT
      unfold dX at h1
      refine cA 5 ?_
      refine dP (fun T H => ∃ aA : List Int, ∃ i10 : Int, Has T [(0, (.msl 1 lo0p 0 (List.length aA))), (1, (eI a1)), (10, (eI i10)), (11, (eI j11))] ∧ aI ⟨H0, [lo0p], []⟩ H [(lo0p, 1, List.map (eI) aA)] ∧ List.length aA = N0 ∧ iX aA a1 i10 j11 = some out1) ?_ ?_
      · clear hO hN h1
        rintro T H ⟨aA, i10, hT, hO, hN, h1⟩
        refine bD hT ?_
        clear hT
        unfold iX at h1
        refine dP (fun T H => ∃ aA : List Int, ∃ j11 : Int, Has T [(0, (.msl 1 lo0p 0 (List.length aA))), (1, (eI a1)), (10, (eI i10)), (11, (eI j11))] ∧ aI ⟨H0, [lo0p], []⟩ H [(lo0p, 1, List.map (eI) aA)] ∧ List.length aA = N0 ∧ fF aA a1 i10 j11 = some out1) ?_ ?_
        · clear hO hN h1
          rintro T H ⟨aA, j11, hT, hO, hN, h1⟩
          refine bD hT ?_
          clear hT
          unfold fF at h1
          refine aL ?_
          refine aX aD 3 [] [(134, (aE (decide (j11 < i10))))] ?_
          refine bJ h1 (fun h1 => ?_) (fun h1 => ?_)
          · refine eR 4 ?_
            obtain rfl := oI h1
            obtain rfl : _ = rr0 := ho0
            replace h0 : iY aA a1 j11 = some r := h0
            exact aG (aV (uG (by kernel_rfl) (aV (bS (aF (⟨rfl, _, _, .eq (by kernel_rfl), hO, hN, h0⟩))))))
          refine bK ?_
          refine bH [(0, (.msl 1 lo0p 0 (List.length aA))), (1, (eI a1)), (10, (eI i10)), (11, (eI j11))] ?_
          refine aL ?_
          refine eS (eU []) aD 16 ?_
          obtain ⟨c19, h1⟩ := bA h1
          refine cI 7 [0 ≤ j11 ∧ j11 < (lN aA)] ⟨c19, trivial⟩ ?_
          refine hU 0 lo0p 1 (0 + Int.toNat j11) (eI (gD aA j11)) (eI (gD aA j11)) (List.map (eI) aA) hO (cF c19) ?_
          obtain ⟨c20, h1⟩ := bA h1
          refine cI 11 [0 ≤ i10 ∧ i10 < (lN aA)] ⟨c20, trivial⟩ ?_
          refine hU 0 lo0p 1 (0 + Int.toNat i10) (eI (gD aA i10)) (eI (gD aA i10)) (List.map (eI) aA) hO (cF c20) ?_
          obtain ⟨c21, h1⟩ := bA h1
          refine cI 13 [0 ≤ i10 ∧ i10 < (lN aA)] ⟨c21, trivial⟩ ?_
          refine kV 0 lo0p 1 (0 + Int.toNat i10) (eI (gD aA i10)) (eI (gD aA j11)) (List.map (eI) aA) [(lo0p, 1, List.map (eI) (List.set aA (Int.toNat i10) (gD aA j11)))] hO (cF c21) (by simp only [List.set, iO]) ?_
          intro H hO
          replace hN : List.length (List.set aA (Int.toNat i10) (gD aA j11)) = N0 := by simpa using hN
          obtain ⟨c22, h1⟩ := bA h1
          refine cI 15 [0 ≤ j11 ∧ j11 < (lN aA)] ⟨c22, trivial⟩ ?_
          refine kV 0 lo0p 1 (0 + Int.toNat j11) (eI (gD (List.set aA (Int.toNat i10) (gD aA j11)) j11)) (eI (gD aA i10)) (List.map (eI) (List.set aA (Int.toNat i10) (gD aA j11))) [(lo0p, 1, List.map (eI) (List.set (List.set aA (Int.toNat i10) (gD aA j11)) (Int.toNat j11) (gD aA i10)))] hO (nR c22 (by simp [])) (by simp only [List.set, iO]) ?_
          intro H hO
          replace hN : List.length (List.set (List.set aA (Int.toNat i10) (gD aA j11)) (Int.toNat j11) (gD aA i10)) = N0 := by simpa using hN
          refine nJ (by kernel_rfl) ?_
          refine dS (l := [(0, (.msl 1 lo0p 0 (List.length (List.set (List.set aA (Int.toNat i10) (gD aA j11)) (Int.toNat j11) (gD aA i10))))), (1, (eI a1)), (10, (eI i10)), (11, (eI j11))]) ⟨[(0, (.msl 1 lo0p 0 (List.length aA))), (1, (eI a1)), (10, (eI i10)), (11, (eI j11))], by kernel_rfl, rfl, ⟨aN.eq (by simp []), aN.refl _, aN.refl _, aN.refl _, trivial⟩⟩ ?_
          refine aG (aF (?_))
          refine aX aD 3 [10] [(10, (eI (wR (i10 + (1 : Int)))))] ?_
          refine aW aD 3 ?_
          refine bG ?_
          exact aG (aY (aF (⟨rfl, _, (oI h1).symm, .eq (by kernel_rfl), hO, hN⟩)))
        refine cA 8 ?_
        refine eG [(0, (.msl 1 lo0p 0 (List.length aA))), (1, (eI a1)), (10, (eI i10)), (11, (eI j11))] ?_
        refine dY (fun T H => ∃ aA : List Int, ∃ j11 : Int, Has T [(0, (.msl 1 lo0p 0 (List.length aA))), (1, (eI a1)), (10, (eI i10)), (11, (eI j11))] ∧ aI ⟨H0, [lo0p], []⟩ H [(lo0p, 1, List.map (eI) aA)] ∧ List.length aA = N0 ∧ kP aA a1 i10 j11 = some out1) ?_ ⟨aA, j11, .eq (by kernel_rfl), hO, hN, h1⟩
        clear hO hN h1
        rintro T H ⟨aA, j11, hT, hO, hN, h1⟩
        refine bD hT ?_
        clear hT
        unfold kP at h1
        obtain ⟨rr1, hl1, h1⟩ := aZ h1
        refine cR (by kernel_rfl) (fun (s : List Int × Int) T H => Has T [(0, (.msl 1 lo0p 0 (List.length s.1))), (1, (eI a1)), (10, (eI i10)), (11, (eI s.2))] ∧ aI ⟨H0, [lo0p], []⟩ H [(lo0p, 1, List.map (eI) s.1)] ∧ List.length s.1 = N0) hl1 ⟨.eq (by kernel_rfl), hO, hN⟩ ?_
        clear hO hN
        rintro k1 s out2 T H ⟨hT, hO, hN⟩ h2 ho1
        obtain ⟨aA, j11⟩ := s
        replace h2 : fD a1 i10 aA j11 = some out2 := h2
        try dsimp only at hT
        refine bD hT ?_
        clear hT
        unfold fD at h2
        refine aL ?_
        refine aL ?_
        obtain ⟨c23, h2⟩ := bA h2
        obtain ⟨c24, h2⟩ := bA h2
        obtain ⟨x25, hx26, h2⟩ := aZ h2
        refine eS (eU []) aD 15 ?_
        refine mB (K := fun T H => Has (lift T) [(0, (.msl 1 lo0p 0 (List.length aA))), (1, (eI a1)), (10, (eI i10)), (11, (eI j11)), (129, (aE ((decide (i10 ≤ j11)) && (!x25))))] ∧ aI ⟨H0, [lo0p], []⟩ H [(lo0p, 1, List.map (eI) aA)]) ?_ ?_
        · refine jZ 4 ?_
          refine kB (t := 118) (e := decide (i10 ≤ j11)) (by kernel_rfl) (fun hg27 => ?_) (fun hg27 => ?_)
          · refine cI 7 [0 ≤ j11 ∧ j11 < (lN aA)] ⟨(c23 hg27), trivial⟩ ?_
            refine jG 0 lo0p 1 (0 + Int.toNat j11) (eI (gD aA j11)) (eI (gD aA j11)) (List.map (eI) aA) (by kernel_rfl) (by kernel_rfl) (by kernel_rfl) hO (by kernel_rfl) (cF (c23 hg27)) ?_
            refine cI 11 [0 ≤ a1 ∧ a1 < (lN aA)] ⟨(c24 hg27), trivial⟩ ?_
            refine jG 0 lo0p 1 (0 + Int.toNat a1) (eI (gD aA a1)) (eI (gD aA a1)) (List.map (eI) aA) (by kernel_rfl) (by kernel_rfl) (by kernel_rfl) hO (by kernel_rfl) (cF (c24 hg27)) ?_
            refine lZ 84 [(eI (gD aA j11)), (eI (gD aA a1))] (aE x25) (by kernel_rfl) (by kernel_rfl) (gH (gD aA j11) (gD aA a1) _ (gV hx26 hg27)) hO ?_
            intro H hO
            refine gK ?_
            exact ⟨⟨[(0, (.msl 1 lo0p 0 (List.length aA))), (1, (eI a1)), (10, (eI i10)), (11, (eI j11)), (129, (aE (!x25)))], by kernel_rfl, rfl, ⟨aN.refl _, aN.refl _, aN.refl _, aN.refl _, aN.eq (congrArg aE (gY hg27 rfl).symm), trivial⟩⟩, hO⟩
          refine gK ?_
          exact ⟨⟨[(0, (.msl 1 lo0p 0 (List.length aA))), (1, (eI a1)), (10, (eI i10)), (11, (eI j11)), (129, (aE false))], by kernel_rfl, rfl, ⟨aN.refl _, aN.refl _, aN.refl _, aN.refl _, aN.eq (congrArg aE (gY hg27 rfl).symm), trivial⟩⟩, hO⟩
        · rintro T H ⟨hT, hO⟩
          refine dS hT ?_
          clear hT
          refine aG (aF ?_)
          refine bJ h2 (fun h2 => ?_) (fun h2 => ?_)
          · refine bK ?_
            refine bH [(0, (.msl 1 lo0p 0 (List.length aA))), (1, (eI a1)), (10, (eI i10)), (11, (eI j11))] ?_
            refine cA 9 ?_
            refine aW aD 3 ?_
            refine bG ?_
            exact aG (aY (aF (⟨rfl, _, (oI h2).symm, .eq (by kernel_rfl), hO, hN⟩)))
          refine eR 8 ?_
          obtain rfl := oI h2
          obtain rfl : _ = rr1 := ho1
          replace h1 : fF aA a1 i10 j11 = some out1 := h1
          exact aG (aV (aV (bS (aF (⟨rfl, _, _, .eq (by kernel_rfl), hO, hN, h1⟩)))))
      refine cA 6 ?_
      refine eG [(0, (.msl 1 lo0p 0 (List.length aA))), (1, (eI a1)), (10, (eI i10)), (11, (eI j11))] ?_
      refine dY (fun T H => ∃ aA : List Int, ∃ i10 : Int, Has T [(0, (.msl 1 lo0p 0 (List.length aA))), (1, (eI a1)), (10, (eI i10)), (11, (eI j11))] ∧ aI ⟨H0, [lo0p], []⟩ H [(lo0p, 1, List.map (eI) aA)] ∧ List.length aA = N0 ∧ kT aA a1 i10 j11 = some out1) ?_ ⟨aA, i10, .eq (by kernel_rfl), hO, hN, h1⟩
      clear hO hN h1
      rintro T H ⟨aA, i10, hT, hO, hN, h1⟩
      refine bD hT ?_
      clear hT
      unfold kT at h1
      obtain ⟨rr1, hl1, h1⟩ := aZ h1
      refine cR (by kernel_rfl) (fun (s : List Int × Int) T H => Has T [(0, (.msl 1 lo0p 0 (List.length s.1))), (1, (eI a1)), (10, (eI s.2)), (11, (eI j11))] ∧ aI ⟨H0, [lo0p], []⟩ H [(lo0p, 1, List.map (eI) s.1)] ∧ List.length s.1 = N0) hl1 ⟨.eq (by kernel_rfl), hO, hN⟩ ?_
      clear hO hN
      rintro k1 s out2 T H ⟨hT, hO, hN⟩ h2 ho1
      obtain ⟨aA, i10⟩ := s
      replace h2 : fI a1 j11 aA i10 = some out2 := h2
      try dsimp only at hT
      refine bD hT ?_
      clear hT
      unfold fI at h2
      refine aL ?_
      refine aL ?_
      obtain ⟨c29, h2⟩ := bA h2
      obtain ⟨c30, h2⟩ := bA h2
      obtain ⟨x31, hx32, h2⟩ := aZ h2
      refine eS (eU []) aD 14 ?_
      refine mB (K := fun T H => Has (lift T) [(0, (.msl 1 lo0p 0 (List.length aA))), (1, (eI a1)), (10, (eI i10)), (11, (eI j11)), (112, (aE ((decide (i10 ≤ j11)) && x31)))] ∧ aI ⟨H0, [lo0p], []⟩ H [(lo0p, 1, List.map (eI) aA)]) ?_ ?_
      · refine jZ 4 ?_
        refine kB (t := 102) (e := decide (i10 ≤ j11)) (by kernel_rfl) (fun hg33 => ?_) (fun hg33 => ?_)
        · refine cI 7 [0 ≤ i10 ∧ i10 < (lN aA)] ⟨(c29 hg33), trivial⟩ ?_
          refine jG 0 lo0p 1 (0 + Int.toNat i10) (eI (gD aA i10)) (eI (gD aA i10)) (List.map (eI) aA) (by kernel_rfl) (by kernel_rfl) (by kernel_rfl) hO (by kernel_rfl) (cF (c29 hg33)) ?_
          refine cI 11 [0 ≤ a1 ∧ a1 < (lN aA)] ⟨(c30 hg33), trivial⟩ ?_
          refine jG 0 lo0p 1 (0 + Int.toNat a1) (eI (gD aA a1)) (eI (gD aA a1)) (List.map (eI) aA) (by kernel_rfl) (by kernel_rfl) (by kernel_rfl) hO (by kernel_rfl) (cF (c30 hg33)) ?_
          refine lZ 84 [(eI (gD aA i10)), (eI (gD aA a1))] (aE x31) (by kernel_rfl) (by kernel_rfl) (gH (gD aA i10) (gD aA a1) _ (gV hx32 hg33)) hO ?_
          intro H hO
          refine gK ?_
          exact ⟨⟨[(0, (.msl 1 lo0p 0 (List.length aA))), (1, (eI a1)), (10, (eI i10)), (11, (eI j11)), (112, (aE x31))], by kernel_rfl, rfl, ⟨aN.refl _, aN.refl _, aN.refl _, aN.refl _, aN.eq (congrArg aE (gY hg33 rfl).symm), trivial⟩⟩, hO⟩
        refine gK ?_
        exact ⟨⟨[(0, (.msl 1 lo0p 0 (List.length aA))), (1, (eI a1)), (10, (eI i10)), (11, (eI j11)), (112, (aE false))], by kernel_rfl, rfl, ⟨aN.refl _, aN.refl _, aN.refl _, aN.refl _, aN.eq (congrArg aE (gY hg33 rfl).symm), trivial⟩⟩, hO⟩
      · rintro T H ⟨hT, hO⟩
        refine dS hT ?_
        clear hT
        refine aG (aF ?_)
        refine bJ h2 (fun h2 => ?_) (fun h2 => ?_)
        · refine bK ?_
          refine bH [(0, (.msl 1 lo0p 0 (List.length aA))), (1, (eI a1)), (10, (eI i10)), (11, (eI j11))] ?_
          refine cA 7 ?_
          refine aW aD 3 ?_
          refine bG ?_
          exact aG (aY (aF (⟨rfl, _, (oI h2).symm, .eq (by kernel_rfl), hO, hN⟩)))
        refine eR 6 ?_
        obtain rfl := oI h2
        obtain rfl : _ = rr1 := ho1
        replace h1 : iX aA a1 i10 j11 = some out1 := h1
        exact aG (aV (aV (bS (aF (⟨rfl, _, _, .eq (by kernel_rfl), hO, hN, h1⟩)))))
    refine cA 2 ?_
    refine eG [(0, (.msl 1 lo0p 0 (List.length aA))), (1, (eI a1)), (10, (eI i10)), (11, (eI j11))] ?_
    refine dY (fun T H => ∃ aA : List Int, ∃ j11 : Int, Has T [(0, (.msl 1 lo0p 0 (List.length aA))), (1, (eI a1)), (10, (eI i10)), (11, (eI j11))] ∧ aI ⟨H0, [lo0p], []⟩ H [(lo0p, 1, List.map (eI) aA)] ∧ List.length aA = N0 ∧ kQ aA a1 i10 j11 = some r) ?_ ⟨aA, j11, .eq (by kernel_rfl), hO, hN, h0⟩
    clear hO hN h0
    rintro T H ⟨aA, j11, hT, hO, hN, h0⟩
    refine bD hT ?_
    clear hT
    unfold kQ at h0
    obtain ⟨rr0, hl0, h0⟩ := aZ h0
    refine cR (by kernel_rfl) (fun (s : List Int × Int) T H => Has T [(0, (.msl 1 lo0p 0 (List.length s.1))), (1, (eI a1)), (10, (eI i10)), (11, (eI s.2))] ∧ aI ⟨H0, [lo0p], []⟩ H [(lo0p, 1, List.map (eI) s.1)] ∧ List.length s.1 = N0) hl0 ⟨.eq (by kernel_rfl), hO, hN⟩ ?_
    clear hO hN
    rintro k0 s out1 T H ⟨hT, hO, hN⟩ h1 ho0
    obtain ⟨aA, j11⟩ := s
    replace h1 : fG a1 i10 aA j11 = some out1 := h1
    try dsimp only at hT
    refine bD hT ?_
    clear hT
    unfold fG at h1
    refine aL ?_
    refine aL ?_
    obtain ⟨c35, h1⟩ := bA h1
    obtain ⟨c36, h1⟩ := bA h1
    obtain ⟨x37, hx38, h1⟩ := aZ h1
    refine eS (eU []) aD 15 ?_
    refine mB (K := fun T H => Has (lift T) [(0, (.msl 1 lo0p 0 (List.length aA))), (1, (eI a1)), (10, (eI i10)), (11, (eI j11)), (60, (aE ((decide (i10 ≤ j11)) && (!x37))))] ∧ aI ⟨H0, [lo0p], []⟩ H [(lo0p, 1, List.map (eI) aA)]) ?_ ?_
    · refine jZ 4 ?_
      refine kB (t := 49) (e := decide (i10 ≤ j11)) (by kernel_rfl) (fun hg39 => ?_) (fun hg39 => ?_)
      · refine cI 7 [0 ≤ j11 ∧ j11 < (lN aA)] ⟨(c35 hg39), trivial⟩ ?_
        refine jG 0 lo0p 1 (0 + Int.toNat j11) (eI (gD aA j11)) (eI (gD aA j11)) (List.map (eI) aA) (by kernel_rfl) (by kernel_rfl) (by kernel_rfl) hO (by kernel_rfl) (cF (c35 hg39)) ?_
        refine cI 11 [0 ≤ a1 ∧ a1 < (lN aA)] ⟨(c36 hg39), trivial⟩ ?_
        refine jG 0 lo0p 1 (0 + Int.toNat a1) (eI (gD aA a1)) (eI (gD aA a1)) (List.map (eI) aA) (by kernel_rfl) (by kernel_rfl) (by kernel_rfl) hO (by kernel_rfl) (cF (c36 hg39)) ?_
        refine lZ 84 [(eI (gD aA j11)), (eI (gD aA a1))] (aE x37) (by kernel_rfl) (by kernel_rfl) (gH (gD aA j11) (gD aA a1) _ (gV hx38 hg39)) hO ?_
        intro H hO
        refine gK ?_
        exact ⟨⟨[(0, (.msl 1 lo0p 0 (List.length aA))), (1, (eI a1)), (10, (eI i10)), (11, (eI j11)), (60, (aE (!x37)))], by kernel_rfl, rfl, ⟨aN.refl _, aN.refl _, aN.refl _, aN.refl _, aN.eq (congrArg aE (gY hg39 rfl).symm), trivial⟩⟩, hO⟩
      refine gK ?_
      exact ⟨⟨[(0, (.msl 1 lo0p 0 (List.length aA))), (1, (eI a1)), (10, (eI i10)), (11, (eI j11)), (60, (aE false))], by kernel_rfl, rfl, ⟨aN.refl _, aN.refl _, aN.refl _, aN.refl _, aN.eq (congrArg aE (gY hg39 rfl).symm), trivial⟩⟩, hO⟩
    · rintro T H ⟨hT, hO⟩
      refine dS hT ?_
      clear hT
      refine aG (aF ?_)
      refine bJ h1 (fun h1 => ?_) (fun h1 => ?_)
      · refine bK ?_
        refine bH [(0, (.msl 1 lo0p 0 (List.length aA))), (1, (eI a1)), (10, (eI i10)), (11, (eI j11))] ?_
        refine cA 3 ?_
        refine aW aD 3 ?_
        refine bG ?_
        exact aG (aY (aF (⟨rfl, _, (oI h1).symm, .eq (by kernel_rfl), hO, hN⟩)))
      refine eR 2 ?_
      obtain rfl := oI h1
      obtain rfl : _ = rr0 := ho0
      replace h0 : fE aA a1 i10 j11 = some r := h0
      exact aG (aV (aV (bS (aF (⟨rfl, _, _, .eq (by kernel_rfl), hO, hN, h0⟩)))))
  refine cA 0 ?_
  refine eG [(0, (.msl 1 lo0p 0 (List.length (List.set (List.set aA (Int.toNat a1) (gD aA cQ)) (Int.toNat cQ) (gD aA a1))))), (1, (eI a1)), (10, (eI (wR (a1 + (1 : Int))))), (11, (eI (wR (b2 - (1 : Int)))))] ?_
  refine dY (fun T H => ∃ aA : List Int, ∃ i10 : Int, ∃ j11 : Int, Has T [(0, (.msl 1 lo0p 0 (List.length aA))), (1, (eI a1)), (10, (eI i10)), (11, (eI j11))] ∧ aI ⟨H0, [lo0p], []⟩ H [(lo0p, 1, List.map (eI) aA)] ∧ List.length aA = N0 ∧ fZ aA a1 i10 j11 = some r) ?_ ⟨List.set (List.set aA (Int.toNat a1) (gD aA cQ)) (Int.toNat cQ) (gD aA a1), wR (a1 + (1 : Int)), wR (b2 - (1 : Int)), .eq (by kernel_rfl), hO, hN, h0⟩
  clear hO hN h0
  rintro T H ⟨aA, i10, j11, hT, hO, hN, h0⟩
  refine bD hT ?_
  clear hT
  unfold fZ at h0
  obtain ⟨rr0, hl0, h0⟩ := aZ h0
  refine cR (by kernel_rfl) (fun (s : List Int × Int) T H => Has T [(0, (.msl 1 lo0p 0 (List.length s.1))), (1, (eI a1)), (10, (eI s.2)), (11, (eI j11))] ∧ aI ⟨H0, [lo0p], []⟩ H [(lo0p, 1, List.map (eI) s.1)] ∧ List.length s.1 = N0) hl0 ⟨.eq (by kernel_rfl), hO, hN⟩ ?_
  clear hO hN
  rintro k0 s out1 T H ⟨hT, hO, hN⟩ h1 ho0
  obtain ⟨aA, i10⟩ := s
  replace h1 : eZ a1 j11 aA i10 = some out1 := h1
  try dsimp only at hT
  refine bD hT ?_
  clear hT
  unfold eZ at h1
  refine aL ?_
  refine aL ?_
  obtain ⟨c41, h1⟩ := bA h1
  obtain ⟨c42, h1⟩ := bA h1
  obtain ⟨x43, hx44, h1⟩ := aZ h1
  refine eS (eU []) aD 14 ?_
  refine mB (K := fun T H => Has (lift T) [(0, (.msl 1 lo0p 0 (List.length aA))), (1, (eI a1)), (10, (eI i10)), (11, (eI j11)), (43, (aE ((decide (i10 ≤ j11)) && x43)))] ∧ aI ⟨H0, [lo0p], []⟩ H [(lo0p, 1, List.map (eI) aA)]) ?_ ?_
  · refine jZ 4 ?_
    refine kB (t := 33) (e := decide (i10 ≤ j11)) (by kernel_rfl) (fun hg45 => ?_) (fun hg45 => ?_)
    · refine cI 7 [0 ≤ i10 ∧ i10 < (lN aA)] ⟨(c41 hg45), trivial⟩ ?_
      refine jG 0 lo0p 1 (0 + Int.toNat i10) (eI (gD aA i10)) (eI (gD aA i10)) (List.map (eI) aA) (by kernel_rfl) (by kernel_rfl) (by kernel_rfl) hO (by kernel_rfl) (cF (c41 hg45)) ?_
      refine cI 11 [0 ≤ a1 ∧ a1 < (lN aA)] ⟨(c42 hg45), trivial⟩ ?_
      refine jG 0 lo0p 1 (0 + Int.toNat a1) (eI (gD aA a1)) (eI (gD aA a1)) (List.map (eI) aA) (by kernel_rfl) (by kernel_rfl) (by kernel_rfl) hO (by kernel_rfl) (cF (c42 hg45)) ?_
      refine lZ 84 [(eI (gD aA i10)), (eI (gD aA a1))] (aE x43) (by kernel_rfl) (by kernel_rfl) (gH (gD aA i10) (gD aA a1) _ (gV hx44 hg45)) hO ?_
      intro H hO
      refine gK ?_
      exact ⟨⟨[(0, (.msl 1 lo0p 0 (List.length aA))), (1, (eI a1)), (10, (eI i10)), (11, (eI j11)), (43, (aE x43))], by kernel_rfl, rfl, ⟨aN.refl _, aN.refl _, aN.refl _, aN.refl _, aN.eq (congrArg aE (gY hg45 rfl).symm), trivial⟩⟩, hO⟩
    refine gK ?_
    exact ⟨⟨[(0, (.msl 1 lo0p 0 (List.length aA))), (1, (eI a1)), (10, (eI i10)), (11, (eI j11)), (43, (aE false))], by kernel_rfl, rfl, ⟨aN.refl _, aN.refl _, aN.refl _, aN.refl _, aN.eq (congrArg aE (gY hg45 rfl).symm), trivial⟩⟩, hO⟩
  · rintro T H ⟨hT, hO⟩
    refine dS hT ?_
    clear hT
    refine aG (aF ?_)
    refine bJ h1 (fun h1 => ?_) (fun h1 => ?_)
    · refine bK ?_
      refine bH [(0, (.msl 1 lo0p 0 (List.length aA))), (1, (eI a1)), (10, (eI i10)), (11, (eI j11))] ?_
      refine cA 1 ?_
      refine aW aD 3 ?_
      refine bG ?_
      exact aG (aY (aF (⟨rfl, _, (oI h1).symm, .eq (by kernel_rfl), hO, hN⟩)))
    refine eR 0 ?_
    obtain rfl := oI h1
    obtain rfl : _ = rr0 := ho0
    replace h0 : iV aA a1 i10 j11 = some r := h0
    exact aG (aV (aV (bS (aF (⟨rfl, _, _, _, .eq (by kernel_rfl), hO, hN, h0⟩)))))

theorem yH  (rec : (List Int) → Int → Int → Int → Option (List Int)) (ih : ∀ (lo0p : Nat) (aA : (List Int)) (a1 : Int) (b2 : Int) (cG : Int) (r : List Int), rec aA a1 b2 cG = some r → nX Try.prog 61 lo0p 1 (List.map (eI) aA) (List.map (eI) r) [(.msl 1 lo0p 0 (List.length aA)), (eI a1), (eI b2), (eI cG)] (.tup [])) (lo0p : Nat) (aA : (List Int)) (a1 : Int) (b2 : Int) (cG : Int) (r : List Int) (h0 : gG rec aA a1 b2 cG = some r) : nX Try.prog 61 lo0p 1 (List.map (eI) aA) (List.map (eI) r) [(.msl 1 lo0p 0 (List.length aA)), (eI a1), (eI b2), (eI cG)] (.tup []) := by
  intro H0 hl0
  refine dH Try.func61 ?_
  have hO := aI.vH hl0
  clear hl0
  obtain ⟨N0, hN0⟩ : ∃ n, n = List.length aA := ⟨_, rfl⟩
  have hN : List.length aA = N0 := hN0.symm
  unfold gG at h0
  refine aX aD 1 [] [(8, (aE true))] ?_
  refine aX aD 1 [] [(9, (aE true))] ?_
  refine cA 0 ?_
  refine eG [(0, (.msl 1 lo0p 0 (List.length aA))), (1, (eI a1)), (2, (eI b2)), (3, (eI cG)), (8, (aE true)), (9, (aE true))] ?_
  refine dY (fun T H => ∃ aA : List Int, ∃ a1 : Int, ∃ b2 : Int, ∃ cG : Int, ∃ cC : Bool, ∃ bW : Bool, Has T [(0, (.msl 1 lo0p 0 (List.length aA))), (1, (eI a1)), (2, (eI b2)), (3, (eI cG)), (8, (aE cC)), (9, (aE bW))] ∧ aI ⟨H0, [lo0p], []⟩ H [(lo0p, 1, List.map (eI) aA)] ∧ List.length aA = N0 ∧ lO rec aA a1 b2 cG cC bW = some r) ?_ ⟨aA, a1, b2, cG, true, true, .eq (by kernel_rfl), hO, hN, h0⟩
  clear hO hN h0
  rintro T H ⟨aA, a1, b2, cG, cC, bW, hT, hO, hN, h0⟩
  refine bD hT ?_
  clear hT
  unfold lO at h0
  obtain ⟨rr0, hl0, h0⟩ := aZ h0
  refine cR (by kernel_rfl) (fun (s : List Int × Int × Int × Int × Bool × Bool) T H => Has T [(0, (.msl 1 lo0p 0 (List.length s.1))), (1, (eI s.2.1)), (2, (eI s.2.2.1)), (3, (eI s.2.2.2.1)), (8, (aE s.2.2.2.2.1)), (9, (aE s.2.2.2.2.2))] ∧ aI ⟨H0, [lo0p], []⟩ H [(lo0p, 1, List.map (eI) s.1)] ∧ List.length s.1 = N0) hl0 ⟨.eq (by kernel_rfl), hO, hN⟩ ?_
  clear hO hN
  rintro k0 s out1 T H ⟨hT, hO, hN⟩ h1 ho0
  obtain ⟨aA, a1, b2, cG, cC, bW⟩ := s
  replace h1 : eW rec aA a1 b2 cG cC bW = some out1 := h1
  try dsimp only at hT
  refine bD hT ?_
  clear hT
  unfold eW at h1
  refine cA 1 ?_
  refine aX aD 4 [] [(10, (eI (wR (b2 - a1))))] ?_
  refine aL ?_
  refine aX aD 2 [] [(23, (aE (decide ((wR (b2 - a1)) ≤ (12 : Int)))))] ?_
  refine bJ h1 (fun h1 => ?_) (fun h1 => ?_)
  · refine aL ?_
    refine aW aD 4 ?_
    refine bU 3 ?_
    obtain ⟨x2, hx3, h1⟩ := aZ h1
    refine zV [(lo0p, 1, List.map (eI) x2)] 0 (xL lo0p aA a1 b2 _ hx3) hO ?_
    intro H hO hl4
    simp only [List.length_map] at hl4
    replace hN := hl4.trans hN
    refine eT ?_
    refine dS (l := [(0, (.msl 1 lo0p 0 (List.length x2)))]) ⟨[(0, (.msl 1 lo0p 0 (List.length aA)))], by kernel_rfl, rfl, ⟨aN.eq (by simp [hl4]), trivial⟩⟩ ?_
    refine aG (aF (?_))
    refine bL ?_
    obtain rfl := oI h1
    obtain rfl : _ = rr0 := ho0
    replace h0 : some x2 = some r := h0
    obtain rfl := oI h0
    exact aG (aO (bE (aO (bE (mZ (x := (.tup [])) (by kernel_rfl) (aN.refl _) ⟨rfl, hO.ext, hO.at 0 (by kernel_rfl), by simp only [List.length_map]; exact hN.trans hN0⟩)))))
  refine bK ?_
  refine bH [(0, (.msl 1 lo0p 0 (List.length aA))), (1, (eI a1)), (2, (eI b2)), (3, (eI cG)), (8, (aE cC)), (9, (aE bW)), (10, (eI (wR (b2 - a1))))] ?_
  refine aL ?_
  refine aX aD 2 [] [(29, (aE (decide (cG = (0 : Int)))))] ?_
  refine bJ h1 (fun h1 => ?_) (fun h1 => ?_)
  · refine aL ?_
    refine aW aD 4 ?_
    refine bU 3 ?_
    obtain ⟨x6, hx7, h1⟩ := aZ h1
    refine zV [(lo0p, 1, List.map (eI) x6)] 0 (AB lo0p aA a1 b2 _ hx7) hO ?_
    intro H hO hl8
    simp only [List.length_map] at hl8
    replace hN := hl8.trans hN
    refine eT ?_
    refine dS (l := [(0, (.msl 1 lo0p 0 (List.length x6)))]) ⟨[(0, (.msl 1 lo0p 0 (List.length aA)))], by kernel_rfl, rfl, ⟨aN.eq (by simp [hl8]), trivial⟩⟩ ?_
    refine aG (aF (?_))
    refine bL ?_
    obtain rfl := oI h1
    obtain rfl : _ = rr0 := ho0
    replace h0 : some x6 = some r := h0
    obtain rfl := oI h0
    exact aG (aO (bE (aO (bE (mZ (x := (.tup [])) (by kernel_rfl) (aN.refl _) ⟨rfl, hO.ext, hO.at 0 (by kernel_rfl), by simp only [List.length_map]; exact hN.trans hN0⟩)))))
  refine bK ?_
  refine bH [(0, (.msl 1 lo0p 0 (List.length aA))), (1, (eI a1)), (2, (eI b2)), (3, (eI cG)), (8, (aE cC)), (9, (aE bW)), (10, (eI (wR (b2 - a1))))] ?_
  refine dP (fun T H => ∃ aA : List Int, ∃ cG : Int, ∃ eH : Int, Has T [(0, (.msl 1 lo0p 0 (List.length aA))), (1, (eI a1)), (2, (eI b2)), (3, (eI cG)), (8, (aE cC)), (9, (aE bW)), (10, (eI eH))] ∧ aI ⟨H0, [lo0p], []⟩ H [(lo0p, 1, List.map (eI) aA)] ∧ List.length aA = N0 ∧ iH rec aA a1 b2 cG cC bW eH = some out1) ?_ ?_
  · clear hO hN h1
    rintro T H ⟨aA, cG, eH, hT, hO, hN, h1⟩
    refine bD hT ?_
    clear hT
    unfold iH at h1
    refine aL ?_
    refine aW aD 9 ?_
    refine bU 3 ?_
    obtain ⟨x9, hx10, h1⟩ := aZ h1
    refine EK [] [0] (yR lo0p aA a1 b2 _ hx10) hO ?_
    intro r11 L12 H hP13 hO
    obtain ⟨rfl, rfl⟩ := hP13
    replace hO : aI ⟨H0, [lo0p], []⟩ H [(lo0p, 1, List.map (eI) aA)] := hO
    refine bG ?_
    refine bZ [] [(11, (eI x9.1)), (12, (eI x9.2))] ?_
    refine dP (fun T H => ∃ aA : List Int, ∃ gF : Int, ∃ EU : Int, Has T [(0, (.msl 1 lo0p 0 (List.length aA))), (1, (eI a1)), (2, (eI b2)), (3, (eI cG)), (8, (aE cC)), (9, (aE bW)), (10, (eI eH)), (11, (eI gF)), (12, (eI EU))] ∧ aI ⟨H0, [lo0p], []⟩ H [(lo0p, 1, List.map (eI) aA)] ∧ List.length aA = N0 ∧ iG rec aA a1 b2 cG cC bW eH gF EU = some out1) ?_ ?_
    · clear hO hN h1
      rintro T H ⟨aA, gF, EU, hT, hO, hN, h1⟩
      refine bD hT ?_
      clear hT
      unfold iG at h1
      refine dP (fun T H => ∃ aA : List Int, Has T [(0, (.msl 1 lo0p 0 (List.length aA))), (1, (eI a1)), (2, (eI b2)), (3, (eI cG)), (8, (aE cC)), (9, (aE bW)), (10, (eI eH)), (11, (eI gF))] ∧ aI ⟨H0, [lo0p], []⟩ H [(lo0p, 1, List.map (eI) aA)] ∧ List.length aA = N0 ∧ iE rec aA a1 b2 cG cC bW eH gF = some out1) ?_ ?_
      · clear hO hN h1
        rintro T H ⟨aA, hT, hO, hN, h1⟩
        refine bD hT ?_
        clear hT
        unfold iE at h1
        refine aL ?_
        refine aL ?_
        obtain ⟨c14, h1⟩ := bA h1
        obtain ⟨c15, h1⟩ := bA h1
        obtain ⟨x16, hx17, h1⟩ := aZ h1
        refine eS (eU []) aD 15 ?_
        refine mB (K := fun T H => Has (lift T) [(0, (.msl 1 lo0p 0 (List.length aA))), (1, (eI a1)), (2, (eI b2)), (3, (eI cG)), (8, (aE cC)), (9, (aE bW)), (10, (eI eH)), (11, (eI gF)), (87, (aE ((decide ((0 : Int) < a1)) && (!x16))))] ∧ aI ⟨H0, [lo0p], []⟩ H [(lo0p, 1, List.map (eI) aA)]) ?_ ?_
        · refine jZ 3 ?_
          refine kB (t := 75) (e := decide ((0 : Int) < a1)) (by kernel_rfl) (fun hg18 => ?_) (fun hg18 => ?_)
          · refine cI 7 [0 ≤ (wR (a1 - (1 : Int))) ∧ (wR (a1 - (1 : Int))) < (lN aA)] ⟨(c14 hg18), trivial⟩ ?_
            refine jG 0 lo0p 1 (0 + Int.toNat (wR (a1 - (1 : Int)))) (eI (gD aA (wR (a1 - (1 : Int))))) (eI (gD aA (wR (a1 - (1 : Int))))) (List.map (eI) aA) (by kernel_rfl) (by kernel_rfl) (by kernel_rfl) hO (by kernel_rfl) (cF (c14 hg18)) ?_
            refine cI 11 [0 ≤ gF ∧ gF < (lN aA)] ⟨(c15 hg18), trivial⟩ ?_
            refine jG 0 lo0p 1 (0 + Int.toNat gF) (eI (gD aA gF)) (eI (gD aA gF)) (List.map (eI) aA) (by kernel_rfl) (by kernel_rfl) (by kernel_rfl) hO (by kernel_rfl) (cF (c15 hg18)) ?_
            refine lZ 84 [(eI (gD aA (wR (a1 - (1 : Int))))), (eI (gD aA gF))] (aE x16) (by kernel_rfl) (by kernel_rfl) (gH (gD aA (wR (a1 - (1 : Int)))) (gD aA gF) _ (gV hx17 hg18)) hO ?_
            intro H hO
            refine gK ?_
            exact ⟨⟨[(0, (.msl 1 lo0p 0 (List.length aA))), (1, (eI a1)), (2, (eI b2)), (3, (eI cG)), (8, (aE cC)), (9, (aE bW)), (10, (eI eH)), (11, (eI gF)), (87, (aE (!x16)))], by kernel_rfl, rfl, ⟨aN.refl _, aN.refl _, aN.refl _, aN.refl _, aN.refl _, aN.refl _, aN.refl _, aN.refl _, aN.eq (congrArg aE (gY hg18 rfl).symm), trivial⟩⟩, hO⟩
          refine gK ?_
          exact ⟨⟨[(0, (.msl 1 lo0p 0 (List.length aA))), (1, (eI a1)), (2, (eI b2)), (3, (eI cG)), (8, (aE cC)), (9, (aE bW)), (10, (eI eH)), (11, (eI gF)), (87, (aE false))], by kernel_rfl, rfl, ⟨aN.refl _, aN.refl _, aN.refl _, aN.refl _, aN.refl _, aN.refl _, aN.refl _, aN.refl _, aN.eq (congrArg aE (gY hg18 rfl).symm), trivial⟩⟩, hO⟩
        · rintro T H ⟨hT, hO⟩
          refine dS hT ?_
          clear hT
          refine aG (aF ?_)
          refine bJ h1 (fun h1 => ?_) (fun h1 => ?_)
          · refine aL ?_
            refine aW aD 6 ?_
            refine bU 4 ?_
            obtain ⟨x20, hx21, h1⟩ := aZ h1
            refine zV [(lo0p, 1, List.map (eI) x20.2)] 0 (xB lo0p aA a1 b2 gF _ hx21) hO ?_
            intro H hO hl22
            simp only [List.length_map] at hl22
            replace hN := hl22.trans hN
            refine bG ?_
            refine dS (l := [(0, (.msl 1 lo0p 0 (List.length x20.2))), (2, (eI b2)), (3, (eI cG)), (8, (aE cC)), (9, (aE bW)), (13, (eI x20.1))]) ⟨[(0, (.msl 1 lo0p 0 (List.length aA))), (2, (eI b2)), (3, (eI cG)), (8, (aE cC)), (9, (aE bW)), (13, (eI x20.1))], by kernel_rfl, rfl, ⟨aN.eq (by simp [hl22]), aN.refl _, aN.refl _, aN.refl _, aN.refl _, aN.refl _, trivial⟩⟩ ?_
            refine aG (aF (?_))
            refine aX aD 2 [13] [(1, (eI x20.1))] ?_
            refine eR 1 ?_
            exact aG (aV (bS (aF (⟨rfl, _, (oI h1).symm, .eq (by kernel_rfl), hO, hN⟩))))
          refine bK ?_
          refine bH [(0, (.msl 1 lo0p 0 (List.length aA))), (1, (eI a1)), (2, (eI b2)), (3, (eI cG)), (10, (eI eH)), (11, (eI gF))] ?_
          refine aL ?_
          refine aW aD 10 ?_
          refine bU 4 ?_
          obtain ⟨x23, hx24, h1⟩ := aZ h1
          refine zV [(lo0p, 1, List.map (eI) x23.2)] 0 (zU lo0p aA a1 b2 gF _ hx24) hO ?_
          intro H hO hl25
          simp only [List.length_map] at hl25
          replace hN := hl25.trans hN
          refine bG ?_
          refine dS (l := [(0, (.msl 1 lo0p 0 (List.length x23.2))), (1, (eI a1)), (2, (eI b2)), (3, (eI cG)), (10, (eI eH)), (14, (eI x23.1.1)), (15, (aE x23.1.2))]) ⟨[(0, (.msl 1 lo0p 0 (List.length aA))), (1, (eI a1)), (2, (eI b2)), (3, (eI cG)), (10, (eI eH)), (14, (eI x23.1.1)), (15, (aE x23.1.2))], by kernel_rfl, rfl, ⟨aN.eq (by simp [hl25]), aN.refl _, aN.refl _, aN.refl _, aN.refl _, aN.refl _, aN.refl _, trivial⟩⟩ ?_
          refine aG (aF (?_))
          refine aX aD 2 [15] [(9, (aE x23.1.2))] ?_
          refine aX aD 8 [] [(16, (eI (wR (x23.1.1 - a1)))), (17, (eI (wR (b2 - x23.1.1))))] ?_
          refine aL ?_
          refine aW aD 3 ?_
          obtain ⟨c26, h1⟩ := bA h1
          refine oJ [(8 : Int) ≠ 0] ⟨c26, trivial⟩ ?_
          refine bZ [10] [(18, (eI (wR (Int.tdiv eH (8 : Int)))))] ?_
          refine aX aD 3 [] [(113, (aE (decide ((wR (x23.1.1 - a1)) < (wR (b2 - x23.1.1))))))] ?_
          refine bJ h1 (fun h1 => ?_) (fun h1 => ?_)
          · refine bV aD 4 [(0, (.msl 1 lo0p 0 (List.length x23.2))), (1, (eI a1)), (2, (eI b2)), (3, (eI cG)), (8, (aE (decide ((wR (Int.tdiv eH (8 : Int))) ≤ (wR (x23.1.1 - a1)))))), (9, (aE x23.1.2)), (14, (eI x23.1.1))] ?_
            refine aL ?_
            refine aW aD 5 ?_
            refine bU 4 ?_
            obtain ⟨x28, hx29, h1⟩ := aZ h1
            refine zV [(lo0p, 1, List.map (eI) x28)] 0 (ih lo0p x23.2 a1 x23.1.1 cG _ hx29) hO ?_
            intro H hO hl30
            simp only [List.length_map] at hl30
            replace hN := hl30.trans hN
            refine eT ?_
            refine dS (l := [(0, (.msl 1 lo0p 0 (List.length x28))), (2, (eI b2)), (3, (eI cG)), (8, (aE (decide ((wR (Int.tdiv eH (8 : Int))) ≤ (wR (x23.1.1 - a1)))))), (9, (aE x23.1.2)), (14, (eI x23.1.1))]) ⟨[(0, (.msl 1 lo0p 0 (List.length x23.2))), (2, (eI b2)), (3, (eI cG)), (8, (aE (decide ((wR (Int.tdiv eH (8 : Int))) ≤ (wR (x23.1.1 - a1)))))), (9, (aE x23.1.2)), (14, (eI x23.1.1))], by kernel_rfl, rfl, ⟨aN.eq (by simp [hl30]), aN.refl _, aN.refl _, aN.refl _, aN.refl _, aN.refl _, trivial⟩⟩ ?_
            refine aG (aF (?_))
            refine aW aD 3 ?_
            refine bG ?_
            exact aG (aY (aF (⟨rfl, _, (oI h1).symm, .eq (by kernel_rfl), hO, hN⟩)))
          refine bV aD 4 [(0, (.msl 1 lo0p 0 (List.length x23.2))), (1, (eI a1)), (2, (eI b2)), (3, (eI cG)), (8, (aE (decide ((wR (Int.tdiv eH (8 : Int))) ≤ (wR (b2 - x23.1.1)))))), (9, (aE x23.1.2)), (14, (eI x23.1.1))] ?_
          refine aL ?_
          refine aW aD 6 ?_
          refine bU 5 ?_
          obtain ⟨x31, hx32, h1⟩ := aZ h1
          refine zV [(lo0p, 1, List.map (eI) x31)] 0 (ih lo0p x23.2 (wR (x23.1.1 + (1 : Int))) b2 cG _ hx32) hO ?_
          intro H hO hl33
          simp only [List.length_map] at hl33
          replace hN := hl33.trans hN
          refine eT ?_
          refine dS (l := [(0, (.msl 1 lo0p 0 (List.length x31))), (1, (eI a1)), (3, (eI cG)), (8, (aE (decide ((wR (Int.tdiv eH (8 : Int))) ≤ (wR (b2 - x23.1.1)))))), (9, (aE x23.1.2)), (14, (eI x23.1.1))]) ⟨[(0, (.msl 1 lo0p 0 (List.length x23.2))), (1, (eI a1)), (3, (eI cG)), (8, (aE (decide ((wR (Int.tdiv eH (8 : Int))) ≤ (wR (b2 - x23.1.1)))))), (9, (aE x23.1.2)), (14, (eI x23.1.1))], by kernel_rfl, rfl, ⟨aN.eq (by simp [hl33]), aN.refl _, aN.refl _, aN.refl _, aN.refl _, aN.refl _, trivial⟩⟩ ?_
          refine aG (aF (?_))
          refine aW aD 2 ?_
          refine bG ?_
          exact aG (aY (aF (⟨rfl, _, (oI h1).symm, .eq (by kernel_rfl), hO, hN⟩)))
      refine aX aD 8 [12] [(68, (aE ((cC && bW) && (decide (EU = (1 : Int))))))] ?_
      refine bJ h1 (fun h1 => ?_) (fun h1 => ?_)
      · refine aL ?_
        refine aW aD 4 ?_
        refine bU 3 ?_
        obtain ⟨x35, hx36, h1⟩ := aZ h1
        refine zV [(lo0p, 1, List.map (eI) x35.2)] 0 (sO lo0p aA a1 b2 _ hx36) hO ?_
        intro H hO hl37
        simp only [List.length_map] at hl37
        replace hN := hl37.trans hN
        refine eT ?_
        refine dS (l := [(0, (.msl 1 lo0p 0 (List.length x35.2))), (1, (eI a1)), (2, (eI b2)), (3, (eI cG)), (8, (aE cC)), (9, (aE bW)), (10, (eI eH)), (11, (eI gF)), (72, (aE x35.1))]) ⟨[(0, (.msl 1 lo0p 0 (List.length aA))), (1, (eI a1)), (2, (eI b2)), (3, (eI cG)), (8, (aE cC)), (9, (aE bW)), (10, (eI eH)), (11, (eI gF)), (72, (aE x35.1))], by kernel_rfl, rfl, ⟨aN.eq (by simp [hl37]), aN.refl _, aN.refl _, aN.refl _, aN.refl _, aN.refl _, aN.refl _, aN.refl _, aN.refl _, trivial⟩⟩ ?_
        refine aG (aF (?_))
        refine bJ h1 (fun h1 => ?_) (fun h1 => ?_)
        · refine bL ?_
          obtain rfl := oI h1
          obtain rfl : _ = rr0 := ho0
          replace h0 : some x35.2 = some r := h0
          obtain rfl := oI h0
          exact aG (aO (bE (aO (bE (mZ (x := (.tup [])) (by kernel_rfl) (aN.refl _) ⟨rfl, hO.ext, hO.at 0 (by kernel_rfl), by simp only [List.length_map]; exact hN.trans hN0⟩)))))
        refine bK ?_
        exact aG (aF (⟨rfl, _, .eq (by kernel_rfl), hO, hN, h1⟩))
      refine bK ?_
      exact aG (aF (⟨rfl, _, .eq (by kernel_rfl), hO, hN, h1⟩))
    refine aX aD 2 [] [(50, (aE (decide (x9.2 = (2 : Int)))))] ?_
    refine bJ h1 (fun h1 => ?_) (fun h1 => ?_)
    · refine aL ?_
      refine aW aD 4 ?_
      refine bU 3 ?_
      obtain ⟨x40, hx41, h1⟩ := aZ h1
      refine zV [(lo0p, 1, List.map (eI) x40)] 0 (yN lo0p aA a1 b2 _ hx41) hO ?_
      intro H hO hl42
      simp only [List.length_map] at hl42
      replace hN := hl42.trans hN
      refine eT ?_
      refine dS (l := [(0, (.msl 1 lo0p 0 (List.length x40))), (1, (eI a1)), (2, (eI b2)), (3, (eI cG)), (8, (aE cC)), (9, (aE bW)), (10, (eI eH)), (11, (eI x9.1))]) ⟨[(0, (.msl 1 lo0p 0 (List.length aA))), (1, (eI a1)), (2, (eI b2)), (3, (eI cG)), (8, (aE cC)), (9, (aE bW)), (10, (eI eH)), (11, (eI x9.1))], by kernel_rfl, rfl, ⟨aN.eq (by simp [hl42]), aN.refl _, aN.refl _, aN.refl _, aN.refl _, aN.refl _, aN.refl _, aN.refl _, trivial⟩⟩ ?_
      refine aG (aF (?_))
      refine aX aD 7 [11] [(11, (eI (wR ((wR (b2 - (1 : Int))) - (wR (x9.1 - a1))))))] ?_
      refine aW aD 1 ?_
      refine bG ?_
      exact aG (aF (⟨rfl, _, _, _, .eq (by kernel_rfl), hO, hN, h1⟩))
    refine bK ?_
    exact aG (aF (⟨rfl, _, _, _, .eq (by kernel_rfl), hO, hN, h1⟩))
  refine aX aD 2 [] [(35, (aE (!cC)))] ?_
  refine bJ h1 (fun h1 => ?_) (fun h1 => ?_)
  · refine aL ?_
    refine aW aD 4 ?_
    refine bU 3 ?_
    obtain ⟨x44, hx45, h1⟩ := aZ h1
    refine zV [(lo0p, 1, List.map (eI) x44)] 0 (xP lo0p aA a1 b2 _ hx45) hO ?_
    intro H hO hl46
    simp only [List.length_map] at hl46
    replace hN := hl46.trans hN
    refine eT ?_
    refine dS (l := [(0, (.msl 1 lo0p 0 (List.length x44))), (1, (eI a1)), (2, (eI b2)), (3, (eI cG)), (8, (aE cC)), (9, (aE bW)), (10, (eI (wR (b2 - a1))))]) ⟨[(0, (.msl 1 lo0p 0 (List.length aA))), (1, (eI a1)), (2, (eI b2)), (3, (eI cG)), (8, (aE cC)), (9, (aE bW)), (10, (eI (wR (b2 - a1))))], by kernel_rfl, rfl, ⟨aN.eq (by simp [hl46]), aN.refl _, aN.refl _, aN.refl _, aN.refl _, aN.refl _, aN.refl _, trivial⟩⟩ ?_
    refine aG (aF (?_))
    refine aW aD 3 ?_
    refine bG ?_
    exact aG (aF (⟨rfl, _, _, _, .eq (by kernel_rfl), hO, hN, h1⟩))
  refine bK ?_
  exact aG (aF (⟨rfl, _, _, _, .eq (by kernel_rfl), hO, hN, h1⟩))

theorem qX  : ∀ (k : Nat) (lo0p : Nat) (aA : (List Int)) (a1 : Int) (b2 : Int) (cG : Int) (r : List Int), dV k aA a1 b2 cG = some r → nX Try.prog 61 lo0p 1 (List.map (eI) aA) (List.map (eI) r) [(.msl 1 lo0p 0 (List.length aA)), (eI a1), (eI b2), (eI cG)] (.tup [])
  | 0, _, _, _, _, _, _, h => by cases h
  | k + 1, lo0p, aA, a1, b2, cG, r, h => yH  _ (qX  k) lo0p aA a1 b2 cG r h

theorem AW (lo0p : Nat) (aA : (List Int)) (a1 : Int) (b2 : Int) (cG : Int) (r : List Int) (h0 : kA aA a1 b2 cG = some r) : nX Try.prog 61 lo0p 1 (List.map (eI) aA) (List.map (eI) r) [(.msl 1 lo0p 0 (List.length aA)), (eI a1), (eI b2), (eI cG)] (.tup []) := by
  obtain ⟨k, hk⟩ := QA h0
  exact qX  k lo0p aA a1 b2 cG r hk

theorem EZ (lo0p : Nat) (x0 : (List Int)) (r : List Int) (h0 : kW x0 = some r) : nX Try.prog 34 lo0p 1 (List.map (eI) x0) (List.map (eI) r) [(.msl 1 lo0p 0 (List.length x0))] (.tup []) := by
  intro H0 hl0
  refine dH Try.func34 ?_
  have hO := aI.vH hl0
  clear hl0
  obtain ⟨N0, hN0⟩ : ∃ n, n = List.length x0 := ⟨_, rfl⟩
  have hN : List.length x0 = N0 := hN0.symm
  unfold kW at h0
  refine aX aD 3 [] [(2, (eI (lN x0)))] ?_
  refine aW aD 6 ?_
  refine bU 4 ?_
  obtain ⟨x1, hx2, h0⟩ := aZ h0
  refine dQ (DT (IntKind.u64.wrap (lN x0)) _ hx2) hO ?_
  intro H hO
  obtain ⟨x4, hx5, h0⟩ := aZ h0
  refine zV [(lo0p, 1, List.map (eI) x4)] 0 (AW lo0p x0 (0 : Int) (lN x0) x1 _ hx5) hO ?_
  intro H hO hl6
  simp only [List.length_map] at hl6
  replace hN := hl6.trans hN
  refine eT ?_
  refine dS (l := [(0, (.msl 1 lo0p 0 (List.length x4)))]) ⟨[(0, (.msl 1 lo0p 0 (List.length x0)))], by kernel_rfl, rfl, ⟨aN.eq (by simp [hl6]), trivial⟩⟩ ?_
  obtain rfl := oI h0
  exact aG (zI (x := (.tup [])) (by kernel_rfl) (aN.refl _) ⟨rfl, hO.ext, hO.at 0 (by kernel_rfl), by simp only [List.length_map]; exact hN.trans hN0⟩)

theorem WM (f0 : (List aH)) (r : (List aH)) (h0 : AM f0 = some r) : dJ Try.prog 57 [(eL aK f0)] (.fn (.func 75) [] [(.rp (eL aK r))]) := by
  intro H0
  refine dH Try.func57 ?_
  have hO := aI.start H0
  unfold AM at h0
  refine aL ?_
  refine aW aD 2 ?_
  refine gC 1 (eL aK f0) (by kernel_rfl) (by kernel_rfl) ?_
  refine bG ?_
  refine bH [(1, (.rp (eL aK f0)))] ?_
  refine bV aD 2 [(2, (.fn (.func 75) [] [(.rp (eL aK f0))]))] ?_
  refine bL ?_
  obtain rfl := oI h0
  exact aG (mZ (x := (.fn (.func 75) [] [(.rp (eL aK f0))])) (by kernel_rfl) (aN.refl _) ⟨rfl, hO.out⟩)

theorem MX {σ : Type} (I : σ → Gs → Prop) (yield0_b : Nat) (cW : σ → aT → Option (σ × Bool)) (yield0_h : ∀ st a0 st2 r, cW st a0 = some (st2, r) → BV Try.prog (yv yield0_b) I st [(bB a0)] st2 (aE r)) (t1 : (List aH)) (sg0 : σ) (r : σ) (h0 : qV cW t1 sg0 = some r) : yF Try.prog 75 I sg0 [(yv yield0_b), (.rp (eL aK t1))] r (.tup []) := by
  intro H0 G0 hI hg
  refine dH Try.func75 ?_
  obtain ⟨G, hO, hI⟩ : ∃ G, aI ⟨H0, List.map (fun p : Nat × dO => p.1) G0, G⟩ H0 [] ∧ I sg0 G := ⟨G0, aI.FC hg, hI⟩
  clear hg
  unfold qV at h0
  refine aX aD 2 [] [(3, (eI (0 : Int))), (4, (eI (0 : Int)))] ?_
  refine dP (fun T H => ∃ sg : σ, ∃ n3 : Int, ∃ kI : Int, ∃ G : Gs, Has T [(0, (yv yield0_b)), (3, (eI n3)), (4, (eI kI))] ∧ aI ⟨H0, List.map (fun p : Nat × dO => p.1) G0, G⟩ H [] ∧ I sg G ∧ nN cW sg n3 kI = some r) ?_ ?_
  · clear hO hI h0
    rintro T H ⟨sg, n3, kI, G, hT, hO, hI, h0⟩
    refine bD hT ?_
    clear hT
    unfold nN at h0
    refine aX aD 2 [3] [(34, (aE (decide ((0 : Int) < n3))))] ?_
    refine bJ h0 (fun h0 => ?_) (fun h0 => ?_)
    · refine aW aD 4 ?_
      refine bU 3 ?_
      obtain ⟨x2, hx3, h0⟩ := aZ h0
      refine JD (I := I) (yv yield0_b) [(bB (aT.mk kI (1125899906842624 : Int)))] (aE x2.2) (by kernel_rfl) (by kernel_rfl) (yield0_h _ (aT.mk kI (1125899906842624 : Int)) x2.1 x2.2 hx3) hO hI ?_
      intro G H hO hI
      refine eT ?_
      obtain rfl := oI h0
      exact aG (zI (x := (.tup [])) (by kernel_rfl) (aN.refl _) ⟨rfl, G, hI, hO.zW⟩)
    refine bK ?_
    obtain rfl := oI h0
    exact aG (zI (x := (.tup [])) (by kernel_rfl) (aN.refl _) ⟨rfl, G, hI, hO.zW⟩)
  refine aX aD 3 [1] [(7, (eL aK t1)), (8, (eI (lN t1))), (9, (eI (0 : Int)))] ?_
  refine cA 0 ?_
  refine eG [(0, (yv yield0_b)), (3, (eI (0 : Int))), (4, (eI (0 : Int))), (7, (eL aK t1)), (8, (eI (lN t1))), (9, (eI (0 : Int)))] ?_
  refine dY (fun T H => ∃ sg : σ, ∃ n3 : Int, ∃ kI : Int, ∃ t7 : (List aH), ∃ t8 : Int, ∃ t9 : Int, ∃ G : Gs, Has T [(0, (yv yield0_b)), (3, (eI n3)), (4, (eI kI)), (7, (eL aK t7)), (8, (eI t8)), (9, (eI t9))] ∧ aI ⟨H0, List.map (fun p : Nat × dO => p.1) G0, G⟩ H [] ∧ I sg G ∧ sQ cW sg n3 kI t7 t8 t9 = some r) ?_ ⟨sg0, (0 : Int), (0 : Int), t1, (lN t1), (0 : Int), G, .eq (by kernel_rfl), hO, hI, h0⟩
  clear hO hI h0
  rintro T H ⟨sg, n3, kI, t7, t8, t9, G, hT, hO, hI, h0⟩
  refine bD hT ?_
  clear hT
  unfold sQ at h0
  obtain ⟨rr0, hl0, h0⟩ := aZ h0
  refine cR (by kernel_rfl) (fun (s : σ × Int × Int × Int) T H => ∃ G : Gs, Has T [(0, (yv yield0_b)), (3, (eI s.2.1)), (4, (eI s.2.2.1)), (7, (eL aK t7)), (8, (eI t8)), (9, (eI s.2.2.2))] ∧ aI ⟨H0, List.map (fun p : Nat × dO => p.1) G0, G⟩ H [] ∧ I s.1 G) hl0 ⟨G, .eq (by kernel_rfl), hO, hI⟩ ?_
  clear hO hI
  rintro k0 s out1 T H ⟨G, hT, hO, hI⟩ h1 ho0
  obtain ⟨sg, n3, kI, t9⟩ := s
  replace h1 : gO cW t7 t8 sg n3 kI t9 = some out1 := h1
  try dsimp only at hT
  refine bD hT ?_
  clear hT
  unfold gO at h1
  refine aX aD 1 [] [(10, (aE (decide (t9 < t8))))] ?_
  refine aL ?_
  refine bJ h1 (fun h1 => ?_) (fun h1 => ?_)
  · refine bK ?_
    refine bH [(0, (yv yield0_b)), (3, (eI n3)), (4, (eI kI)), (7, (eL aK t7)), (8, (eI t8)), (9, (eI t9))] ?_
    refine aL ?_
    refine cA 1 ?_
    refine aL ?_
    refine aW aD 4 ?_
    obtain ⟨c5, h1⟩ := bA h1
    refine pZ 2 [0 ≤ t9 ∧ t9 < (lN t7)] ⟨c5, trivial⟩ ?_
    refine lR 2 (aK (aH.mk 0 0)) (by kernel_rfl) (by kernel_rfl) hO ?_
    intro lo6 H hO
    refine jW 0 lo6 2 0 (aK (aH.mk 0 0)) (aK (gD t7 t9)) [(aK (aH.mk 0 0))] [(lo6, 2, [(aK (gD t7 t9))])] hO rfl (by kernel_rfl) ?_
    intro H hO
    refine eT ?_
    refine bZ [] [(6, (.lp lo6 0 0))] ?_
    refine dP (fun T H => ∃ sg : σ, ∃ kI : Int, ∃ j6 : aH, ∃ G : Gs, Has T [(0, (yv yield0_b)), (3, (eI n3)), (4, (eI kI)), (6, (.lp lo6 0 0)), (7, (eL aK t7)), (8, (eI t8)), (9, (eI t9))] ∧ aI ⟨H0, List.map (fun p : Nat × dO => p.1) G0, G⟩ H [(lo6, 2, [(aK j6)])] ∧ I sg G ∧ mL cW sg n3 kI j6 t7 t8 t9 = some out1) ?_ ?_
    · clear hO hI h1
      rintro T H ⟨sg, kI, j6, G, hT, hO, hI, h1⟩
      refine bD hT ?_
      clear hT
      unfold mL at h1
      refine aL ?_
      refine aW aD 5 ?_
      refine bU 2 ?_
      refine oQ 0 lo6 2 0 (aK j6) (eI j6.Net) [(aK j6)] hO rfl ?_
      refine bG ?_
      refine bZ [3] [(3, (eI (wR (n3 + j6.Net))))] ?_
      refine aL ?_
      refine aW aD 11 ?_
      refine bU 6 ?_
      refine yO [(23, true)] 0 lo6 2 0 (aK j6) (eI j6.At) [(aK j6)] (by kernel_rfl) (by kernel_rfl) hO (by kernel_rfl) (decide ((wR (n3 + j6.Net)) = (0 : Int))) (by kernel_rfl) (fun hb7 => rfl) ?_
      refine bU 8 ?_
      obtain ⟨⟨x10, x11⟩, hx9, h1⟩ := aZ h1
      replace hx9 := aDl hx9
      refine aB3 (I := I) [(23, true)] (decide ((wR (n3 + j6.Net)) = (0 : Int))) (yv yield0_b) [(bB (aT.mk kI j6.At))] (aE x11) ⟨fun hb => yield0_h _ (aT.mk kI j6.At) x10 x11 (hx9.1 hb), hx9.2⟩ hO hI ?_
      intro G H hO hI
      refine bG ?_
      replace hO := hO.pick (L' := []) [] (by decide) (by kernel_rfl)
      refine bZ [6] [(31, (aE ((decide ((wR (n3 + j6.Net)) = (0 : Int))) && (!x11))))] ?_
      refine bJ h1 (fun h1 => ?_) (fun h1 => ?_)
      · refine bL ?_
        obtain rfl := oI h1
        obtain rfl : _ = rr0 := ho0
        replace h0 : some x10 = some r := h0
        obtain rfl := oI h0
        exact aG (bE (aO (aO (bE (aO (mZ (x := (.tup [])) (by kernel_rfl) (aN.refl _) ⟨rfl, G, hI, hO.zW⟩))))))
      refine bK ?_
      refine eP [(0, (yv yield0_b)), (3, (eI (wR (n3 + j6.Net)))), (4, (eI kI)), (7, (eL aK t7)), (8, (eI t8)), (9, (eI t9))] ?_
      refine aG (aY (aF (?_)))
      refine aW aD 2 ?_
      refine bG ?_
      exact aG (aF (⟨rfl, _, (oI h1).symm, _, .eq (by kernel_rfl), hO, hI⟩))
    refine aX aD 2 [] [(14, (aE (decide (n3 = (0 : Int)))))] ?_
    refine bJ h1 (fun h1 => ?_) (fun h1 => ?_)
    · refine aW aD 3 ?_
      refine bU 1 ?_
      refine oQ 0 lo6 2 0 (aK (gD t7 t9)) (eI ((gD t7 t9).At)) [(aK (gD t7 t9))] hO rfl ?_
      refine bG ?_
      exact aG (aF (⟨rfl, _, _, _, _, .eq (by kernel_rfl), hO, hI, h1⟩))
    refine bK ?_
    exact aG (aF (⟨rfl, _, _, _, _, .eq (by kernel_rfl), hO, hI, h1⟩))
  refine eR 0 ?_
  obtain rfl := oI h1
  obtain rfl : _ = rr0 := ho0
  replace h0 : nN cW sg n3 kI = some r := h0
  exact aG (aV (aV (bS (aF (⟨rfl, _, _, _, _, .eq (by kernel_rfl), hO, hI, h0⟩)))))

theorem aBw (f0 : (List aH)) (t1 : Int) (r : Int) (h0 : BB f0 t1 = some r) : dJ Try.prog 77 [(eL aK f0), (eI t1)] (eI r) := by
  intro H0
  refine dH Try.func77 ?_
  have hO := aI.start H0
  unfold BB at h0
  refine aX aD 1 [] [] ?_
  refine aL ?_
  refine aL ?_
  refine aW aD 3 ?_
  refine bU 1 ?_
  obtain ⟨x1, hx2, h0⟩ := aZ h0
  refine dQ (BU f0 _ hx2) hO ?_
  intro H hO
  refine bG ?_
  refine bZ [] [(10, (aE (!x1)))] ?_
  refine bJ h0 (fun h0 => ?_) (fun h0 => ?_)
  · refine bV aD 1 [(4, (eI (0 : Int)))] ?_
    refine bL ?_
    obtain rfl := oI h0
    exact aG (aO (Q_r hO))
  refine bK ?_
  refine bH [(0, (eL aK f0)), (1, (eI t1))] ?_
  refine aX aD 1 [] [(5, (eI (0 : Int)))] ?_
  refine dP (fun T H => ∃ v5 : Int, Has T [(5, (eI v5))] ∧ aI ⟨H0, [], []⟩ H [] ∧ wP v5 = some r) ?_ ?_
  · clear hO h0
    rintro T H ⟨v5, hT, hO, h0⟩
    refine bD hT ?_
    clear hT
    unfold wP at h0
    refine bV aD 2 [(4, (eI v5))] ?_
    refine bL ?_
    obtain rfl := oI h0
    exact aG (Q_r hO)
  refine aX aD 3 [0] [(11, (eL aK f0)), (12, (eI (lN f0))), (13, (eI (0 : Int)))] ?_
  refine cA 0 ?_
  refine eG [(1, (eI t1)), (5, (eI (0 : Int))), (11, (eL aK f0)), (12, (eI (lN f0))), (13, (eI (0 : Int)))] ?_
  refine dY (fun T H => ∃ v5 : Int, ∃ t11 : (List aH), ∃ t12 : Int, ∃ t13 : Int, Has T [(1, (eI t1)), (5, (eI v5)), (11, (eL aK t11)), (12, (eI t12)), (13, (eI t13))] ∧ aI ⟨H0, [], []⟩ H [] ∧ BN t1 v5 t11 t12 t13 = some r) ?_ ⟨(0 : Int), f0, (lN f0), (0 : Int), .eq (by kernel_rfl), hO, h0⟩
  clear hO h0
  rintro T H ⟨v5, t11, t12, t13, hT, hO, h0⟩
  refine bD hT ?_
  clear hT
  unfold BN at h0
  obtain ⟨rr0, hl0, h0⟩ := aZ h0
  refine cR (by kernel_rfl) (fun (s : Int × Int) T H => Has T [(1, (eI t1)), (5, (eI s.1)), (11, (eL aK t11)), (12, (eI t12)), (13, (eI s.2))] ∧ aI ⟨H0, [], []⟩ H []) hl0 ⟨.eq (by kernel_rfl), hO⟩ ?_
  clear hO
  rintro k0 s out1 T H ⟨hT, hO⟩ h1 ho0
  obtain ⟨v5, t13⟩ := s
  replace h1 : nW t1 t11 t12 v5 t13 = some out1 := h1
  try dsimp only at hT
  refine bD hT ?_
  clear hT
  unfold nW at h1
  refine aX aD 1 [] [(14, (aE (decide (t13 < t12))))] ?_
  refine aL ?_
  refine bJ h1 (fun h1 => ?_) (fun h1 => ?_)
  · refine bK ?_
    refine bH [(1, (eI t1)), (5, (eI v5)), (11, (eL aK t11)), (12, (eI t12)), (13, (eI t13))] ?_
    refine aL ?_
    refine cA 1 ?_
    refine aL ?_
    refine aW aD 4 ?_
    obtain ⟨c6, h1⟩ := bA h1
    refine pZ 2 [0 ≤ t13 ∧ t13 < (lN t11)] ⟨c6, trivial⟩ ?_
    refine lR 2 (aK (aH.mk 0 0)) (by kernel_rfl) (by kernel_rfl) hO ?_
    intro lo7 H hO
    refine jW 0 lo7 2 0 (aK (aH.mk 0 0)) (aK (gD t11 t13)) [(aK (aH.mk 0 0))] [(lo7, 2, [(aK (gD t11 t13))])] hO rfl (by kernel_rfl) ?_
    intro H hO
    refine eT ?_
    refine bZ [] [(7, (.lp lo7 0 0))] ?_
    refine aL ?_
    refine aL ?_
    refine aW aD 4 ?_
    refine bU 1 ?_
    refine oQ 0 lo7 2 0 (aK (gD t11 t13)) (eI ((gD t11 t13).At)) [(aK (gD t11 t13))] hO rfl ?_
    refine bG ?_
    refine bZ [] [(20, (aE (decide (t1 < ((gD t11 t13).At)))))] ?_
    refine bJ h1 (fun h1 => ?_) (fun h1 => ?_)
    · refine eR 0 ?_
      replace hO := hO.pick (L' := []) [] (by decide) (by kernel_rfl)
      obtain rfl := oI h1
      obtain rfl : _ = rr0 := ho0
      replace h0 : wP v5 = some r := h0
      exact aG (aV (uG (by kernel_rfl) (aV (aV (bS (aF (⟨rfl, _, .eq (by kernel_rfl), hO, h0⟩)))))))
    refine bK ?_
    refine bH [(1, (eI t1)), (5, (eI v5)), (7, (.lp lo7 0 0)), (11, (eL aK t11)), (12, (eI t12)), (13, (eI t13))] ?_
    refine aW aD 5 ?_
    refine bU 2 ?_
    refine oQ 0 lo7 2 0 (aK (gD t11 t13)) (eI ((gD t11 t13).Net)) [(aK (gD t11 t13))] hO rfl ?_
    refine bG ?_
    refine eP [(1, (eI t1)), (5, (eI (wR (v5 + ((gD t11 t13).Net))))), (11, (eL aK t11)), (12, (eI t12)), (13, (eI t13))] ?_
    replace hO := hO.pick (L' := []) [] (by decide) (by kernel_rfl)
    refine aG (aY (aF (?_)))
    refine aW aD 2 ?_
    refine bG ?_
    exact aG (aF (⟨rfl, _, (oI h1).symm, .eq (by kernel_rfl), hO⟩))
  refine eR 0 ?_
  obtain rfl := oI h1
  obtain rfl : _ = rr0 := ho0
  replace h0 : wP v5 = some r := h0
  exact aG (aV (aV (bS (aF (⟨rfl, _, .eq (by kernel_rfl), hO, h0⟩)))))

theorem RN (f0 : (List aH)) (w1 : aT) (r : Int) (h0 : tN f0 w1 = some r) : dJ Try.prog 60 [(eL aK f0), (bB w1)] (eI r) := by
  intro H0
  refine dH Try.func60 ?_
  have hO := aI.start H0
  unfold tN at h0
  refine aL ?_
  refine aW aD 2 ?_
  refine gC 2 (bB w1) (by kernel_rfl) (by kernel_rfl) ?_
  refine bG ?_
  refine bZ [1] [(3, (.rp (bB w1)))] ?_
  refine aL ?_
  refine aW aD 5 ?_
  refine bU 3 ?_
  obtain ⟨x1, hx2, h0⟩ := aZ h0
  refine dQ (aBw f0 w1.From _ hx2) hO ?_
  intro H hO
  refine bG ?_
  refine bZ [] [(5, (eI x1))] ?_
  refine dP (fun T H => ∃ n5 : Int, Has T [(5, (eI n5))] ∧ aI ⟨H0, [], []⟩ H [] ∧ wS n5 = some r) ?_ ?_
  · clear hO h0
    rintro T H ⟨n5, hT, hO, h0⟩
    refine bD hT ?_
    clear hT
    unfold wS at h0
    refine bV aD 2 [(4, (eI n5))] ?_
    refine bL ?_
    obtain rfl := oI h0
    exact aG (Q_r hO)
  refine aX aD 3 [0] [(12, (eL aK f0)), (13, (eI (lN f0))), (14, (eI (0 : Int)))] ?_
  refine cA 0 ?_
  refine eG [(3, (.rp (bB w1))), (5, (eI x1)), (12, (eL aK f0)), (13, (eI (lN f0))), (14, (eI (0 : Int)))] ?_
  refine dY (fun T H => ∃ w3 : aT, ∃ n5 : Int, ∃ t12 : (List aH), ∃ t13 : Int, ∃ t14 : Int, Has T [(3, (.rp (bB w3))), (5, (eI n5)), (12, (eL aK t12)), (13, (eI t13)), (14, (eI t14))] ∧ aI ⟨H0, [], []⟩ H [] ∧ wN w3 n5 t12 t13 t14 = some r) ?_ ⟨w1, x1, f0, (lN f0), (0 : Int), .eq (by kernel_rfl), hO, h0⟩
  clear hO h0
  rintro T H ⟨w3, n5, t12, t13, t14, hT, hO, h0⟩
  refine bD hT ?_
  clear hT
  unfold wN at h0
  obtain ⟨rr0, hl0, h0⟩ := aZ h0
  refine cR (by kernel_rfl) (fun (s : Int × Int) T H => Has T [(3, (.rp (bB w3))), (5, (eI s.1)), (12, (eL aK t12)), (13, (eI t13)), (14, (eI s.2))] ∧ aI ⟨H0, [], []⟩ H []) hl0 ⟨.eq (by kernel_rfl), hO⟩ ?_
  clear hO
  rintro k0 s out1 T H ⟨hT, hO⟩ h1 ho0
  obtain ⟨n5, t14⟩ := s
  replace h1 : pH w3 t12 t13 n5 t14 = some out1 := h1
  try dsimp only at hT
  refine bD hT ?_
  clear hT
  unfold pH at h1
  refine aX aD 1 [] [(15, (aE (decide (t14 < t13))))] ?_
  refine aL ?_
  refine bJ h1 (fun h1 => ?_) (fun h1 => ?_)
  · refine bK ?_
    refine bH [(3, (.rp (bB w3))), (5, (eI n5)), (12, (eL aK t12)), (13, (eI t13)), (14, (eI t14))] ?_
    refine dP (fun T H => ∃ n5 : Int, Has T [(3, (.rp (bB w3))), (5, (eI n5)), (12, (eL aK t12)), (13, (eI t13)), (14, (eI t14))] ∧ aI ⟨H0, [], []⟩ H [] ∧ pJ w3 n5 t12 t13 t14 = some out1) ?_ ?_
    · clear hO h1
      rintro T H ⟨n5, hT, hO, h1⟩
      refine bD hT ?_
      clear hT
      unfold pJ at h1
      refine aW aD 2 ?_
      refine bG ?_
      exact aG (aF (⟨rfl, _, (oI h1).symm, .eq (by kernel_rfl), hO⟩))
    refine cA 1 ?_
    refine aL ?_
    refine aW aD 4 ?_
    obtain ⟨c5, h1⟩ := bA h1
    refine pZ 2 [0 ≤ t14 ∧ t14 < (lN t12)] ⟨c5, trivial⟩ ?_
    refine lR 2 (aK (aH.mk 0 0)) (by kernel_rfl) (by kernel_rfl) hO ?_
    intro lo6 H hO
    refine jW 0 lo6 2 0 (aK (aH.mk 0 0)) (aK (gD t12 t14)) [(aK (aH.mk 0 0))] [(lo6, 2, [(aK (gD t12 t14))])] hO rfl (by kernel_rfl) ?_
    intro H hO
    refine eT ?_
    refine bZ [] [(7, (.lp lo6 0 0))] ?_
    refine aL ?_
    refine aW aD 12 ?_
    refine bU 1 ?_
    refine oQ 0 lo6 2 0 (aK (gD t12 t14)) (eI ((gD t12 t14).At)) [(aK (gD t12 t14))] hO rfl ?_
    refine bU 7 ?_
    refine yO [(23, true)] 0 lo6 2 0 (aK (gD t12 t14)) (eI ((gD t12 t14).At)) [(aK (gD t12 t14))] (by kernel_rfl) (by kernel_rfl) hO (by kernel_rfl) (decide (w3.From < ((gD t12 t14).At))) (by kernel_rfl) (fun hb7 => rfl) ?_
    refine bG ?_
    refine bZ [] [(29, (aE ((decide (w3.From < ((gD t12 t14).At))) && (decide (((gD t12 t14).At) < w3.To)))))] ?_
    refine bJ h1 (fun h1 => ?_) (fun h1 => ?_)
    · refine aW aD 6 ?_
      refine bU 2 ?_
      refine oQ 0 lo6 2 0 (aK (gD t12 t14)) (eI ((gD t12 t14).Net)) [(aK (gD t12 t14))] hO rfl ?_
      refine bG ?_
      replace hO := hO.pick (L' := []) [] (by decide) (by kernel_rfl)
      exact aG (aY (aF (⟨rfl, _, .eq (by kernel_rfl), hO, h1⟩)))
    refine bK ?_
    replace hO := hO.pick (L' := []) [] (by decide) (by kernel_rfl)
    exact aG (aY (aF (⟨rfl, _, .eq (by kernel_rfl), hO, h1⟩)))
  refine eR 0 ?_
  obtain rfl := oI h1
  obtain rfl : _ = rr0 := ho0
  replace h0 : wS n5 = some r := h0
  exact aG (aV (aV (bS (aF (⟨rfl, _, .eq (by kernel_rfl), hO, h0⟩)))))

theorem SN (lm : Nat) (los : List (Nat × Nat)) (m : List (Int × aP)) (hl : los.length = m.length) (r : List aC) (f : List aH) (size hop frm front : Int) (out : Bool × List (Int × aP)) (h0 : vY m r f size hop frm front = some out) :
    LZ Try.prog 33 [(.mp lm), (eL aB r), (eL aK f), (eI size), (eI hop), (eI frm), (eI front)] (pmG shP lm los m) [] (fun x M L => ∃ los' : List (Nat × Nat), los'.length = out.2.length ∧ x = aE out.1 ∧ M = pmG shP lm los' out.2 ∧ L = []) := by
  intro F H0 hO
  obtain ⟨Fh, Fe, Fg⟩ := F
  refine ET aD Try.func33 (by kernel_rfl) (by kernel_rfl) (by kernel_rfl) ?_
  unfold vY at h0
  refine aL ?_
  refine aW aD 8 ?_
  refine gC 1 (.mp lm) (by kernel_rfl) (by kernel_rfl) ?_
  refine gC 1 (eL aB r) (by kernel_rfl) (by kernel_rfl) ?_
  refine gC 1 (eL aK f) (by kernel_rfl) (by kernel_rfl) ?_
  refine gC 1 (eI size) (by kernel_rfl) (by kernel_rfl) ?_
  refine gC 1 (eI hop) (by kernel_rfl) (by kernel_rfl) ?_
  refine gC 1 (eI frm) (by kernel_rfl) (by kernel_rfl) ?_
  refine gC 1 (eI front) (by kernel_rfl) (by kernel_rfl) ?_
  refine lR 1 (aE false) (by kernel_rfl) (by kernel_rfl) hO ?_
  intro lo1 H hO
  replace hO : aI ⟨Fh, Fe, pmG shP lm los m ++ Fg⟩ H [(lo1, 1, [(aE false)])] := hO
  refine eT ?_
  refine bH [(7, (.rp (.mp lm))), (8, (.rp (eL aB r))), (9, (.rp (eL aK f))), (10, (.rp (eI size))), (11, (.rp (eI hop))), (12, (.rp (eI frm))), (13, (.rp (eI front))), (14, (.lp lo1 0 0))] ?_
  refine aL ?_
  refine aL ?_
  refine aW aD 2 ?_
  refine bU 1 ?_
  obtain ⟨x1, hx1, h0⟩ := aZ h0
  refine dQ (WM f _ hx1) hO ?_
  intro H hO
  refine eT ?_
  refine bH [(7, (.rp (.mp lm))), (8, (.rp (eL aB r))), (9, (.rp (eL aK f))), (10, (.rp (eI size))), (11, (.rp (eI hop))), (12, (.rp (eI frm))), (13, (.rp (eI front))), (14, (.lp lo1 0 0)), (20, (.fn (.func 75) [] [(.rp (eL aK x1))]))] ?_
  refine cA 0 ?_
  obtain ⟨o0, hl0, h0⟩ := aZ h0
  refine CD (fid := 75) (ys := []) (cs := [(.rp (eL aK x1))]) #[21] (fun (A : uV) (b lL : Nat) (st : (Bool × List (Int × aP)) ⊕ (Bool × List (Int × aP))) (G' : Gs) => Sum.elim (fun (s : Bool × List (Int × aP)) => ∃ los : List (Nat × Nat), los.length = s.2.length ∧ G' = (lL, .raw (gZ b A .ready none)) :: (up [(lo1, 1, [(aE s.1)])] ++ (pmG shP lm los s.2 ++ Fg))) (fun (s : Bool × List (Int × aP)) => ∃ los : List (Nat × Nat), los.length = s.2.length ∧ G' = (lL, .raw (gZ b A .done (some .ret))) :: (up [(lo1, 1, [(aE s.1)])] ++ (pmG shP lm los s.2 ++ Fg))) st) (.inl (false, m)) o0 (.tup []) (by kernel_rfl) (by kernel_rfl) (by kernel_rfl) hO (fun _ _ => ⟨los, hl, rfl⟩) ?_ ?_
  · intro b lL
    clear hO h0
    refine MX _ b (fun st s => rnd (fun (q : Bool × List (Int × aP)) => oP r f size hop frm front q.1 q.2 s) st) ?_ x1 _ _ hl0
    intro st s21 out1 rr hr
    obtain ⟨s, rfl, h1, rfl⟩ := PK hr
    clear hr
    intro Hr Gr hi hg
    obtain ⟨t14, m1⟩ := s
    dsimp only [Sum.elim_inl] at hi
    obtain ⟨los1, hl1, rfl⟩ := hi
    replace h1 : oP r f size hop frm front t14 m1 s21 = some out1 := h1
    unfold oP at h1
    obtain ⟨E1, hE, hO⟩ := tW hg
    refine tY (zZ (hO.gm 0 _ rfl).2 (by kernel_rfl) (by kernel_rfl) ?_)
    refine eG [(7, (.rp (.mp lm))), (8, (.rp (eL aB r))), (9, (.rp (eL aK f))), (10, (.rp (eI size))), (11, (.rp (eI hop))), (12, (.rp (eI frm))), (13, (.rp (eI front))), (14, (.lp lo1 0 0)), (21, (bB s21))] ?_
    refine aW aD 2 ?_
    refine lR 2 (bB (aT.mk 0 0)) (by kernel_rfl) (by kernel_rfl) hO ?_
    intro lo2 H hO
    refine jW 1 lo2 2 0 (bB (aT.mk 0 0)) (bB s21) [(bB (aT.mk 0 0))] [(lo1, 1, [(aE t14)]), (lo2, 2, [(bB s21)])] hO rfl (by kernel_rfl) ?_
    intro H hO
    refine eT ?_
    refine eP [(7, (.rp (.mp lm))), (8, (.rp (eL aB r))), (9, (.rp (eL aK f))), (10, (.rp (eI size))), (11, (.rp (eI hop))), (12, (.rp (eI frm))), (13, (.rp (eI front))), (14, (.lp lo1 0 0)), (15, (.lp lo2 0 0))] ?_
    refine aG (⟨rfl, rfl, (hO.gm 0 _ rfl).2, ?_⟩)
    intro o1 ho1
    replace hO := hO.qA o1
    refine cA 1 ?_
    refine aL ?_
    refine aW aD 6 ?_
    refine bU 2 ?_
    refine oQ 1 lo2 2 0 (bB s21) (bB s21) [(bB s21)] hO rfl ?_
    refine bU 5 ?_
    obtain ⟨x2, hx2, h1⟩ := aZ h1
    refine dQ (IM size hop s21 frm front _ hx2) hO ?_
    intro H hO
    refine eT ?_
    refine bH [(7, (.rp (.mp lm))), (8, (.rp (eL aB r))), (9, (.rp (eL aK f))), (10, (.rp (eI size))), (11, (.rp (eI hop))), (12, (.rp (eI frm))), (13, (.rp (eI front))), (14, (.lp lo1 0 0)), (27, (.fn (.func 54) [] [(.rp (eI x2.1)), (.rp (bB x2.2.1)), (.rp (eI x2.2.2.1)), (.rp (eI x2.2.2.2.1)), (.rp (eI x2.2.2.2.2))]))] ?_
    replace hO := hO.pick (L' := [(lo1, 1, [(aE t14)])]) [0] (by decide) (by kernel_rfl)
    refine cA 2 ?_
    obtain ⟨oi, hli, h1⟩ := aZ h1
    refine aCe (fid := 54) (ys := []) (cs := [(.rp (eI x2.1)), (.rp (bB x2.2.1)), (.rp (eI x2.2.2.1)), (.rp (eI x2.2.2.2.1)), (.rp (eI x2.2.2.2.2))]) #[28] (fun (A2 : uV) (b2 lL2 : Nat) (st : (Bool × List (Int × aP)) ⊕ (Bool × List (Int × aP))) (G' : Gs) => Sum.elim (fun (s : Bool × List (Int × aP)) => ∃ los : List (Nat × Nat), los.length = s.2.length ∧ G' = (lL2, .raw (gZ b2 A2 .ready none)) :: (up [(lo1, 1, [(aE s.1)])] ++ ((lL, o1) :: (pmG shP lm los s.2 ++ Fg)))) (fun (s : Bool × List (Int × aP)) => ∃ los : List (Nat × Nat), los.length = s.2.length ∧ G' = (lL2, .raw (gZ b2 A2 .done (some .ret))) :: (up [(lo1, 1, [(aE s.1)])] ++ ((lL, o1) :: (pmG shP lm los s.2 ++ Fg)))) st) (.inl (t14, m1)) oi (.tup []) ((hO.gm 0 _ rfl).2.trans (congrArg some ho1)) (by kernel_rfl) (by kernel_rfl) (by kernel_rfl) hO (fun _ _ => ⟨los1, hl1, rfl⟩) ?_ ?_
    · intro b2 lL2
      clear hO h1
      refine CM _ b2 (fun st t => rnd (fun (q : Bool × List (Int × aP)) => nG r f size q.1 q.2 t) st) ?_ x2.1 x2.2.1 x2.2.2.1 x2.2.2.2.1 x2.2.2.2.2 _ _ hli
      clear hE
      intro st t28 out2 rr hr
      obtain ⟨s, rfl, h2, rfl⟩ := PK hr
      clear hr
      intro Hr2 Gr2 hi hg2
      obtain ⟨t14, m2⟩ := s
      dsimp only [Sum.elim_inl] at hi
      obtain ⟨los2, hl2, rfl⟩ := hi
      replace h2 : nG r f size t14 m2 t28 = some out2 := h2
      unfold nG at h2
      obtain ⟨E2, hE2, hO⟩ := tW hg2
      refine tY (zZ (hO.gm 0 _ rfl).2 (by kernel_rfl) (by kernel_rfl) ?_)
      refine eG [(7, (.rp (.mp lm))), (8, (.rp (eL aB r))), (9, (.rp (eL aK f))), (10, (.rp (eI size))), (11, (.rp (eI hop))), (12, (.rp (eI frm))), (13, (.rp (eI front))), (14, (.lp lo1 0 0)), (28, (eI t28))] ?_
      refine aW aD 1 ?_
      refine bG ?_
      refine eP [(7, (.rp (.mp lm))), (8, (.rp (eL aB r))), (9, (.rp (eL aK f))), (10, (.rp (eI size))), (11, (.rp (eI hop))), (12, (.rp (eI frm))), (13, (.rp (eI front))), (14, (.lp lo1 0 0)), (16, (eI t28))] ?_
      refine aG (⟨rfl, rfl, (hO.gm 0 _ rfl).2, ?_⟩)
      intro o2 ho2
      replace hO := hO.qA o2
      refine cA 3 ?_
      replace hO : aI ⟨Hr2, E2, (lm, rE rO (pmM los2 m2)) :: (up (pmL shP los2 m2) ++ ((lL2, o2) :: (lL, o1) :: Fg))⟩ _ [(lo1, 1, [(aE t14)])] := hO.oY (List.perm_middle.trans (List.Perm.cons _ List.perm_middle)).symm
      refine aL ?_
      refine aW aD 4 ?_
      refine bU 2 ?_
      refine TF (f := rO) (mty := 63) (ok := false) aD t28 none hO ?_
      refine bG ?_
      refine bH [(7, (.rp (.mp lm))), (8, (.rp (eL aB r))), (9, (.rp (eL aK f))), (10, (.rp (eI size))), (11, (.rp (eI hop))), (12, (.rp (eI frm))), (13, (.rp (eI front))), (14, (.lp lo1 0 0)), (16, (eI t28)), (17, (rO ((fW (pmM los2 m2) t28).getD none)))] ?_
      refine dP (fun T H => ∃ (a bb : Nat) (MM : List (Int × Option Nat)) (R : List (Nat × Nat × List V)) (p0 : aP), Has T [(7, (.rp (.mp lm))), (8, (.rp (eL aB r))), (9, (.rp (eL aK f))), (10, (.rp (eI size))), (11, (.rp (eI hop))), (12, (.rp (eI frm))), (13, (.rp (eI front))), (14, (.lp lo1 0 0)), (17, (.lp a 0 0))] ∧ Put shP m2 t28 a MM R ∧ aI ⟨Hr2, E2, (lm, rE rO MM) :: (up R ++ ((lL2, o2) :: (lL, o1) :: Fg))⟩ H [(a, 3, [(.agg [(eI p0.Span.From), (eI p0.Span.To), (.msl 2 bb 0 (List.length p0.Rows))])]), (bb, 2, List.map cE p0.Rows), (lo1, 1, [(aE t14)])] ∧ ((oS r f p0).bind fun p => some (.inl (t14, iC m2 t28 p))) = some out2) ?_ ?_
      · clear hO h2
        rintro T H ⟨a, bb, MM, R, p0, hT, hP, hO, h2⟩
        refine bD hT ?_
        clear hT
        obtain ⟨p1, hp, h2⟩ := aZ h2
        have fin : ∀ (H : aU) (bb : Nat), aI ⟨Hr2, E2, (lm, rE rO MM) :: (up R ++ ((lL2, o2) :: (lL, o1) :: Fg))⟩ H (shP a bb p1 ++ [(lo1, 1, [(aE t14)])]) → ∃ los' : List (Nat × Nat), los'.length = (iC m2 t28 p1).length ∧ aI ⟨Hr2, E2, (lL2, o2) :: ((lL, o1) :: (pmG shP lm los' (iC m2 t28 p1) ++ Fg))⟩ H [(lo1, 1, [(aE t14)])] := by
          intro H bb hO
          obtain ⟨los', hl', hO⟩ := hO.XS hP
          exact ⟨los', hl', hO.oY (List.perm_middle.trans (List.Perm.cons _ List.perm_middle))⟩
        unfold oS at hp
        refine aL ?_
        refine aW aD 7 ?_
        refine bU 3 ?_
        refine oQ 0 a 3 0 (.agg [(eI p0.Span.From), (eI p0.Span.To), (.msl 2 bb 0 (List.length p0.Rows))]) (.msl 2 bb 0 (List.length p0.Rows)) [(.agg [(eI p0.Span.From), (eI p0.Span.To), (.msl 2 bb 0 (List.length p0.Rows))])] hO rfl ?_
        refine bG ?_
        refine bH [(7, (.rp (.mp lm))), (8, (.rp (eL aB r))), (9, (.rp (eL aK f))), (10, (.rp (eI size))), (11, (.rp (eI hop))), (12, (.rp (eI frm))), (13, (.rp (eI front))), (14, (.lp lo1 0 0)), (17, (.lp a 0 0)), (18, (eI (wR ((lN p0.Rows) - (1 : Int)))))] ?_
        refine aL ?_
        obtain ⟨c12, hp⟩ := bA hp
        obtain ⟨x13, hx14, hp⟩ := aZ hp
        refine eS (eU [65]) aD 15 ?_
        refine mB (K := fun T H => Has (lift T) [(7, (.rp (.mp lm))), (8, (.rp (eL aB r))), (9, (.rp (eL aK f))), (10, (.rp (eI size))), (11, (.rp (eI hop))), (12, (.rp (eI frm))), (13, (.rp (eI front))), (14, (.lp lo1 0 0)), (17, (.lp a 0 0)), (18, (eI (wR ((lN p0.Rows) - (1 : Int))))), (68, (aE ((decide ((wR ((lN p0.Rows) - (1 : Int))) < (0 : Int))) || (!x13))))] ∧ aI ⟨Hr2, E2, (lm, rE rO MM) :: (up R ++ ((lL2, o2) :: (lL, o1) :: Fg))⟩ H [(a, 3, [(.agg [(eI p0.Span.From), (eI p0.Span.To), (.msl 2 bb 0 (List.length p0.Rows))])]), (bb, 2, List.map cE p0.Rows), (lo1, 1, [(aE t14)])]) ?_ ?_
        · refine jZ 3 ?_
          refine kB (t := 56) (e := decide ((wR ((lN p0.Rows) - (1 : Int))) < (0 : Int))) (by kernel_rfl) (fun hg15 => ?_) (fun hg15 => ?_)
          · refine gK ?_
            exact ⟨⟨[(7, (.rp (.mp lm))), (8, (.rp (eL aB r))), (9, (.rp (eL aK f))), (10, (.rp (eI size))), (11, (.rp (eI hop))), (12, (.rp (eI frm))), (13, (.rp (eI front))), (14, (.lp lo1 0 0)), (17, (.lp a 0 0)), (18, (eI (wR ((lN p0.Rows) - (1 : Int))))), (68, (aE true))], by kernel_rfl, rfl, ⟨aN.refl _, aN.refl _, aN.refl _, aN.refl _, aN.refl _, aN.refl _, aN.refl _, aN.refl _, aN.refl _, aN.refl _, aN.eq (congrArg aE (by rw [hg15]; rfl)), trivial⟩⟩, hO⟩
          · refine jZ 6 ?_
            refine jG 0 a 3 0 (.agg [(eI p0.Span.From), (eI p0.Span.To), (.msl 2 bb 0 (List.length p0.Rows))]) (.msl 2 bb 0 (List.length p0.Rows)) [(.agg [(eI p0.Span.From), (eI p0.Span.To), (.msl 2 bb 0 (List.length p0.Rows))])] (by kernel_rfl) (by kernel_rfl) (by kernel_rfl) hO (by kernel_rfl) rfl ?_
            have c13 := c12 (by rw [hg15]; rfl)
            refine cI 10 [0 ≤ (wR ((lN p0.Rows) - (1 : Int))) ∧ (wR ((lN p0.Rows) - (1 : Int))) < (lN p0.Rows)] ⟨c13, trivial⟩ ?_
            refine jG 1 bb 2 (0 + Int.toNat (wR ((lN p0.Rows) - (1 : Int)))) (cE (gD p0.Rows (wR ((lN p0.Rows) - (1 : Int))))) (eL aB ((gD p0.Rows (wR ((lN p0.Rows) - (1 : Int)))).Row)) (List.map cE p0.Rows) (by kernel_rfl) (by kernel_rfl) (by kernel_rfl) hO (by kernel_rfl) (cF c13) ?_
            refine jZ 12 ?_
            refine lZ 58 [(eL aB ((gD p0.Rows (wR ((lN p0.Rows) - (1 : Int)))).Row)), (eL aB r)] (aE x13) (by kernel_rfl) (by kernel_rfl) (MU ((gD p0.Rows (wR ((lN p0.Rows) - (1 : Int)))).Row) r _ (gV hx14 (by rw [hg15]; rfl))) hO ?_
            intro H hO
            refine gK ?_
            exact ⟨⟨[(7, (.rp (.mp lm))), (8, (.rp (eL aB r))), (9, (.rp (eL aK f))), (10, (.rp (eI size))), (11, (.rp (eI hop))), (12, (.rp (eI frm))), (13, (.rp (eI front))), (14, (.lp lo1 0 0)), (17, (.lp a 0 0)), (18, (eI (wR ((lN p0.Rows) - (1 : Int))))), (68, (aE (!x13)))], by kernel_rfl, rfl, ⟨aN.refl _, aN.refl _, aN.refl _, aN.refl _, aN.refl _, aN.refl _, aN.refl _, aN.refl _, aN.refl _, aN.refl _, aN.eq (congrArg aE (by rw [hg15]; rfl)), trivial⟩⟩, hO⟩
        · rintro T H ⟨hT, hO⟩
          refine dS hT ?_
          clear hT
          refine aG (aF ?_)
          refine bJ hp (fun hp => ?_) (fun hp => ?_)
          · obtain ⟨x15, hx15, hp⟩ := aZ hp
            obtain ⟨x16, hx16, hp⟩ := aZ hp
            obtain ⟨c17, hp⟩ := bA hp
            refine eS (eU [74, 75, 76, 81, 83, 84]) aD 19 ?_
            refine jZ 4 ?_
            refine hU 0 a 3 0 (.agg [(eI p0.Span.From), (eI p0.Span.To), (.msl 2 bb 0 (List.length p0.Rows))]) (.msl 2 bb 0 (List.length p0.Rows)) [(.agg [(eI p0.Span.From), (eI p0.Span.To), (.msl 2 bb 0 (List.length p0.Rows))])] hO rfl ?_
            refine jZ 6 ?_
            refine yL (LP r _ hx15) hO ?_
            intro H hO
            refine jZ 11 ?_
            refine hU 0 a 3 0 (.agg [(eI p0.Span.From), (eI p0.Span.To), (.msl 2 bb 0 (List.length p0.Rows))]) (bB p0.Span) [(.agg [(eI p0.Span.From), (eI p0.Span.To), (.msl 2 bb 0 (List.length p0.Rows))])] hO rfl ?_
            refine yL (RN f p0.Span _ hx16) hO ?_
            intro H hO
            refine jZ 14 ?_
            refine SH (xs := [(cE (cP.mk x15 x16))]) (k := 2) (by kernel_rfl) (by kernel_rfl) ?_
            refine JB (e := cE) p0.Rows ([cP.mk x15 x16]) 1 bb 2 32 (eK [(cE (cP.mk x15 x16))]) (fun bc => [(a, 3, [(.agg [(eI p0.Span.From), (eI p0.Span.To), (.msl 2 bb 0 (List.length p0.Rows))])]), (bc, 2, List.map cE (p0.Rows ++ ([cP.mk x15 x16]))), (lo1, 1, [(aE t14)])]) (by kernel_rfl) (by kernel_rfl) hO (by kernel_rfl) (by kernel_rfl) c17 (fun _ => by kernel_rfl) ?_
            intro bc H hO
            refine jZ 18 ?_
            refine kV 0 a 3 0 (.agg [(eI p0.Span.From), (eI p0.Span.To), (.msl 2 bb 0 (List.length p0.Rows))]) (.agg [(eI p0.Span.From), (eI p0.Span.To), (.msl 2 bc 0 (List.length (p0.Rows ++ ([cP.mk x15 x16]))))]) [(.agg [(eI p0.Span.From), (eI p0.Span.To), (.msl 2 bb 0 (List.length p0.Rows))])] [(a, 3, [(.agg [(eI p0.Span.From), (eI p0.Span.To), (.msl 2 bc 0 (List.length (p0.Rows ++ ([cP.mk x15 x16]))))])]), (bc, 2, List.map cE (p0.Rows ++ ([cP.mk x15 x16]))), (lo1, 1, [(aE t14)])] hO rfl (by kernel_rfl) ?_
            intro H hO
            refine nJ (by kernel_rfl) ?_
            obtain rfl := oI hp
            refine eP [(7, (.rp (.mp lm))), (8, (.rp (eL aB r))), (9, (.rp (eL aK f))), (10, (.rp (eI size))), (11, (.rp (eI hop))), (12, (.rp (eI frm))), (13, (.rp (eI front))), (14, (.lp lo1 0 0))] ?_
            obtain ⟨los', hl', hO⟩ := fin H bc hO
            obtain rfl := oI h2
            exact aG (aY (⟨(fC hO hE2 ho2 .dead).1, rfl, _, ⟨los', hl', rfl⟩, (fC hO hE2 ho2 _).2⟩))
          · refine bK ?_
            obtain rfl := oI hp
            refine eP [(7, (.rp (.mp lm))), (8, (.rp (eL aB r))), (9, (.rp (eL aK f))), (10, (.rp (eI size))), (11, (.rp (eI hop))), (12, (.rp (eI frm))), (13, (.rp (eI front))), (14, (.lp lo1 0 0))] ?_
            obtain ⟨los', hl', hO⟩ := fin H bb hO
            obtain rfl := oI h2
            exact aG (aY (⟨(fC hO hE2 ho2 .dead).1, rfl, _, ⟨los', hl', rfl⟩, (fC hO hE2 ho2 _).2⟩))
      cases hg : fW m2 t28 with
      | none =>
        rw [hg] at h2
        replace h2 : cond (decide ((lN m2) = (1024 : Int))) (some (.inr (false, m2))) ((oS r f (aP.mk (aT.mk t28 (if (1125899906842624 : Int) < (wR (t28 + size)) then (1125899906842624 : Int) else (wR (t28 + size)))) [])).bind fun p => some (.inl (t14, iC m2 t28 p))) = some out2 := h2
        rw [XR hg]
        refine eG [(7, (.rp (.mp lm))), (8, (.rp (eL aB r))), (9, (.rp (eL aK f))), (10, (.rp (eI size))), (11, (.rp (eI hop))), (12, (.rp (eI frm))), (13, (.rp (eI front))), (14, (.lp lo1 0 0)), (16, (eI t28)), (17, (.lit (.pointer none)))] ?_
        refine aL ?_
        refine aW aD 2 ?_
        refine bU 1 ?_
        refine VW true ?_
        refine eT ?_
        refine bH [(7, (.rp (.mp lm))), (8, (.rp (eL aB r))), (9, (.rp (eL aK f))), (10, (.rp (eI size))), (11, (.rp (eI hop))), (12, (.rp (eI frm))), (13, (.rp (eI front))), (14, (.lp lo1 0 0)), (16, (eI t28)), (33, (aE true))] ?_
        refine nI (true) (fun hc => ?_) (fun hc => by cases hc)
        refine aL ?_
        refine aL ?_
        refine aW aD 3 ?_
        refine bU 1 ?_
        refine VS (mty := 63) hO ?_
        rw [OR hl2]
        refine bG ?_
        refine bH [(7, (.rp (.mp lm))), (8, (.rp (eL aB r))), (9, (.rp (eL aK f))), (10, (.rp (eI size))), (11, (.rp (eI hop))), (12, (.rp (eI frm))), (13, (.rp (eI front))), (14, (.lp lo1 0 0)), (16, (eI t28)), (36, (aE (decide ((lN m2) = (1024 : Int)))))] ?_
        refine bJ h2 (fun h2 => ?_) (fun h2 => ?_)
        · refine aL ?_
          refine aW aD 1 ?_
          refine jW 0 lo1 1 0 (aE t14) (aE false) [(aE t14)] [(lo1, 1, [(aE false)])] hO rfl (by kernel_rfl) ?_
          intro H hO
          refine eT ?_
          refine bH [(14, (.lp lo1 0 0))] ?_
          refine bL ?_
          obtain rfl := oI h2
          replace hO : aI ⟨Hr2, E2, (lL2, o2) :: ((lL, o1) :: (pmG shP lm los2 m2 ++ Fg))⟩ H [(lo1, 1, [(aE false)])] := (show aI ⟨Hr2, E2, pmG shP lm los2 m2 ++ ((lL2, o2) :: (lL, o1) :: Fg)⟩ H [(lo1, 1, [(aE false)])] from hO).oY (List.perm_middle.trans (List.Perm.cons _ List.perm_middle))
          exact aG (aO (aO (bE (⟨(fC hO hE2 ho2 .dead).1, rfl, _, ⟨los2, hl2, rfl⟩, (fC hO hE2 ho2 _).2⟩))))
        refine bK ?_
        refine bH [(7, (.rp (.mp lm))), (8, (.rp (eL aB r))), (9, (.rp (eL aK f))), (10, (.rp (eI size))), (11, (.rp (eI hop))), (12, (.rp (eI frm))), (13, (.rp (eI front))), (14, (.lp lo1 0 0)), (16, (eI t28))] ?_
        refine aL ?_
        refine aW aD 9 ?_
        refine bU 7 ?_
        refine lR 3 (.agg [(eI (aT.mk t28 (if (1125899906842624 : Int) < (wR (t28 + size)) then (1125899906842624 : Int) else (wR (t28 + size)))).From), (eI (aT.mk t28 (if (1125899906842624 : Int) < (wR (t28 + size)) then (1125899906842624 : Int) else (wR (t28 + size)))).To), (.sl true 0 (fun _ => .bad))]) (by kernel_rfl) (by kernel_rfl) hO ?_
        intro lo3 H hO
        refine bG ?_
        refine aAU 1 3 lo3 2 2 [(eI (aT.mk t28 (if (1125899906842624 : Int) < (wR (t28 + size)) then (1125899906842624 : Int) else (wR (t28 + size)))).From), (eI (aT.mk t28 (if (1125899906842624 : Int) < (wR (t28 + size)) then (1125899906842624 : Int) else (wR (t28 + size)))).To), (.sl true 0 (fun _ => .bad))] (fun _ => .bad) (fun lo4 => [(lo1, 1, [(aE t14)]), (lo3, 3, [(.agg [(eI (aT.mk t28 (if (1125899906842624 : Int) < (wR (t28 + size)) then (1125899906842624 : Int) else (wR (t28 + size)))).From), (eI (aT.mk t28 (if (1125899906842624 : Int) < (wR (t28 + size)) then (1125899906842624 : Int) else (wR (t28 + size)))).To), (.msl 2 lo4 0 0)])]), (lo4, 2, [])]) hO (by kernel_rfl) (by kernel_rfl) (fun _ => by kernel_rfl) ?_
        intro lo4 H hO
        refine bH [(7, (.rp (.mp lm))), (8, (.rp (eL aB r))), (9, (.rp (eL aK f))), (10, (.rp (eI size))), (11, (.rp (eI hop))), (12, (.rp (eI frm))), (13, (.rp (eI front))), (14, (.lp lo1 0 0)), (16, (eI t28)), (17, (.lp lo3 0 0))] ?_
        refine aW aD 4 ?_
        refine bU 3 ?_
        refine aBE (f := rO) (mty := 63) t28 (some lo3) hO ?_
        intro H hO
        refine eT ?_
        replace hO := hO.pick (L' := [(lo3, 3, [(.agg [(eI (aT.mk t28 (if (1125899906842624 : Int) < (wR (t28 + size)) then (1125899906842624 : Int) else (wR (t28 + size)))).From), (eI (aT.mk t28 (if (1125899906842624 : Int) < (wR (t28 + size)) then (1125899906842624 : Int) else (wR (t28 + size)))).To), (.msl 2 lo4 0 0)])]), (lo4, 2, []), (lo1, 1, [(aE t14)])]) [1, 2, 0] (by decide) (by kernel_rfl)
        exact aG (aF ⟨rfl, lo3, lo4, _, _, (aP.mk (aT.mk t28 (if (1125899906842624 : Int) < (wR (t28 + size)) then (1125899906842624 : Int) else (wR (t28 + size)))) []), .eq (by kernel_rfl), aA3 hl2 hg, hO, h2⟩)
      | some p0 =>
        rw [hg] at h2
        obtain ⟨a, bb, R, e1, hP, hO⟩ := aI.focus (sh := shP) (los := los2) (m := m2) (G := (lL2, o2) :: (lL, o1) :: Fg) hO hl2 hg
        rw [e1]
        refine eG [(7, (.rp (.mp lm))), (8, (.rp (eL aB r))), (9, (.rp (eL aK f))), (10, (.rp (eI size))), (11, (.rp (eI hop))), (12, (.rp (eI frm))), (13, (.rp (eI front))), (14, (.lp lo1 0 0)), (16, (eI t28)), (17, (.lp a 0 0))] ?_
        refine aL ?_
        refine aW aD 2 ?_
        refine bU 1 ?_
        refine VW false ?_
        refine eT ?_
        refine bH [(7, (.rp (.mp lm))), (8, (.rp (eL aB r))), (9, (.rp (eL aK f))), (10, (.rp (eI size))), (11, (.rp (eI hop))), (12, (.rp (eI frm))), (13, (.rp (eI front))), (14, (.lp lo1 0 0)), (16, (eI t28)), (17, (.lp a 0 0)), (33, (aE false))] ?_
        refine nI (false) (fun hc => by cases hc) (fun hc => ?_)
        refine bK ?_
        exact aG (aF ⟨rfl, a, bb, _, R, p0, .eq (by kernel_rfl), hP, hO, h2⟩)
    · intro b2 lL2 H' G' hi hO
      rcases oi with s | s
      · dsimp only [Sum.elim_inl] at hi
        obtain ⟨los2, hl2, rfl⟩ := hi
        obtain rfl := oI h1
        obtain ⟨hlL, hO⟩ := JU hO
        refine ⟨_, _, hlL, (by intro e; cases e), ?_⟩
        refine eP [(7, (.rp (.mp lm))), (8, (.rp (eL aB r))), (9, (.rp (eL aK f))), (10, (.rp (eI size))), (11, (.rp (eI hop))), (12, (.rp (eI frm))), (13, (.rp (eI front))), (14, (.lp lo1 0 0))] ?_
        exact aG (aY (aY (⟨(fC hO hE ho1 .dead).1, rfl, _, ⟨los2, hl2, rfl⟩, (fC hO hE ho1 _).2⟩)))
      · dsimp only [Sum.elim_inr] at hi
        obtain ⟨los2, hl2, rfl⟩ := hi
        obtain rfl := oI h1
        obtain ⟨hlL, hO⟩ := JU hO
        refine ⟨_, _, hlL, (by intro e; cases e), ?_⟩
        refine bL ?_
        exact aG (bE (bE (⟨(fC hO hE ho1 .dead).1, rfl, _, ⟨los2, hl2, rfl⟩, (fC hO hE ho1 _).2⟩)))
  · intro b lD lL H' G' hi hO
    rcases o0 with s | s
    · dsimp only [Sum.elim_inl] at hi
      obtain ⟨los1, hl1, rfl⟩ := hi
      obtain rfl := oI h0
      obtain ⟨hlL, hO⟩ := oB hO
      refine ⟨_, _, hlL, (by intro e; cases e), ?_⟩
      refine eP [(14, (.lp lo1 0 0))] ?_
      refine aG (aY (aF (?_)))
      refine aL ?_
      refine aW aD 1 ?_
      refine jW 0 lo1 1 0 (aE s.1) (aE true) [(aE s.1)] [(lo1, 1, [(aE true)])] hO rfl (by kernel_rfl) ?_
      intro H hO
      refine eT ?_
      refine bH [(14, (.lp lo1 0 0))] ?_
      refine bL ?_
      have hD := (hO.gm 0 _ rfl).2
      replace hO := (hO.qA .dead).qY
      exact aG (QM1 (.inr rfl) hD (rs := [.cell 14 4]) (xs := [(aE true)]) (x := (aE true)) (by kernel_rfl) (iS (lo := lo1) (k := 1) (y := (aE true)) (x := (aE true)) 0 hO (by kernel_rfl) (by kernel_rfl) (by kernel_rfl) (by kernel_rfl) nK) (by kernel_rfl) ⟨_, [], ⟨los1, hl1, rfl, rfl, rfl⟩, hO.pick (L' := []) [] (by decide) (by kernel_rfl)⟩)
    · dsimp only [Sum.elim_inr] at hi
      obtain ⟨los1, hl1, rfl⟩ := hi
      obtain rfl := oI h0
      obtain ⟨hlL, hO⟩ := oB hO
      refine ⟨_, _, hlL, (by intro e; cases e), ?_⟩
      refine bL ?_
      refine aG (bE (aO ?_))
      have hD := (hO.gm 0 _ rfl).2
      replace hO := (hO.qA .dead).qY
      exact QM1 (.inr rfl) hD (rs := [.cell 14 4]) (xs := [(aE s.1)]) (x := (aE s.1)) (by kernel_rfl) (iS (lo := lo1) (k := 1) (y := (aE s.1)) (x := (aE s.1)) 0 hO (by kernel_rfl) (by kernel_rfl) (by kernel_rfl) (by kernel_rfl) nK) (by kernel_rfl) ⟨_, [], ⟨los1, hl1, rfl, rfl, rfl⟩, hO.pick (L' := []) [] (by decide) (by kernel_rfl)⟩

theorem KN (l0 : (List aR)) (bT : Int) (hop2 : Int) (bN : Int) (bI : Int) (r : ((List aP) × Int)) (h0 : uI l0 bT hop2 bN bI = some r) : dJ Try.prog 16 [(eL aQ l0), (eI bT), (eI hop2), (eI bN), (eI bI)] (.tup [(eL aS r.1), (eI r.2)]) := by
  intro H0
  refine ET aD Try.func16 (by kernel_rfl) (by kernel_rfl) (by kernel_rfl) ?_
  have hO := aI.start H0
  unfold uI at h0
  refine aL ?_
  refine aW aD 6 ?_
  refine gC 1 (eI bT) (by kernel_rfl) (by kernel_rfl) ?_
  refine gC 1 (eI hop2) (by kernel_rfl) (by kernel_rfl) ?_
  refine gC 1 (eI bN) (by kernel_rfl) (by kernel_rfl) ?_
  refine gC 1 (eI bI) (by kernel_rfl) (by kernel_rfl) ?_
  refine FT 1 (.sl true 0 (fun _ => .bad)) (eL aS ([])) (by kernel_rfl) (by kernel_rfl) (by kernel_rfl) (jT) (by kernel_rfl) (by kernel_rfl) hO ?_
  intro lo1 H hO
  refine lR 1 (eI 0) (by kernel_rfl) (by kernel_rfl) hO ?_
  intro lo2 H hO
  refine eT ?_
  refine bH [(0, (eL aQ l0)), (6, (.rp (eI bT))), (7, (.rp (eI hop2))), (8, (.rp (eI bN))), (9, (.rp (eI bI))), (10, (.lp lo1 0 0)), (11, (.lp lo2 0 0))] ?_
  refine aL ?_
  refine cA 0 ?_
  refine aL ?_
  refine aW aD 10 ?_
  refine bU 2 ?_
  obtain ⟨x3, hx4, h0⟩ := aZ h0
  refine dQ (HH bT hop2 _ hx4) hO ?_
  intro H hO
  refine bU 6 ?_
  obtain ⟨x6, hx7, h0⟩ := aZ h0
  refine lX [(25, false)] 31 [(eL aQ l0)] (aE x6) (!(!x3)) (by kernel_rfl) (by kernel_rfl) (by kernel_rfl) (fun hb8 => (MP l0 _ (gV hx7 hb8))) hO ?_
  intro H hO
  refine bG ?_
  refine bZ [] [(20, (aE ((!x3) || (!x6))))] ?_
  refine bJ h0 (fun h0 => ?_) (fun h0 => ?_)
  · refine aL ?_
    refine aW aD 2 ?_
    refine jW 0 lo1 1 0 (eL aS ([])) (.sl true 0 (fun _ => .bad)) [(eL aS ([]))] [(lo1, 1, [(.sl true 0 (fun _ => .bad))]), (lo2, 1, [(eI 0)])] hO rfl (by kernel_rfl) ?_
    intro H hO
    refine jW 1 lo2 1 0 (eI 0) (eI (2 : Int)) [(eI 0)] [(lo1, 1, [(.sl true 0 (fun _ => .bad))]), (lo2, 1, [(eI (2 : Int))])] hO rfl (by kernel_rfl) ?_
    intro H hO
    refine eT ?_
    refine vI 0 lo1 1 (.sl true 0 (fun _ => .bad)) (eL aS ([])) [(lo1, 1, [(eL aS ([]))]), (lo2, 1, [(eI (2 : Int))])] hO (by kernel_rfl) (by kernel_rfl) jT (by kernel_rfl) ?_
    intro H hO
    refine bH [(10, (.lp lo1 0 0)), (11, (.lp lo2 0 0))] ?_
    refine bL ?_
    obtain rfl := oI h0
    exact aG (bE (aO (QM0 (.inr rfl) (rs := [.cell 10 37, .cell 11 22]) (xs := [(eL aS ([])), (eI (2 : Int))]) (x := (.tup [(eL aS ([])), (eI (2 : Int))])) (by kernel_rfl) (iS (lo := lo1) (k := 1) (y := (eL aS ([]))) (x := (eL aS ([]))) 0 hO (by kernel_rfl) (by kernel_rfl) (by kernel_rfl) (by kernel_rfl) (iS (lo := lo2) (k := 1) (y := (eI (2 : Int))) (x := (eI (2 : Int))) 1 hO (by kernel_rfl) (by kernel_rfl) (by kernel_rfl) (by kernel_rfl) nK)) (by kernel_rfl) ⟨rfl, hO.out⟩)))
  refine aL ?_
  refine aW aD 4 ?_
  refine bU 1 ?_
  obtain ⟨x10, hx11, h0⟩ := aZ h0
  refine dQ (UU l0 _ hx11) hO ?_
  intro H hO
  refine bG ?_
  refine bZ [20] [(30, (aE (!x10)))] ?_
  refine bJ h0 (fun h0 => ?_) (fun h0 => ?_)
  · refine aL ?_
    refine aW aD 2 ?_
    refine jW 0 lo1 1 0 (eL aS ([])) (.sl true 0 (fun _ => .bad)) [(eL aS ([]))] [(lo1, 1, [(.sl true 0 (fun _ => .bad))]), (lo2, 1, [(eI 0)])] hO rfl (by kernel_rfl) ?_
    intro H hO
    refine jW 1 lo2 1 0 (eI 0) (eI (20 : Int)) [(eI 0)] [(lo1, 1, [(.sl true 0 (fun _ => .bad))]), (lo2, 1, [(eI (20 : Int))])] hO rfl (by kernel_rfl) ?_
    intro H hO
    refine eT ?_
    refine vI 0 lo1 1 (.sl true 0 (fun _ => .bad)) (eL aS ([])) [(lo1, 1, [(eL aS ([]))]), (lo2, 1, [(eI (20 : Int))])] hO (by kernel_rfl) (by kernel_rfl) jT (by kernel_rfl) ?_
    intro H hO
    refine bH [(10, (.lp lo1 0 0)), (11, (.lp lo2 0 0))] ?_
    refine bL ?_
    obtain rfl := oI h0
    exact aG (bE (aO (QM0 (.inr rfl) (rs := [.cell 10 37, .cell 11 22]) (xs := [(eL aS ([])), (eI (20 : Int))]) (x := (.tup [(eL aS ([])), (eI (20 : Int))])) (by kernel_rfl) (iS (lo := lo1) (k := 1) (y := (eL aS ([]))) (x := (eL aS ([]))) 0 hO (by kernel_rfl) (by kernel_rfl) (by kernel_rfl) (by kernel_rfl) (iS (lo := lo2) (k := 1) (y := (eI (20 : Int))) (x := (eI (20 : Int))) 1 hO (by kernel_rfl) (by kernel_rfl) (by kernel_rfl) (by kernel_rfl) nK)) (by kernel_rfl) ⟨rfl, hO.out⟩)))
  refine aL ?_
  refine aW aD 9 ?_
  refine bU 1 ?_
  obtain ⟨x14, hx15, h0⟩ := aZ h0
  refine dQ (zF bN _ hx15) hO ?_
  intro H hO
  refine bU 5 ?_
  obtain ⟨x17, hx18, h0⟩ := aZ h0
  refine lX [(38, false)] 25 [(eI bI)] (aE x17) (!(!x14)) (by kernel_rfl) (by kernel_rfl) (by kernel_rfl) (fun hb19 => (zF bI _ (gV hx18 hb19))) hO ?_
  intro H hO
  refine bG ?_
  refine bZ [30] [(34, (aE ((!x14) || (!x17))))] ?_
  refine bJ h0 (fun h0 => ?_) (fun h0 => ?_)
  · refine aL ?_
    refine aW aD 2 ?_
    refine jW 0 lo1 1 0 (eL aS ([])) (.sl true 0 (fun _ => .bad)) [(eL aS ([]))] [(lo1, 1, [(.sl true 0 (fun _ => .bad))]), (lo2, 1, [(eI 0)])] hO rfl (by kernel_rfl) ?_
    intro H hO
    refine jW 1 lo2 1 0 (eI 0) (eI (13 : Int)) [(eI 0)] [(lo1, 1, [(.sl true 0 (fun _ => .bad))]), (lo2, 1, [(eI (13 : Int))])] hO rfl (by kernel_rfl) ?_
    intro H hO
    refine eT ?_
    refine vI 0 lo1 1 (.sl true 0 (fun _ => .bad)) (eL aS ([])) [(lo1, 1, [(eL aS ([]))]), (lo2, 1, [(eI (13 : Int))])] hO (by kernel_rfl) (by kernel_rfl) jT (by kernel_rfl) ?_
    intro H hO
    refine bH [(10, (.lp lo1 0 0)), (11, (.lp lo2 0 0))] ?_
    refine bL ?_
    obtain rfl := oI h0
    exact aG (bE (aO (QM0 (.inr rfl) (rs := [.cell 10 37, .cell 11 22]) (xs := [(eL aS ([])), (eI (13 : Int))]) (x := (.tup [(eL aS ([])), (eI (13 : Int))])) (by kernel_rfl) (iS (lo := lo1) (k := 1) (y := (eL aS ([]))) (x := (eL aS ([]))) 0 hO (by kernel_rfl) (by kernel_rfl) (by kernel_rfl) (by kernel_rfl) (iS (lo := lo2) (k := 1) (y := (eI (13 : Int))) (x := (eI (13 : Int))) 1 hO (by kernel_rfl) (by kernel_rfl) (by kernel_rfl) (by kernel_rfl) nK)) (by kernel_rfl) ⟨rfl, hO.out⟩)))
  refine bK ?_
  refine eP [(0, (eL aQ l0)), (6, (.rp (eI bT))), (7, (.rp (eI hop2))), (8, (.rp (eI bN))), (9, (.rp (eI bI))), (10, (.lp lo1 0 0)), (11, (.lp lo2 0 0))] ?_
  refine aG (aY (aF (?_)))
  unfold DC at h0
  refine aL ?_
  refine aW aD 3 ?_
  refine aAv (β := Option Nat) rO (t := 63) hO ?_
  intro lm H hO
  refine lR 1 (.lit (.map none)) (by kernel_rfl) (by kernel_rfl) hO ?_
  intro lo12 H hO
  refine jW 2 lo12 1 0 (.lit (.map none)) (.mp lm) [(.lit (.map none))] [(lo1, 1, [(eL aS ([]))]), (lo2, 1, [(eI 0)]), (lo12, 1, [(.mp lm)])] hO rfl (by kernel_rfl) ?_
  intro H hO
  replace hO : aI ⟨H0, [], pmG shP lm [] [] ++ []⟩ H [(lo1, 1, [(eL aS ([]))]), (lo2, 1, [(eI 0)]), (lo12, 1, [(.mp lm)])] := hO
  refine eT ?_
  refine bH [(0, (eL aQ l0)), (6, (.rp (eI bT))), (7, (.rp (eI hop2))), (8, (.rp (eI bN))), (9, (.rp (eI bI))), (10, (.lp lo1 0 0)), (11, (.lp lo2 0 0)), (12, (.lp lo12 0 0))] ?_
  refine aL ?_
  refine aL ?_
  refine aW aD 2 ?_
  refine bU 1 ?_
  obtain ⟨x1, hx1, h0⟩ := aZ h0
  refine dQ (RW l0 _ hx1) hO ?_
  intro H hO
  refine eT ?_
  refine bH [(6, (.rp (eI bT))), (7, (.rp (eI hop2))), (8, (.rp (eI bN))), (9, (.rp (eI bI))), (10, (.lp lo1 0 0)), (11, (.lp lo2 0 0)), (12, (.lp lo12 0 0)), (45, (.fn (.func 55) [] [(.rp (eL aQ x1))]))] ?_
  refine cA 1 ?_
  obtain ⟨o0, hl0, h0⟩ := aZ h0
  refine CD (fid := 55) (ys := []) (cs := [(.rp (eL aQ x1))]) #[46, 47] (fun (A : uV) (b lL : Nat) (st : (List aP × Int × List (Int × aP)) ⊕ (List aP × Int × List (Int × aP))) (G' : Gs) => Sum.elim (fun (s : List aP × Int × List (Int × aP)) => ∃ los : List (Nat × Nat), los.length = s.2.2.length ∧ G' = (lL, .raw (gZ b A .ready none)) :: (up [(lo1, 1, [(eL aS (s.1))]), (lo2, 1, [(eI (s.2.1))]), (lo12, 1, [(.mp lm)])] ++ (pmG shP lm los s.2.2 ++ []))) (fun (s : List aP × Int × List (Int × aP)) => ∃ los : List (Nat × Nat), los.length = s.2.2.length ∧ G' = (lL, .raw (gZ b A .done (some .ret))) :: (up [(lo1, 1, [(eL aS (s.1))]), (lo2, 1, [(eI (s.2.1))]), (lo12, 1, [(.mp lm)])] ++ (pmG shP lm los s.2.2 ++ []))) st) (.inl ([], 0, [])) o0 (.tup []) (by kernel_rfl) (by kernel_rfl) (by kernel_rfl) hO (fun _ _ => ⟨[], rfl, rfl⟩) ?_ ?_
  · intro b lL
    clear hO h0
    refine JN _ b (fun st t46 t47 => rnd (fun (q : List aP × Int × List (Int × aP)) => mY bT hop2 bN bI q.1 q.2.1 q.2.2 t46 t47) st) ?_ x1 _ _ hl0
    intro st t46 t47 out1 rr hr
    obtain ⟨s, rfl, h1, rfl⟩ := PK hr
    clear hr
    intro Hr Gr hi hg
    obtain ⟨t10, t11, m⟩ := s
    dsimp only [Sum.elim_inl] at hi
    obtain ⟨los, hl, rfl⟩ := hi
    replace h1 : mY bT hop2 bN bI t10 t11 m t46 t47 = some out1 := h1
    unfold mY at h1
    obtain ⟨E1, hE, hO⟩ := tW hg
    refine tY (zZ (hO.gm 0 _ rfl).2 (by kernel_rfl) (by kernel_rfl) ?_)
    refine eG [(6, (.rp (eI bT))), (7, (.rp (eI hop2))), (8, (.rp (eI bN))), (9, (.rp (eI bI))), (10, (.lp lo1 0 0)), (11, (.lp lo2 0 0)), (12, (.lp lo12 0 0)), (46, (eL aB t46)), (47, (eL aK t47))] ?_
    refine bV aD 1 [(6, (.rp (eI bT))), (7, (.rp (eI hop2))), (8, (.rp (eI bN))), (9, (.rp (eI bI))), (10, (.lp lo1 0 0)), (11, (.lp lo2 0 0)), (12, (.lp lo12 0 0)), (13, (eL aB t46)), (47, (eL aK t47))] ?_
    refine aW aD 1 ?_
    refine bG ?_
    refine eP [(6, (.rp (eI bT))), (7, (.rp (eI hop2))), (8, (.rp (eI bN))), (9, (.rp (eI bI))), (10, (.lp lo1 0 0)), (11, (.lp lo2 0 0)), (12, (.lp lo12 0 0)), (13, (eL aB t46)), (14, (eL aK t47))] ?_
    refine aG (⟨rfl, rfl, (hO.gm 0 _ rfl).2, ?_⟩)
    intro o1 ho1
    replace hO := hO.qA o1
    refine cA 2 ?_
    refine aL ?_
    refine aW aD 9 ?_
    refine oQ 2 lo12 1 0 (.mp lm) (.mp lm) [(.mp lm)] hO rfl ?_
    refine bU 7 ?_
    obtain ⟨x2, hx2, h1⟩ := aZ h1
    replace hO : aI ⟨Hr, E1, pmG shP lm los m ++ ((lL, o1) :: [])⟩ _ [(lo1, 1, [(eL aS t10)]), (lo2, 1, [(eI t11)]), (lo12, 1, [(.mp lm)])] := hO.oY List.perm_middle.symm
    refine aEr (pmG shP lm los m) [(lo1, 1, [(eL aS t10)]), (lo2, 1, [(eI t11)]), (lo12, 1, [(.mp lm)])] [0, 1, 2] (SN lm los m hl t46 t47 bT hop2 bN bI _ hx2) hO ?_
    intro r1 M1 L1 H hP hO
    obtain ⟨los', hl', rfl, rfl, rfl⟩ := hP
    replace hO : aI ⟨Hr, E1, (lL, o1) :: (pmG shP lm los' x2.2 ++ [])⟩ H [(lo1, 1, [(eL aS t10)]), (lo2, 1, [(eI t11)]), (lo12, 1, [(.mp lm)])] := hO.oY List.perm_middle
    refine bG ?_
    refine bH [(10, (.lp lo1 0 0)), (11, (.lp lo2 0 0)), (12, (.lp lo12 0 0)), (56, (aE (!x2.1)))] ?_
    refine bJ h1 (fun h1 => ?_) (fun h1 => ?_)
    · refine aL ?_
      refine aW aD 2 ?_
      refine jW 0 lo1 1 0 (eL aS t10) (.sl true 0 (fun _ => .bad)) [(eL aS t10)] [(lo1, 1, [(.sl true 0 (fun _ => .bad))]), (lo2, 1, [(eI t11)]), (lo12, 1, [(.mp lm)])] hO rfl (by kernel_rfl) ?_
      intro H hO
      refine jW 1 lo2 1 0 (eI t11) (eI (7 : Int)) [(eI t11)] [(lo1, 1, [(.sl true 0 (fun _ => .bad))]), (lo2, 1, [(eI (7 : Int))]), (lo12, 1, [(.mp lm)])] hO rfl (by kernel_rfl) ?_
      intro H hO
      refine eT ?_
      refine vI 0 lo1 1 (.sl true 0 (fun _ => .bad)) (eL aS []) [(lo1, 1, [(eL aS ([]))]), (lo2, 1, [(eI ((7 : Int)))]), (lo12, 1, [(.mp lm)])] hO (by kernel_rfl) (by kernel_rfl) jT (by kernel_rfl) ?_
      intro H hO
      refine bH [(10, (.lp lo1 0 0)), (11, (.lp lo2 0 0))] ?_
      refine bL ?_
      obtain rfl := oI h1
      exact aG (bE (⟨(fC hO hE ho1 .dead).1, rfl, _, ⟨los', hl', rfl⟩, (fC hO hE ho1 _).2⟩))
    · refine bK ?_
      obtain rfl := oI h1
      refine eP [(10, (.lp lo1 0 0)), (11, (.lp lo2 0 0))] ?_
      exact aG (aY (⟨(fC hO hE ho1 .dead).1, rfl, _, ⟨los', hl', rfl⟩, (fC hO hE ho1 _).2⟩))
  · intro b lD lL H' G' hi hO
    rcases o0 with s | s
    · obtain ⟨t10, t11, m⟩ := s
      dsimp only [Sum.elim_inl] at hi
      obtain ⟨los, hl, rfl⟩ := hi
      replace h0 : vU m = some r := h0
      obtain ⟨hlL, hO⟩ := oB hO
      refine ⟨_, _, hlL, (by intro e; cases e), ?_⟩
      refine eP [(10, (.lp lo1 0 0)), (11, (.lp lo2 0 0)), (12, (.lp lo12 0 0))] ?_
      refine aG (aY (aF (?_)))
      unfold vU at h0
      replace hO : aI ⟨H0, [], up (pmL shP los m) ++ ((lm, rE rO (pmM los m)) :: [(lD, .raw rK)])⟩ _ [(lo1, 1, [(eL aS t10)]), (lo2, 1, [(eI t11)]), (lo12, 1, [(.mp lm)])] := hO.oY (by
        show ((lD, dO.raw rK) :: (((lm, rE rO (pmM los m)) :: up (pmL shP los m)) ++ [])).Perm _
        rw [List.append_nil]
        refine List.Perm.trans ?_ List.perm_middle.symm
        refine (List.Perm.swap _ _ _).trans (List.Perm.cons _ ?_)
        exact (List.perm_append_comm (l₁ := [(lD, dO.raw rK)])))
      refine JW 3 2 2 (fun b p => [(eI p.Span.From), (eI p.Span.To), (.msl 2 b 0 (List.length p.Rows))]) aP.Rows cE aS (fun _ _ _ => rfl) (fun _ _ => rfl) (fun _ _ => rfl) m los hl hO fun H hO => ?_
      replace hO : aI ⟨H0, [], (lm, rE rO (pmM los m)) :: (up (pmL shF los m) ++ [(lD, .raw rK)])⟩ H [(lo1, 1, [(eL aS t10)]), (lo2, 1, [(eI t11)]), (lo12, 1, [(.mp lm)])] := hO.oY List.perm_middle
      refine aL ?_
      refine aW aD 4 ?_
      refine oQ 2 lo12 1 0 (.mp lm) (.mp lm) [(.mp lm)] hO rfl ?_
      refine VS (mty := 63) hO ?_
      rw [OR hl]
      obtain ⟨c1, h0⟩ := bA h0
      refine PC 1 8 (lN m) (by kernel_rfl) (by kernel_rfl) c1 hO ?_
      intro lo15 H hO
      refine bG ?_
      refine bH [(10, (.lp lo1 0 0)), (11, (.lp lo2 0 0)), (12, (.lp lo12 0 0)), (15, (.msl 1 lo15 0 (List.length ([] : List Int))))] ?_
      refine aL ?_
      refine aL ?_
      refine aW aD 2 ?_
      refine oQ 2 lo12 1 0 (.mp lm) (.mp lm) [(.mp lm)] hO rfl ?_
      refine ZX (mty := 63) hO ?_
      intro li bs ck H hmb hmn hO
      refine eT ?_
      refine bH [(10, (.lp lo1 0 0)), (11, (.lp lo2 0 0)), (12, (.lp lo12 0 0)), (15, (.msl 1 lo15 0 (List.length ([] : List Int)))), (61, (.lp li 0 0))] ?_
      refine cA 3 ?_
      refine aAr (by kernel_rfl) (fun (s : List Int) (seen : List Nat) T H => ∃ lo15 : Nat, Has T [(10, (.lp lo1 0 0)), (11, (.lp lo2 0 0)), (12, (.lp lo12 0 0)), (15, (.msl 1 lo15 0 (List.length s))), (61, (.lp li 0 0))] ∧ aI ⟨H0, [], (li, OZ li lm ck seen) :: (lm, HZ rO (pmM los m) bs ck) :: (up (pmL shF los m) ++ [(lD, .raw rK)])⟩ H [(lo1, 1, [(eL aS t10)]), (lo2, 1, [(eI t11)]), (lo12, 1, [(.mp lm)]), (lo15, 1, List.map (eI) s)]) hmb (aCI hl h0) ⟨lo15, .eq (by kernel_rfl), hO⟩ ?_
      clear hO h0 c1
      rintro seen rem s T H ⟨lo15, hT, hO⟩ hleft hall
      refine bD (l := [(10, (.lp lo1 0 0)), (11, (.lp lo2 0 0)), (12, (.lp lo12 0 0)), (15, (.msl 1 lo15 0 (List.length s))), (61, (.lp li 0 0))]) hT ?_
      clear hT
      refine aL ?_
      refine aW aD 2 ?_
      refine aAy hmb hmn hleft hall hO (fun h0 => ?_) (fun mk mv bq rest out1 H h1 hlt hleft hall hat hO => ?_)
      · clear hall hleft
        unfold CL at h0
        refine bG ?_
        refine bH [(10, (.lp lo1 0 0)), (11, (.lp lo2 0 0)), (12, (.lp lo12 0 0)), (15, (.msl 1 lo15 0 (List.length s))), (63, (aE false))] ?_
        refine aL ?_
        refine nI (false) (fun hc => by cases hc) (fun hc => ?_)
        refine eR 3 ?_
        replace hO := hO.qY
        refine aAR hO fun H hO => ?_
        refine eP [(10, (.lp lo1 0 0)), (11, (.lp lo2 0 0)), (12, (.lp lo12 0 0)), (15, (.msl 1 lo15 0 (List.length s)))] ?_
        refine aG (aV (aV (bS (aF (?_)))))
        refine aL ?_
        refine aW aD 2 ?_
        refine bU 1 ?_
        obtain ⟨b1, hb1, h0⟩ := aZ h0
        refine zV [(lo1, 1, [(eL aS t10)]), (lo2, 1, [(eI t11)]), (lo12, 1, [(.mp lm)]), (lo15, 1, List.map (eI) b1)] 3 (EZ lo15 s _ hb1) hO ?_
        intro H hO hlen
        simp only [List.length_map] at hlen
        refine eT ?_
        rw [← hlen]
        refine bH [(10, (.lp lo1 0 0)), (11, (.lp lo2 0 0)), (12, (.lp lo12 0 0)), (15, (.msl 1 lo15 0 (List.length b1)))] ?_
        refine aL ?_
        refine aW aD 4 ?_
        refine bU 2 ?_
        obtain ⟨c2, h0⟩ := bA h0
        refine PC 3 40 (lN b1) (by kernel_rfl) (by kernel_rfl) c2 hO ?_
        intro lo17 H hO
        refine bG ?_
        refine bH [(10, (.lp lo1 0 0)), (11, (.lp lo2 0 0)), (12, (.lp lo12 0 0)), (15, (.msl 1 lo15 0 (List.length b1))), (17, (.msl 3 lo17 0 (List.length ([] : List aP))))] ?_
        refine aL ?_
        refine bV aD 3 [(10, (.lp lo1 0 0)), (11, (.lp lo2 0 0)), (12, (.lp lo12 0 0)), (15, (.msl 1 lo15 0 (List.length b1))), (17, (.msl 3 lo17 0 (List.length ([] : List aP)))), (75, (.msl 1 lo15 0 (List.length b1))), (76, (eI (lN b1))), (77, (eI (0 : Int)))] ?_
        obtain ⟨out, hlo, h0⟩ := aZ h0
        refine cA 5 ?_
        refine cR (by kernel_rfl) (fun (s : List aP × Int) T H => ∃ (lo17 : Nat) (los : List (Nat × Nat)), los.length = m.length ∧ Has T [(10, (.lp lo1 0 0)), (11, (.lp lo2 0 0)), (12, (.lp lo12 0 0)), (15, (.msl 1 lo15 0 (List.length b1))), (17, (.msl 3 lo17 0 (List.length s.1))), (75, (.msl 1 lo15 0 (List.length b1))), (76, (eI (lN b1))), (77, (eI s.2))] ∧ aI ⟨H0, [], (lm, rE rO (pmM los m)) :: (up (pmL shF los m) ++ [(lD, .raw rK)])⟩ H [(lo1, 1, [(eL aS t10)]), (lo2, 1, [(eI t11)]), (lo12, 1, [(.mp lm)]), (lo15, 1, List.map (eI) b1), (lo17, 3, List.map aS s.1)]) hlo ⟨lo17, los, hl, .eq (by kernel_rfl), hO⟩ ?_
        clear hO c2
        rintro k s out1 T H ⟨lo17, los, hl, hT, hO⟩ h1 ho
        obtain ⟨o17, i77⟩ := s
        replace h1 : rU m b1 (lN b1) o17 i77 = some out1 := h1
        dsimp only at hT
        refine bD hT ?_
        clear hT
        unfold rU at h1
        refine bV aD 1 [(10, (.lp lo1 0 0)), (11, (.lp lo2 0 0)), (12, (.lp lo12 0 0)), (15, (.msl 1 lo15 0 (List.length b1))), (17, (.msl 3 lo17 0 (List.length o17))), (75, (.msl 1 lo15 0 (List.length b1))), (76, (eI (lN b1))), (77, (eI i77)), (78, (aE (decide (i77 < (lN b1)))))] ?_
        refine aL ?_
        refine bJ h1 (fun h1 => ?_) (fun h1 => ?_)
        · refine bK ?_
          refine bH [(10, (.lp lo1 0 0)), (11, (.lp lo2 0 0)), (12, (.lp lo12 0 0)), (15, (.msl 1 lo15 0 (List.length b1))), (17, (.msl 3 lo17 0 (List.length o17))), (75, (.msl 1 lo15 0 (List.length b1))), (76, (eI (lN b1))), (77, (eI i77))] ?_
          refine aL ?_
          refine cA 6 ?_
          refine aL ?_
          obtain ⟨c3, h1⟩ := bA h1
          refine aW aD 3 ?_
          refine pZ 1 [0 ≤ i77 ∧ i77 < (lN b1)] ⟨c3, trivial⟩ ?_
          refine oQ 3 lo15 1 (0 + Int.toNat i77) (eI (gD b1 i77)) (eI (gD b1 i77)) (List.map (eI) b1) hO (cF c3) ?_
          refine bG ?_
          refine bH [(10, (.lp lo1 0 0)), (11, (.lp lo2 0 0)), (12, (.lp lo12 0 0)), (15, (.msl 1 lo15 0 (List.length b1))), (17, (.msl 3 lo17 0 (List.length o17))), (75, (.msl 1 lo15 0 (List.length b1))), (76, (eI (lN b1))), (77, (eI i77)), (19, (eI (gD b1 i77)))] ?_
          cases hg : fW m (gD b1 i77) with
          | none => rw [hg] at h1; cases h1
          | some p =>
            rw [hg] at h1
            obtain ⟨c4, h1⟩ := bA h1
            obtain ⟨a, bb, R, e1, hP, hO⟩ := aI.focus (sh := shF) (los := los) (m := m) (G := [(lD, .raw rK)]) hO hl hg
            replace hO : aI ⟨H0, [], (lm, rE rO (pmM los m)) :: (up R ++ [(lD, .raw rK)])⟩ _ [(a, 3, [(aS p)]), (lo1, 1, [(eL aS t10)]), (lo2, 1, [(eI t11)]), (lo12, 1, [(.mp lm)]), (lo15, 1, List.map (eI) b1), (lo17, 3, List.map aS o17)] := hO
            refine aW aD 9 ?_
            refine bU 1 ?_
            refine oQ 3 lo12 1 0 (.mp lm) (.mp lm) [(.mp lm)] hO rfl ?_
            refine bU 3 ?_
            refine TF (f := rO) (mty := 63) (ok := false) aD (gD b1 i77) none hO ?_
            rw [e1]
            refine bU 5 ?_
            refine oQ 0 a 3 0 (aS p) (aS p) [(aS p)] hO rfl ?_
            refine mR (xs := [(aS p)]) (k := 3) (by kernel_rfl) (by kernel_rfl) ?_
            refine pM (e := aS) o17 ([p]) 5 lo17 3 40 (eK [(aS p)]) (fun lo18 => [(a, 3, [(aS p)]), (lo1, 1, [(eL aS t10)]), (lo2, 1, [(eI t11)]), (lo12, 1, [(.mp lm)]), (lo15, 1, List.map (eI) b1), (lo18, 3, List.map aS (o17 ++ ([p])))]) (by kernel_rfl) (by kernel_rfl) hO (by kernel_rfl) (by kernel_rfl) c4 (fun _ => by kernel_rfl) ?_
            intro lo18 H hO
            refine bG ?_
            refine eP [(10, (.lp lo1 0 0)), (11, (.lp lo2 0 0)), (12, (.lp lo12 0 0)), (15, (.msl 1 lo15 0 (List.length b1))), (17, (.msl 3 lo18 0 (List.length (o17 ++ [p])))), (75, (.msl 1 lo15 0 (List.length b1))), (76, (eI (lN b1))), (77, (eI i77))] ?_
            refine aG (aY (aF (?_)))
            refine aW aD 2 ?_
            refine bG ?_
            obtain rfl := oI h1
            obtain ⟨los', hl', hO⟩ := aI.XS (sh := shF) (x := p) (b := bb) (G := [(lD, .raw rK)]) hO hP
            rw [QK hg] at hl' hO
            exact aG (⟨rfl, _, rfl, lo18, los', hl', .eq (by kernel_rfl), hO⟩)
        · refine eR 5 ?_
          obtain rfl := oI h1
          obtain rfl : _ = out := ho
          obtain rfl := oI h0
          refine eP [(10, (.lp lo1 0 0)), (11, (.lp lo2 0 0)), (12, (.lp lo12 0 0)), (17, (.msl 3 lo17 0 (List.length o17)))] ?_
          refine sG (en := aS) o17 3 4 17 3 lo17 (List.length o17) hO (by kernel_rfl) (by kernel_rfl) (by kernel_rfl) (L' := [(lo1, 1, [(eL aS t10)]), (lo2, 1, [(eI t11)]), (lo12, 1, [(.mp lm)]), (lo15, 1, List.map (eI) b1)]) (by kernel_rfl) ?_
          intro H hO
          refine aG (aV (aV (bS (aF (?_)))))
          refine eG [(10, (.lp lo1 0 0)), (11, (.lp lo2 0 0)), (12, (.lp lo12 0 0)), (17, (eL aS o17))] ?_
          refine aL ?_
          refine aW aD 3 ?_
          refine bU 1 ?_
          refine jW 0 lo1 1 0 (eL aS t10) (eL aS o17) [(eL aS t10)] [(lo1, 1, [(eL aS o17)]), (lo2, 1, [(eI t11)]), (lo12, 1, [(.mp lm)]), (lo15, 1, List.map (eI) b1)] hO rfl (by kernel_rfl) ?_
          intro H hO
          refine jW 1 lo2 1 0 (eI t11) (eI (0 : Int)) [(eI t11)] [(lo1, 1, [(eL aS o17)]), (lo2, 1, [(eI ((0 : Int)))]), (lo12, 1, [(.mp lm)]), (lo15, 1, List.map (eI) b1)] hO rfl (by kernel_rfl) ?_
          intro H hO
          refine eT ?_
          refine bH [(10, (.lp lo1 0 0)), (11, (.lp lo2 0 0))] ?_
          refine bL ?_
          replace hO := hO.oY (G' := (lD, .raw rK) :: ((lm, rE rO (pmM los m)) :: up (pmL shF los m))) (by
            refine (List.Perm.cons _ List.perm_append_comm).trans ?_
            exact List.Perm.swap _ _ _)
          have hD := (hO.gm 0 _ rfl).2
          replace hO := (hO.qA .dead).qY
          exact aG (QM1 (.inr rfl) hD (rs := [.cell 10 37, .cell 11 22]) (xs := [(eL aS o17), (eI (0 : Int))]) (x := (.tup [(eL aS o17), (eI (0 : Int))])) (by kernel_rfl) (iS (lo := lo1) (k := 1) (y := (eL aS o17)) (x := (eL aS o17)) 0 hO (by kernel_rfl) (by kernel_rfl) (by kernel_rfl) (by kernel_rfl) (iS (lo := lo2) (k := 1) (y := (eI (0 : Int))) (x := (eI (0 : Int))) 1 hO (by kernel_rfl) (by kernel_rfl) (by kernel_rfl) (by kernel_rfl) nK)) (by kernel_rfl) ⟨rfl, hO.ZD.out⟩)
      replace h1 : sE s mk = some out1 := h1
      unfold sE at h1
      refine bG ?_
      refine bH [(10, (.lp lo1 0 0)), (11, (.lp lo2 0 0)), (12, (.lp lo12 0 0)), (15, (.msl 1 lo15 0 (List.length s))), (61, (.lp li 0 0)), (63, (aE true))] ?_
      refine aL ?_
      refine nI (true) (fun hc => ?_) (fun hc => by cases hc)
      refine bK ?_
      refine bH [(10, (.lp lo1 0 0)), (11, (.lp lo2 0 0)), (12, (.lp lo12 0 0)), (15, (.msl 1 lo15 0 (List.length s))), (61, (.lp li 0 0))] ?_
      refine cA 4 ?_
      refine aL ?_
      refine aW aD 3 ?_
      refine ZN hat hO ?_
      refine bG ?_
      refine bH [(10, (.lp lo1 0 0)), (11, (.lp lo2 0 0)), (12, (.lp lo12 0 0)), (15, (.msl 1 lo15 0 (List.length s))), (61, (.lp li 0 0)), (16, (eI mk))] ?_
      refine aW aD 5 ?_
      refine bU 2 ?_
      refine mR (xs := [(eI mk)]) (k := 1) (by kernel_rfl) (by kernel_rfl) ?_
      obtain ⟨c5, h1⟩ := bA h1
      refine pM (e := (eI)) s ([mk]) 3 lo15 1 8 (eK [(eI mk)]) (fun lo16 => [(lo1, 1, [(eL aS t10)]), (lo2, 1, [(eI t11)]), (lo12, 1, [(.mp lm)]), (lo16, 1, List.map (eI) (s ++ ([mk])))]) (by kernel_rfl) (by kernel_rfl) hO (by kernel_rfl) (by kernel_rfl) c5 (fun _ => by kernel_rfl) ?_
      intro lo16 H hO
      refine bG ?_
      obtain rfl := oI h1
      exact aG (aY (⟨rfl, _, _, _, hlt, hleft, hall, lo16, .eq (by kernel_rfl), hO⟩))
    · obtain ⟨t10, t11, m⟩ := s
      dsimp only [Sum.elim_inr] at hi
      obtain ⟨los, hl, rfl⟩ := hi
      obtain rfl := oI h0
      obtain ⟨hlL, hO⟩ := oB hO
      refine ⟨_, _, hlL, (by intro e; cases e), ?_⟩
      refine bL ?_
      refine aG (bE (aO ?_))
      have hD := (hO.gm 0 _ rfl).2
      replace hO := (hO.qA .dead).qY
      exact QM1 (.inr rfl) hD (rs := [.cell 10 37, .cell 11 22]) (xs := [(eL aS t10), (eI t11)]) (x := (.tup [(eL aS t10), (eI t11)])) (by kernel_rfl) (iS (lo := lo1) (k := 1) (y := (eL aS t10)) (x := (eL aS t10)) 0 hO (by kernel_rfl) (by kernel_rfl) (by kernel_rfl) (by kernel_rfl) (iS (lo := lo2) (k := 1) (y := (eI t11)) (x := (eI t11)) 1 hO (by kernel_rfl) (by kernel_rfl) (by kernel_rfl) (by kernel_rfl) nK)) (by kernel_rfl) ⟨rfl, hO.ZD.out⟩

theorem HE  (r : Bool) (h0 : rW  = some r) : dJ Try.prog 11 [] (aE r) := by
  intro H0
  refine dH Try.func11 ?_
  have hO := aI.start H0
  unfold rW at h0
  refine bV aD 1 [] ?_
  refine aL ?_
  refine aW aD 6 ?_
  obtain ⟨x1, hx2, h0⟩ := aZ h0
  refine dQ (YU (10 : Int) (5 : Int) (12 : Int) _ hx2) hO ?_
  intro H hO
  refine bG ?_
  refine bH [(1, (eI x1.1)), (2, (eI x1.2))] ?_
  refine aL ?_
  refine aW aD 7 ?_
  refine bU 1 ?_
  obtain ⟨x4, hx5, h0⟩ := aZ h0
  refine dQ (SJ (10 : Int) (5 : Int) (aT.mk (3 : Int) (7 : Int)) (0 : Int) (100 : Int) _ hx5) hO ?_
  intro H hO
  refine bG ?_
  refine bZ [] [(3, (eL (eI) x4.1)), (4, (eI x4.2))] ?_
  refine aL ?_
  refine aW aD 13 ?_
  refine bU 1 ?_
  refine mR (xs := [(aB (aC.mk (1 : Int) (1 : Int) ByteArray.empty))]) (k := 3) (by kernel_rfl) (by kernel_rfl) ?_
  refine bU 4 ?_
  refine mR (xs := [(aB (aC.mk (1 : Int) (1 : Int) ByteArray.empty))]) (k := 3) (by kernel_rfl) (by kernel_rfl) ?_
  refine bU 6 ?_
  refine mR (xs := [(.agg [(eK [(aB (aC.mk (1 : Int) (1 : Int) ByteArray.empty))]), (eI (3 : Int)), (eI (1 : Int))]), (.agg [(eK [(aB (aC.mk (1 : Int) (1 : Int) ByteArray.empty))]), (eI (7 : Int)), (eI (-1 : Int))])]) (k := 3) (by kernel_rfl) (by kernel_rfl) ?_
  obtain ⟨x7, hx8, h0⟩ := aZ h0
  refine aEm 16 [(eK [(.agg [(eK [(aB (aC.mk (1 : Int) (1 : Int) ByteArray.empty))]), (eI (3 : Int)), (eI (1 : Int))]), (.agg [(eK [(aB (aC.mk (1 : Int) (1 : Int) ByteArray.empty))]), (eI (7 : Int)), (eI (-1 : Int))])]), (eI (10 : Int)), (eI (5 : Int)), (eI (0 : Int)), (eI (100 : Int))] (.tup [(eL aS x7.1), (eI x7.2)]) (dJ.sub (KN ([aR.mk ([aC.mk (1 : Int) (1 : Int) ByteArray.empty]) (3 : Int) (1 : Int), aR.mk ([aC.mk (1 : Int) (1 : Int) ByteArray.empty]) (7 : Int) (-1 : Int)]) (10 : Int) (5 : Int) (0 : Int) (100 : Int) _ hx8) ⟨(aC6 (e := aQ) (xs := [(.agg [(eK [(aB (aC.mk (1 : Int) (1 : Int) ByteArray.empty))]), (eI (3 : Int)), (eI (1 : Int))]), (.agg [(eK [(aB (aC.mk (1 : Int) (1 : Int) ByteArray.empty))]), (eI (7 : Int)), (eI (-1 : Int))])]) (l := [aR.mk ([aC.mk (1 : Int) (1 : Int) ByteArray.empty]) (3 : Int) (1 : Int), aR.mk ([aC.mk (1 : Int) (1 : Int) ByteArray.empty]) (7 : Int) (-1 : Int)]) ⟨(TP (xs := [(eK [(aB (aC.mk (1 : Int) (1 : Int) ByteArray.empty))]), (eI (3 : Int)), (eI (1 : Int))]) (ys := [(eL aB ([aC.mk (1 : Int) (1 : Int) ByteArray.empty])), (eI (3 : Int)), (eI (1 : Int))]) ⟨LN (l := [aC.mk (1 : Int) (1 : Int) ByteArray.empty]), aN.refl _, aN.refl _, trivial⟩), (TP (xs := [(eK [(aB (aC.mk (1 : Int) (1 : Int) ByteArray.empty))]), (eI (7 : Int)), (eI (-1 : Int))]) (ys := [(eL aB ([aC.mk (1 : Int) (1 : Int) ByteArray.empty])), (eI (7 : Int)), (eI (-1 : Int))]) ⟨LN (l := [aC.mk (1 : Int) (1 : Int) ByteArray.empty]), aN.refl _, aN.refl _, trivial⟩), trivial⟩ rfl), aN.refl _, aN.refl _, aN.refl _, aN.refl _, trivial⟩) hO ?_
  intro H hO
  refine bG ?_
  refine bZ [] [(5, (eL aS x7.1)), (6, (eI x7.2))] ?_
  refine aL ?_
  refine aW aD 47 ?_
  obtain ⟨c10, h0⟩ := bA h0
  obtain ⟨c11, h0⟩ := bA h0
  obtain ⟨c12, h0⟩ := bA h0
  refine oJ [((((((decide (x1.1 = (5 : Int))) && (decide (x1.2 = (0 : Int)))) && (decide (x4.2 = (0 : Int)))) && (decide ((lN x4.1) = (2 : Int))))) = true → 0 ≤ (1 : Int) ∧ (1 : Int) < (lN x4.1)), (((((((((decide (x1.1 = (5 : Int))) && (decide (x1.2 = (0 : Int)))) && (decide (x4.2 = (0 : Int)))) && (decide ((lN x4.1) = (2 : Int)))) && (decide ((gD x4.1 (1 : Int)) = (5 : Int)))) && (decide (x7.2 = (0 : Int)))) && (decide ((lN x7.1) = (2 : Int))))) = true → 0 ≤ (1 : Int) ∧ (1 : Int) < (lN x7.1)), ((((((((((decide (x1.1 = (5 : Int))) && (decide (x1.2 = (0 : Int)))) && (decide (x4.2 = (0 : Int)))) && (decide ((lN x4.1) = (2 : Int)))) && (decide ((gD x4.1 (1 : Int)) = (5 : Int)))) && (decide (x7.2 = (0 : Int)))) && (decide ((lN x7.1) = (2 : Int)))) && ((decide ((((gD x7.1 (1 : Int)).Span).From) = ((aT.mk (5 : Int) (15 : Int)).From))) && ((decide ((((gD x7.1 (1 : Int)).Span).To) = ((aT.mk (5 : Int) (15 : Int)).To))) && true)))) = true → 0 ≤ (1 : Int) ∧ (1 : Int) < (lN x7.1))] ⟨c10, c11, c12, trivial⟩ ?_
  refine bH [(0, (aE (((((((((decide (x1.1 = (5 : Int))) && (decide (x1.2 = (0 : Int)))) && (decide (x4.2 = (0 : Int)))) && (decide ((lN x4.1) = (2 : Int)))) && (decide ((gD x4.1 (1 : Int)) = (5 : Int)))) && (decide (x7.2 = (0 : Int)))) && (decide ((lN x7.1) = (2 : Int)))) && ((decide ((((gD x7.1 (1 : Int)).Span).From) = ((aT.mk (5 : Int) (15 : Int)).From))) && ((decide ((((gD x7.1 (1 : Int)).Span).To) = ((aT.mk (5 : Int) (15 : Int)).To))) && true))) && (decide ((lN ((gD x7.1 (1 : Int)).Rows)) = (1 : Int))))))] ?_
  refine bL ?_
  obtain rfl := oI h0
  exact aG (Q_r hO)

theorem PF (cH : Int) (hop1 : Int) (s2 : aT) (bN : Int) (bI : Int) (r : ((List Int) × Int)) (h0 : pI cH hop1 s2 bN bI = some r) : dJ Try.prog 13 [(eI cH), (eI hop1), (bB s2), (eI bN), (eI bI)] (.tup [(eL (eI) r.1), (eI r.2)]) := by
  intro H0
  refine dH Try.func13 ?_
  have hO := aI.start H0
  unfold pI at h0
  refine aL ?_
  refine aW aD 3 ?_
  refine gC 2 (bB s2) (by kernel_rfl) (by kernel_rfl) ?_
  refine bG ?_
  refine bZ [2] [(7, (.rp (bB s2)))] ?_
  refine aL ?_
  refine aL ?_
  refine aW aD 4 ?_
  refine bU 2 ?_
  obtain ⟨x1, hx2, h0⟩ := aZ h0
  refine dQ (KC cH hop1 _ hx2) hO ?_
  intro H hO
  refine bG ?_
  refine bZ [] [(18, (aE (!x1)))] ?_
  refine bJ h0 (fun h0 => ?_) (fun h0 => ?_)
  · refine bV aD 2 [(10, (.sl true 0 (fun _ => .bad))), (11, (eI (2 : Int)))] ?_
    refine bL ?_
    refine dS (l := [(10, (eL (eI) ([]))), (11, (eI (2 : Int)))]) ⟨[(10, (.sl true 0 (fun _ => .bad))), (11, (eI (2 : Int)))], by kernel_rfl, rfl, ⟨jT, aN.refl _, trivial⟩⟩ ?_
    obtain rfl := oI h0
    exact aG (aO (Q_r hO))
  refine bK ?_
  refine bH [(0, (eI cH)), (1, (eI hop1)), (3, (eI bN)), (4, (eI bI)), (7, (.rp (bB s2)))] ?_
  refine aL ?_
  refine aL ?_
  refine aW aD 8 ?_
  refine bU 1 ?_
  obtain ⟨x5, hx6, h0⟩ := aZ h0
  refine dQ (zN bN _ hx6) hO ?_
  intro H hO
  refine bU 5 ?_
  obtain ⟨x8, hx9, h0⟩ := aZ h0
  refine lX [(22, false)] 28 [(eI bI)] (aE x8) (!(!x5)) (by kernel_rfl) (by kernel_rfl) (by kernel_rfl) (fun hb10 => (zN bI _ (gV hx9 hb10))) hO ?_
  intro H hO
  refine bG ?_
  refine bZ [] [(26, (aE ((!x5) || (!x8))))] ?_
  refine bJ h0 (fun h0 => ?_) (fun h0 => ?_)
  · refine bV aD 2 [(10, (.sl true 0 (fun _ => .bad))), (11, (eI (13 : Int)))] ?_
    refine bL ?_
    refine dS (l := [(10, (eL (eI) ([]))), (11, (eI (13 : Int)))]) ⟨[(10, (.sl true 0 (fun _ => .bad))), (11, (eI (13 : Int)))], by kernel_rfl, rfl, ⟨jT, aN.refl _, trivial⟩⟩ ?_
    obtain rfl := oI h0
    exact aG (aO (Q_r hO))
  refine bK ?_
  refine bH [(0, (eI cH)), (1, (eI hop1)), (3, (eI bN)), (4, (eI bI)), (7, (.rp (bB s2)))] ?_
  refine aL ?_
  refine aX aD 15 [] [(41, (aE (((decide (s2.From < (-1 : Int))) || (decide (s2.To ≤ s2.From))) || (decide ((1125899906842624 : Int) < s2.To)))))] ?_
  refine bJ h0 (fun h0 => ?_) (fun h0 => ?_)
  · refine bV aD 2 [(10, (.sl true 0 (fun _ => .bad))), (11, (eI (14 : Int)))] ?_
    refine bL ?_
    refine dS (l := [(10, (eL (eI) ([]))), (11, (eI (14 : Int)))]) ⟨[(10, (.sl true 0 (fun _ => .bad))), (11, (eI (14 : Int)))], by kernel_rfl, rfl, ⟨jT, aN.refl _, trivial⟩⟩ ?_
    obtain rfl := oI h0
    exact aG (aO (Q_r hO))
  refine bK ?_
  refine bH [(0, (eI cH)), (1, (eI hop1)), (3, (eI bN)), (4, (eI bI)), (7, (.rp (bB s2)))] ?_
  refine aX aD 5 [] [(12, (eI (wR (s2.From - cH))))] ?_
  refine dP (fun T H => ∃ s7 : aT, ∃ EC : Int, Has T [(0, (eI cH)), (1, (eI hop1)), (3, (eI bN)), (4, (eI bI)), (7, (.rp (bB s7))), (12, (eI EC))] ∧ aI ⟨H0, [], []⟩ H [] ∧ oO cH hop1 bN bI s7 EC = some r) ?_ ?_
  · clear hO h0
    rintro T H ⟨s7, EC, hT, hO, h0⟩
    refine bD hT ?_
    clear hT
    unfold oO at h0
    refine aL ?_
    refine aW aD 2 ?_
    refine mR (xs := []) (k := 1) (by kernel_rfl) (by kernel_rfl) ?_
    refine bG ?_
    refine bZ [] [(13, (.sl true 0 (fun _ => .bad)))] ?_
    refine dP (fun T H => ∃ fX : List Int, ∃ lo13 : Nat, Has T [(13, (.msl 1 lo13 0 (List.length fX)))] ∧ aI ⟨H0, [], []⟩ H [(lo13, 1, List.map (eI) fX)] ∧ qR fX = some r) ?_ ?_
    · clear hO h0
      rintro T H ⟨fX, lo13, hT, hO, h0⟩
      refine bD hT ?_
      clear hT
      unfold qR at h0
      refine bV aD 3 [(10, (.msl 1 lo13 0 (List.length fX))), (11, (eI (0 : Int)))] ?_
      refine bL ?_
      refine eP [(10, (.msl 1 lo13 0 (List.length fX))), (11, (eI (0 : Int)))] ?_
      refine sG (en := (eI)) fX 0 0 10 1 lo13 (List.length fX) hO (by kernel_rfl) (by kernel_rfl) (by kernel_rfl) (L' := []) (by kernel_rfl) ?_
      intro H14 hO
      obtain rfl := oI h0
      exact aG (Q_r hO)
    refine aL ?_
    refine aW aD 6 ?_
    obtain ⟨c15, h0⟩ := bA h0
    refine oJ [hop1 ≠ 0] ⟨c15, trivial⟩ ?_
    refine bZ [12] [(14, (eI (wR ((wR (Int.tdiv EC hop1)) * hop1))))] ?_
    refine cA 0 ?_
    refine eG [(0, (eI cH)), (1, (eI hop1)), (3, (eI bN)), (4, (eI bI)), (7, (.rp (bB s7))), (13, (.sl true 0 (fun _ => .bad))), (14, (eI (wR ((wR (Int.tdiv EC hop1)) * hop1))))] ?_
    refine CU (el := (fun _ => .bad)) 5 13 1 hO (by kernel_rfl) ?_
    intro lo27 H28 hO
    refine dY (fun T H => ∃ fX : List Int, ∃ t14 : Int, ∃ lo17 : Nat, Has T [(0, (eI cH)), (1, (eI hop1)), (3, (eI bN)), (4, (eI bI)), (7, (.rp (bB s7))), (13, (.msl 1 lo17 0 (List.length fX))), (14, (eI t14))] ∧ aI ⟨H0, [], []⟩ H [(lo17, 1, List.map (eI) fX)] ∧ uM cH hop1 bN bI s7 fX t14 = some r) ?_ ⟨([] : List Int), wR ((wR (Int.tdiv EC hop1)) * hop1), lo27, .eq (by kernel_rfl), hO, h0⟩
    clear hO h0
    rintro T H ⟨fX, t14, lo17, hT, hO, h0⟩
    refine bD hT ?_
    clear hT
    unfold uM at h0
    obtain ⟨rr0, hl0, h0⟩ := aZ h0
    refine cR (by kernel_rfl) (fun (s : List Int × Int) T H => ∃ lo17 : Nat, Has T [(0, (eI cH)), (1, (eI hop1)), (3, (eI bN)), (4, (eI bI)), (7, (.rp (bB s7))), (13, (.msl 1 lo17 0 (List.length s.1))), (14, (eI s.2))] ∧ aI ⟨H0, [], []⟩ H [(lo17, 1, List.map (eI) s.1)]) hl0 ⟨lo17, .eq (by kernel_rfl), hO⟩ ?_
    clear hO
    rintro k0 s out1 T H ⟨lo17, hT, hO⟩ h1 ho0
    obtain ⟨fX, t14⟩ := s
    replace h1 : eV cH hop1 bN bI s7 fX t14 = some out1 := h1
    try dsimp only at hT
    refine bD hT ?_
    clear hT
    unfold eV at h1
    refine aL ?_
    refine aX aD 13 [] [(68, (aE (((decide (t14 < bI)) && (decide (t14 < s7.To))) && (decide (t14 < (1125899906842624 : Int))))))] ?_
    refine bJ h1 (fun h1 => ?_) (fun h1 => ?_)
    · refine bK ?_
      refine bH [(0, (eI cH)), (1, (eI hop1)), (3, (eI bN)), (4, (eI bI)), (7, (.rp (bB s7))), (13, (.msl 1 lo17 0 (List.length fX))), (14, (eI t14))] ?_
      refine aL ?_
      refine cA 1 ?_
      refine dP (fun T H => ∃ fX : List Int, ∃ lo19 : Nat, Has T [(0, (eI cH)), (1, (eI hop1)), (3, (eI bN)), (4, (eI bI)), (7, (.rp (bB s7))), (13, (.msl 1 lo19 0 (List.length fX))), (14, (eI t14))] ∧ aI ⟨H0, [], []⟩ H [(lo19, 1, List.map (eI) fX)] ∧ mV cH hop1 bN bI s7 fX t14 = some out1) ?_ ?_
      · clear hO h1
        rintro T H ⟨fX, lo19, hT, hO, h1⟩
        refine bD hT ?_
        clear hT
        unfold mV at h1
        refine aX aD 3 [] [(89, (aE (decide ((1024 : Int) < (lN fX)))))] ?_
        refine bJ h1 (fun h1 => ?_) (fun h1 => ?_)
        · refine aL ?_
          refine aW aD 2 ?_
          refine bG ?_
          refine eP [(10, (.sl true 0 (fun _ => .bad))), (11, (eI (7 : Int)))] ?_
          replace hO := hO.pick (L' := []) [] (by decide) (by kernel_rfl)
          refine aG (aF (?_))
          refine bL ?_
          refine dS (l := [(10, (eL (eI) ([]))), (11, (eI (7 : Int)))]) ⟨[(10, (.sl true 0 (fun _ => .bad))), (11, (eI (7 : Int)))], by kernel_rfl, rfl, ⟨jT, aN.refl _, trivial⟩⟩ ?_
          obtain rfl := oI h1
          obtain rfl : _ = rr0 := ho0
          replace h0 : some ([], (7 : Int)) = some r := h0
          obtain rfl := oI h0
          exact aG (bE (aO (aO (bE (aO (Q_r hO))))))
        refine bK ?_
        refine eP [(0, (eI cH)), (1, (eI hop1)), (3, (eI bN)), (4, (eI bI)), (7, (.rp (bB s7))), (13, (.msl 1 lo19 0 (List.length fX))), (14, (eI t14))] ?_
        refine aG (aY (aF (?_)))
        refine aW aD 4 ?_
        refine bG ?_
        exact aG (aF (⟨rfl, _, (oI h1).symm, _, .eq (by kernel_rfl), hO⟩))
      refine aL ?_
      obtain ⟨x21, hx22, h1⟩ := aZ h1
      refine eS (eU [80]) aD 11 ?_
      refine mB (K := fun T H => Has (lift T) [(0, (eI cH)), (1, (eI hop1)), (3, (eI bN)), (4, (eI bI)), (7, (.rp (bB s7))), (13, (.msl 1 lo17 0 (List.length fX))), (14, (eI t14)), (82, (aE ((decide (bN ≤ t14)) && (decide (s7.From < x21)))))] ∧ aI ⟨H0, [], []⟩ H [(lo17, 1, List.map (eI) fX)]) ?_ ?_
      · refine jZ 4 ?_
        refine kB (t := 75) (e := decide (bN ≤ t14)) (by kernel_rfl) (fun hg23 => ?_) (fun hg23 => ?_)
        · refine jZ 6 ?_
          refine lZ 29 [(eI cH), (eI t14)] (eI x21) (by kernel_rfl) (by kernel_rfl) (KK cH t14 _ (gV hx22 hg23)) hO ?_
          intro H hO
          refine gK ?_
          exact ⟨⟨[(0, (eI cH)), (1, (eI hop1)), (3, (eI bN)), (4, (eI bI)), (7, (.rp (bB s7))), (13, (.msl 1 lo17 0 (List.length fX))), (14, (eI t14)), (82, (aE (decide (s7.From < x21))))], by kernel_rfl, rfl, ⟨aN.refl _, aN.refl _, aN.refl _, aN.refl _, aN.refl _, aN.refl _, aN.refl _, aN.eq (congrArg aE (gY hg23 rfl).symm), trivial⟩⟩, hO⟩
        refine gK ?_
        exact ⟨⟨[(0, (eI cH)), (1, (eI hop1)), (3, (eI bN)), (4, (eI bI)), (7, (.rp (bB s7))), (13, (.msl 1 lo17 0 (List.length fX))), (14, (eI t14)), (82, (aE false))], by kernel_rfl, rfl, ⟨aN.refl _, aN.refl _, aN.refl _, aN.refl _, aN.refl _, aN.refl _, aN.refl _, aN.eq (congrArg aE (gY hg23 rfl).symm), trivial⟩⟩, hO⟩
      · rintro T H ⟨hT, hO⟩
        refine dS hT ?_
        clear hT
        refine aG (aF ?_)
        refine bJ h1 (fun h1 => ?_) (fun h1 => ?_)
        · refine aW aD 5 ?_
          refine bU 2 ?_
          refine mR (xs := [(eI t14)]) (k := 1) (by kernel_rfl) (by kernel_rfl) ?_
          obtain ⟨c26, h1⟩ := bA h1
          refine pM (e := (eI)) fX ([t14]) 0 lo17 1 8 (eK [(eI t14)]) (fun lo25 => [(lo25, 1, List.map (eI) (fX ++ ([t14])))]) (by kernel_rfl) (by kernel_rfl) hO (by kernel_rfl) (by kernel_rfl) c26 (fun _ => by kernel_rfl) ?_
          intro lo25 H hO
          refine bG ?_
          exact aG (aF (⟨rfl, _, _, .eq (by kernel_rfl), hO, h1⟩))
        refine bK ?_
        exact aG (aF (⟨rfl, _, _, .eq (by kernel_rfl), hO, h1⟩))
    refine eR 0 ?_
    obtain rfl := oI h1
    obtain rfl : _ = rr0 := ho0
    replace h0 : qR fX = some r := h0
    exact aG (aV (aV (bS (aF (⟨rfl, _, _, .eq (by kernel_rfl), hO, h0⟩)))))
  refine aX aD 3 [] [(48, (aE (decide ((wR (s2.From - cH)) < bN))))] ?_
  refine bJ h0 (fun h0 => ?_) (fun h0 => ?_)
  · refine aW aD 2 ?_
    refine bG ?_
    exact aG (aF (⟨rfl, _, _, .eq (by kernel_rfl), hO, h0⟩))
  refine bK ?_
  exact aG (aF (⟨rfl, _, _, .eq (by kernel_rfl), hO, h0⟩))

theorem WT (l0 : (List aR)) (r : Bool) (h0 : xN l0 = some r) : dJ Try.prog 15 [(eL aQ l0)] (aE r) := by
  intro H0
  refine dH Try.func15 ?_
  have hO := aI.start H0
  unfold xN at h0
  refine aX aD 1 [] [] ?_
  refine aX aD 3 [] [(3, (eI (lN l0)))] ?_
  refine dP (fun T H => ∃ n3 : Int, Has T [(3, (eI n3))] ∧ aI ⟨H0, [], []⟩ H [] ∧ yX n3 = some r) ?_ ?_
  · clear hO h0
    rintro T H ⟨n3, hT, hO, h0⟩
    refine bD hT ?_
    clear hT
    unfold yX at h0
    refine bV aD 3 [(2, (aE (decide (n3 ≤ (60 : Int)))))] ?_
    refine bL ?_
    obtain rfl := oI h0
    exact aG (Q_r hO)
  refine aX aD 1 [] [(4, (eI (0 : Int)))] ?_
  refine cA 0 ?_
  refine eG [(0, (eL aQ l0)), (3, (eI (lN l0))), (4, (eI (0 : Int)))] ?_
  refine dY (fun T H => ∃ n3 : Int, ∃ i4 : Int, Has T [(0, (eL aQ l0)), (3, (eI n3)), (4, (eI i4))] ∧ aI ⟨H0, [], []⟩ H [] ∧ yS l0 n3 i4 = some r) ?_ ⟨(lN l0), (0 : Int), .eq (by kernel_rfl), hO, h0⟩
  clear hO h0
  rintro T H ⟨n3, i4, hT, hO, h0⟩
  refine bD hT ?_
  clear hT
  unfold yS at h0
  obtain ⟨rr0, hl0, h0⟩ := aZ h0
  refine cR (by kernel_rfl) (fun (s : Int) T H => Has T [(0, (eL aQ l0)), (3, (eI n3)), (4, (eI s))] ∧ aI ⟨H0, [], []⟩ H []) hl0 ⟨.eq (by kernel_rfl), hO⟩ ?_
  clear hO
  rintro k0 s out1 T H ⟨hT, hO⟩ h1 ho0
  obtain ⟨i4, rfl⟩ : ∃ x, x = s := ⟨_, rfl⟩
  replace h1 : nA l0 n3 i4 = some out1 := h1
  refine bD hT ?_
  clear hT
  unfold nA at h1
  refine aL ?_
  refine aX aD 8 [] [(14, (aE ((decide (i4 < (lN l0))) && (decide (n3 ≤ (60 : Int))))))] ?_
  refine bJ h1 (fun h1 => ?_) (fun h1 => ?_)
  · refine bK ?_
    refine bH [(0, (eL aQ l0)), (3, (eI n3)), (4, (eI i4))] ?_
    refine aL ?_
    refine cA 1 ?_
    refine aL ?_
    refine aW aD 6 ?_
    obtain ⟨c2, h1⟩ := bA h1
    refine oJ [0 ≤ i4 ∧ i4 < (lN l0)] ⟨c2, trivial⟩ ?_
    refine bZ [] [(22, (aE (decide ((10 : Int) < ((gD l0 i4).Net)))))] ?_
    refine bJ h1 (fun h1 => ?_) (fun h1 => ?_)
    · refine bV aD 1 [(2, (aE false))] ?_
      refine bL ?_
      obtain rfl := oI h1
      obtain rfl : _ = rr0 := ho0
      replace h0 : some false = some r := h0
      obtain rfl := oI h0
      exact aG (bE (aO (aO (bE (aO (Q_r hO))))))
    refine bK ?_
    refine eP [(0, (eL aQ l0)), (3, (eI n3)), (4, (eI i4))] ?_
    refine aG (aY (aF (?_)))
    refine aW aD 3 ?_
    refine bG ?_
    exact aG (aF (⟨rfl, _, (oI h1).symm, .eq (by kernel_rfl), hO⟩))
  refine eR 0 ?_
  obtain rfl := oI h1
  obtain rfl : _ = rr0 := ho0
  replace h0 : yX n3 = some r := h0
  exact aG (aV (aV (bS (aF (⟨rfl, _, .eq (by kernel_rfl), hO, h0⟩)))))

theorem EP (v0 : aC) (r : Bool) (h0 : rA v0 = some r) : dJ Try.prog 89 [(aB v0)] (aE r) := by
  intro H0
  refine dH Try.func89 ?_
  have hO := aI.start H0
  unfold rA at h0
  refine aL ?_
  refine aW aD 2 ?_
  refine gC 3 (aB v0) (by kernel_rfl) (by kernel_rfl) ?_
  refine bG ?_
  refine bH [(1, (.rp (aB v0)))] ?_
  refine aL ?_
  refine aX aD 3 [] [(5, (aE (decide (v0.Kind = (1 : Int)))))] ?_
  refine bJ h0 (fun h0 => ?_) (fun h0 => ?_)
  · refine bV aD 4 [(2, (aE (oA v0.Text (⟨#[]⟩ : ByteArray))))] ?_
    refine bL ?_
    obtain rfl := oI h0
    exact aG (aO (Q_r hO))
  refine bK ?_
  refine bH [(1, (.rp (aB v0)))] ?_
  refine bV aD 15 [(2, (aE (((decide (v0.Kind = (2 : Int))) && (decide (v0.Num = (0 : Int)))) && (decide (((ByteArray.size v0.Text : Nat) : Int) ≤ (64 : Int))))))] ?_
  refine bL ?_
  obtain rfl := oI h0
  exact aG (Q_r hO)

theorem ER (r0 : (List aC)) (r : Bool) (h0 : rF r0 = some r) : dJ Try.prog 63 [(eL aB r0)] (aE r) := by
  intro H0
  refine dH Try.func63 ?_
  have hO := aI.start H0
  unfold rF at h0
  refine aX aD 1 [] [] ?_
  refine dP (fun T H => Has T [(0, (eL aB r0))] ∧ aI ⟨H0, [], []⟩ H [] ∧ rN r0 = some r) ?_ ?_
  · clear hO h0
    rintro T H ⟨hT, hO, h0⟩
    refine bD hT ?_
    clear hT
    unfold rN at h0
    refine bV aD 4 [(2, (aE (decide ((lN r0) ≤ (8 : Int)))))] ?_
    refine bL ?_
    obtain rfl := oI h0
    exact aG (Q_r hO)
  refine aX aD 1 [] [(3, (eI (0 : Int)))] ?_
  refine cA 0 ?_
  refine eG [(0, (eL aB r0)), (3, (eI (0 : Int)))] ?_
  refine dY (fun T H => ∃ i3 : Int, Has T [(0, (eL aB r0)), (3, (eI i3))] ∧ aI ⟨H0, [], []⟩ H [] ∧ yV r0 i3 = some r) ?_ ⟨(0 : Int), .eq (by kernel_rfl), hO, h0⟩
  clear hO h0
  rintro T H ⟨i3, hT, hO, h0⟩
  refine bD hT ?_
  clear hT
  unfold yV at h0
  obtain ⟨rr0, hl0, h0⟩ := aZ h0
  refine cR (by kernel_rfl) (fun (s : Int) T H => Has T [(0, (eL aB r0)), (3, (eI s))] ∧ aI ⟨H0, [], []⟩ H []) hl0 ⟨.eq (by kernel_rfl), hO⟩ ?_
  clear hO
  rintro k0 s out1 T H ⟨hT, hO⟩ h1 ho0
  obtain ⟨i3, rfl⟩ : ∃ x, x = s := ⟨_, rfl⟩
  replace h1 : pP r0 i3 = some out1 := h1
  refine bD hT ?_
  clear hT
  unfold pP at h1
  refine aL ?_
  refine aX aD 8 [] [(11, (aE ((decide (i3 < (lN r0))) && (decide (i3 < (9 : Int))))))] ?_
  refine bJ h1 (fun h1 => ?_) (fun h1 => ?_)
  · refine bK ?_
    refine bH [(0, (eL aB r0)), (3, (eI i3))] ?_
    refine aL ?_
    refine cA 1 ?_
    refine aL ?_
    refine aW aD 6 ?_
    obtain ⟨c2, h1⟩ := bA h1
    refine pZ 4 [0 ≤ i3 ∧ i3 < (lN r0)] ⟨c2, trivial⟩ ?_
    obtain ⟨x3, hx4, h1⟩ := aZ h1
    refine dQ (EP (gD r0 i3) _ hx4) hO ?_
    intro H hO
    refine bG ?_
    refine bZ [] [(19, (aE (!x3)))] ?_
    refine bJ h1 (fun h1 => ?_) (fun h1 => ?_)
    · refine bV aD 1 [(2, (aE false))] ?_
      refine bL ?_
      obtain rfl := oI h1
      obtain rfl : _ = rr0 := ho0
      replace h0 : some false = some r := h0
      obtain rfl := oI h0
      exact aG (bE (aO (aO (bE (aO (Q_r hO))))))
    refine bK ?_
    refine eP [(0, (eL aB r0)), (3, (eI i3))] ?_
    refine aG (aY (aF (?_)))
    refine aW aD 3 ?_
    refine bG ?_
    exact aG (aF (⟨rfl, _, (oI h1).symm, .eq (by kernel_rfl), hO⟩))
  refine eR 0 ?_
  obtain rfl := oI h1
  obtain rfl : _ = rr0 := ho0
  replace h0 : rN r0 = some r := h0
  exact aG (aV (aV (bS (aF (⟨rfl, .eq (by kernel_rfl), hO, h0⟩)))))

theorem KI (f0 : (List aH)) (r : Bool) (h0 : qZ f0 = some r) : dJ Try.prog 64 [(eL aK f0)] (aE r) := by
  intro H0
  refine dH Try.func64 ?_
  have hO := aI.start H0
  unfold qZ at h0
  refine aX aD 1 [] [] ?_
  refine aL ?_
  refine aX aD 3 [] [(6, (aE (decide ((1024 : Int) < (lN f0)))))] ?_
  refine bJ h0 (fun h0 => ?_) (fun h0 => ?_)
  · refine bV aD 1 [(2, (aE false))] ?_
    refine bL ?_
    obtain rfl := oI h0
    exact aG (aO (Q_r hO))
  refine bK ?_
  refine bH [(0, (eL aK f0))] ?_
  refine dP (fun T H => Has T [] ∧ aI ⟨H0, [], []⟩ H [] ∧ vP  = some r) ?_ ?_
  · clear hO h0
    rintro T H ⟨hT, hO, h0⟩
    refine bD hT ?_
    clear hT
    unfold vP at h0
    refine bV aD 1 [(2, (aE true))] ?_
    refine bL ?_
    obtain rfl := oI h0
    exact aG (Q_r hO)
  refine aX aD 1 [] [(3, (eI (0 : Int)))] ?_
  refine cA 0 ?_
  refine eG [(0, (eL aK f0)), (3, (eI (0 : Int)))] ?_
  refine dY (fun T H => ∃ i3 : Int, Has T [(0, (eL aK f0)), (3, (eI i3))] ∧ aI ⟨H0, [], []⟩ H [] ∧ yW f0 i3 = some r) ?_ ⟨(0 : Int), .eq (by kernel_rfl), hO, h0⟩
  clear hO h0
  rintro T H ⟨i3, hT, hO, h0⟩
  refine bD hT ?_
  clear hT
  unfold yW at h0
  obtain ⟨rr0, hl0, h0⟩ := aZ h0
  refine cR (by kernel_rfl) (fun (s : Int) T H => Has T [(0, (eL aK f0)), (3, (eI s))] ∧ aI ⟨H0, [], []⟩ H []) hl0 ⟨.eq (by kernel_rfl), hO⟩ ?_
  clear hO
  rintro k0 s out1 T H ⟨hT, hO⟩ h1 ho0
  obtain ⟨i3, rfl⟩ : ∃ x, x = s := ⟨_, rfl⟩
  replace h1 : mA f0 i3 = some out1 := h1
  refine bD hT ?_
  clear hT
  unfold mA at h1
  refine aL ?_
  refine aX aD 4 [] [(10, (aE (decide (i3 < (lN f0)))))] ?_
  refine bJ h1 (fun h1 => ?_) (fun h1 => ?_)
  · refine bK ?_
    refine bH [(0, (eL aK f0)), (3, (eI i3))] ?_
    refine aL ?_
    refine cA 1 ?_
    refine aL ?_
    refine aL ?_
    refine aW aD 38 ?_
    obtain ⟨c3, h1⟩ := bA h1
    obtain ⟨c4, h1⟩ := bA h1
    obtain ⟨c5, h1⟩ := bA h1
    obtain ⟨c6, h1⟩ := bA h1
    obtain ⟨c7, h1⟩ := bA h1
    refine oJ [0 ≤ i3 ∧ i3 < (lN f0), (((!(decide (((gD f0 i3).At) < (-1 : Int))))) = true → 0 ≤ i3 ∧ i3 < (lN f0)), (((!((decide (((gD f0 i3).At) < (-1 : Int))) || (decide ((1125899906842624 : Int) ≤ ((gD f0 i3).At)))))) = true → 0 ≤ i3 ∧ i3 < (lN f0)), (((!(((decide (((gD f0 i3).At) < (-1 : Int))) || (decide ((1125899906842624 : Int) ≤ ((gD f0 i3).At)))) || (decide (((gD f0 i3).Net) = (0 : Int)))))) = true → 0 ≤ i3 ∧ i3 < (lN f0)), (((!((((decide (((gD f0 i3).At) < (-1 : Int))) || (decide ((1125899906842624 : Int) ≤ ((gD f0 i3).At)))) || (decide (((gD f0 i3).Net) = (0 : Int)))) || (decide ((1048576 : Int) < ((gD f0 i3).Net)))))) = true → 0 ≤ i3 ∧ i3 < (lN f0))] ⟨c3, c4, c5, c6, c7, trivial⟩ ?_
    refine bZ [] [(50, (aE (((((decide (((gD f0 i3).At) < (-1 : Int))) || (decide ((1125899906842624 : Int) ≤ ((gD f0 i3).At)))) || (decide (((gD f0 i3).Net) = (0 : Int)))) || (decide ((1048576 : Int) < ((gD f0 i3).Net)))) || (decide (((gD f0 i3).Net) < (-1048576 : Int))))))] ?_
    refine bJ h1 (fun h1 => ?_) (fun h1 => ?_)
    · refine bV aD 1 [(2, (aE false))] ?_
      refine bL ?_
      obtain rfl := oI h1
      obtain rfl : _ = rr0 := ho0
      replace h0 : some false = some r := h0
      obtain rfl := oI h0
      exact aG (aO (bE (aO (aO (bE (aO (Q_r hO)))))))
    refine bK ?_
    refine bH [(0, (eL aK f0)), (3, (eI i3))] ?_
    refine aL ?_
    obtain ⟨c9, h1⟩ := bA h1
    obtain ⟨c10, h1⟩ := bA h1
    refine eS (eU [58, 64]) aD 16 ?_
    refine mB (K := fun T H => Has (lift T) [(0, (eL aK f0)), (3, (eI i3)), (66, (aE ((decide ((0 : Int) < i3)) && (decide (((gD f0 i3).At) ≤ ((gD f0 (wR (i3 - (1 : Int)))).At))))))] ∧ aI ⟨H0, [], []⟩ H []) ?_ ?_
    · refine jZ 3 ?_
      refine kB (t := 53) (e := decide ((0 : Int) < i3)) (by kernel_rfl) (fun hg11 => ?_) (fun hg11 => ?_)
      · refine AS (Ds := [0 ≤ i3 ∧ i3 < (lN f0), 0 ≤ (wR (i3 - (1 : Int))) ∧ (wR (i3 - (1 : Int))) < (lN f0)]) (by kernel_rfl) ⟨(c9 hg11), (c10 hg11), trivial⟩ ?_
        exact ⟨⟨[(0, (eL aK f0)), (3, (eI i3)), (66, (aE (decide (((gD f0 i3).At) ≤ ((gD f0 (wR (i3 - (1 : Int)))).At)))))], by kernel_rfl, rfl, ⟨aN.refl _, aN.refl _, aN.eq (congrArg aE (gY hg11 rfl).symm), trivial⟩⟩, hO⟩
      refine gK ?_
      exact ⟨⟨[(0, (eL aK f0)), (3, (eI i3)), (66, (aE false))], by kernel_rfl, rfl, ⟨aN.refl _, aN.refl _, aN.eq (congrArg aE (gY hg11 rfl).symm), trivial⟩⟩, hO⟩
    · rintro T H ⟨hT, hO⟩
      refine dS hT ?_
      clear hT
      refine aG (aF ?_)
      refine bJ h1 (fun h1 => ?_) (fun h1 => ?_)
      · refine bV aD 1 [(2, (aE false))] ?_
        refine bL ?_
        obtain rfl := oI h1
        obtain rfl : _ = rr0 := ho0
        replace h0 : some false = some r := h0
        obtain rfl := oI h0
        exact aG (bE (aO (aO (bE (aO (Q_r hO))))))
      refine bK ?_
      refine eP [(0, (eL aK f0)), (3, (eI i3))] ?_
      refine aG (aY (aF (?_)))
      refine aW aD 3 ?_
      refine bG ?_
      exact aG (aF (⟨rfl, _, (oI h1).symm, .eq (by kernel_rfl), hO⟩))
  refine eR 0 ?_
  obtain rfl := oI h1
  obtain rfl : _ = rr0 := ho0
  replace h0 : vP  = some r := h0
  exact aG (aV (aV (bS (aF (⟨rfl, .eq (by kernel_rfl), hO, h0⟩)))))

theorem OE (a0 : aC) (b1 : aC) (r : Int) (h0 : qW a0 b1 = some r) : dJ Try.prog 90 [(aB a0), (aB b1)] (eI r) := by
  intro H0
  refine dH Try.func90 ?_
  have hO := aI.start H0
  unfold qW at h0
  refine aL ?_
  refine aW aD 3 ?_
  refine gC 3 (aB a0) (by kernel_rfl) (by kernel_rfl) ?_
  refine gC 3 (aB b1) (by kernel_rfl) (by kernel_rfl) ?_
  refine bG ?_
  refine bH [(2, (.rp (aB a0))), (3, (.rp (aB b1)))] ?_
  refine aL ?_
  refine aL ?_
  refine aW aD 8 ?_
  refine bU 1 ?_
  obtain ⟨x1, hx2, h0⟩ := aZ h0
  refine dQ (EP a0 _ hx2) hO ?_
  intro H hO
  refine bU 5 ?_
  obtain ⟨x4, hx5, h0⟩ := aZ h0
  refine lX [(9, false)] 89 [(aB b1)] (aE x4) (!(!x1)) (by kernel_rfl) (by kernel_rfl) (by kernel_rfl) (fun hb6 => (EP b1 _ (gV hx5 hb6))) hO ?_
  intro H hO
  refine bG ?_
  refine bZ [] [(13, (aE ((!x1) || (!x4))))] ?_
  refine bJ h0 (fun h0 => ?_) (fun h0 => ?_)
  · refine bV aD 1 [(4, (eI (0 : Int)))] ?_
    refine bL ?_
    obtain rfl := oI h0
    exact aG (aO (Q_r hO))
  refine bK ?_
  refine bH [(2, (.rp (aB a0))), (3, (.rp (aB b1)))] ?_
  refine aL ?_
  refine aX aD 5 [] [(18, (aE (!decide (a0.Kind = b1.Kind))))] ?_
  refine bJ h0 (fun h0 => ?_) (fun h0 => ?_)
  · refine aL ?_
    refine bV aD 3 [(21, (aE (decide (a0.Kind = (1 : Int)))))] ?_
    refine bJ h0 (fun h0 => ?_) (fun h0 => ?_)
    · refine bV aD 1 [(4, (eI (-1 : Int)))] ?_
      refine bL ?_
      obtain rfl := oI h0
      exact aG (aO (aO (Q_r hO)))
    refine bK ?_
    refine bH [] ?_
    refine bV aD 1 [(4, (eI (1 : Int)))] ?_
    refine bL ?_
    obtain rfl := oI h0
    exact aG (aO (Q_r hO))
  refine bK ?_
  refine bH [(2, (.rp (aB a0))), (3, (.rp (aB b1)))] ?_
  refine aL ?_
  refine aX aD 5 [] [(26, (aE (!decide (a0.Num = b1.Num))))] ?_
  refine bJ h0 (fun h0 => ?_) (fun h0 => ?_)
  · refine aL ?_
    refine bV aD 5 [(31, (aE (decide (a0.Num < b1.Num))))] ?_
    refine bJ h0 (fun h0 => ?_) (fun h0 => ?_)
    · refine bV aD 1 [(4, (eI (-1 : Int)))] ?_
      refine bL ?_
      obtain rfl := oI h0
      exact aG (aO (aO (Q_r hO)))
    refine bK ?_
    refine bH [] ?_
    refine bV aD 1 [(4, (eI (1 : Int)))] ?_
    refine bL ?_
    obtain rfl := oI h0
    exact aG (aO (Q_r hO))
  refine bK ?_
  refine bH [(2, (.rp (aB a0))), (3, (.rp (aB b1)))] ?_
  refine dP (fun T H => ∃ a2 : aC, ∃ b3 : aC, Has T [(2, (.rp (aB a2))), (3, (.rp (aB b3)))] ∧ aI ⟨H0, [], []⟩ H [] ∧ pT a2 b3 = some r) ?_ ?_
  · clear hO h0
    rintro T H ⟨a2, b3, hT, hO, h0⟩
    refine bD hT ?_
    clear hT
    unfold pT at h0
    refine aL ?_
    refine aX aD 7 [] [(70, (aE (!decide (((ByteArray.size a2.Text : Nat) : Int) = ((ByteArray.size b3.Text : Nat) : Int)))))] ?_
    refine bJ h0 (fun h0 => ?_) (fun h0 => ?_)
    · refine aL ?_
      refine bV aD 7 [(77, (aE (decide (((ByteArray.size a2.Text : Nat) : Int) < ((ByteArray.size b3.Text : Nat) : Int)))))] ?_
      refine bJ h0 (fun h0 => ?_) (fun h0 => ?_)
      · refine bV aD 1 [(4, (eI (-1 : Int)))] ?_
        refine bL ?_
        obtain rfl := oI h0
        exact aG (aO (aO (Q_r hO)))
      refine bK ?_
      refine bH [] ?_
      refine bV aD 1 [(4, (eI (1 : Int)))] ?_
      refine bL ?_
      obtain rfl := oI h0
      exact aG (aO (Q_r hO))
    refine bK ?_
    refine bH [] ?_
    refine bV aD 1 [(4, (eI (0 : Int)))] ?_
    refine bL ?_
    obtain rfl := oI h0
    exact aG (Q_r hO)
  refine aX aD 1 [] [(5, (eI (0 : Int)))] ?_
  refine cA 0 ?_
  refine eG [(2, (.rp (aB a0))), (3, (.rp (aB b1))), (5, (eI (0 : Int)))] ?_
  refine dY (fun T H => ∃ a2 : aC, ∃ b3 : aC, ∃ i5 : Int, Has T [(2, (.rp (aB a2))), (3, (.rp (aB b3))), (5, (eI i5))] ∧ aI ⟨H0, [], []⟩ H [] ∧ sW a2 b3 i5 = some r) ?_ ⟨a0, b1, (0 : Int), .eq (by kernel_rfl), hO, h0⟩
  clear hO h0
  rintro T H ⟨a2, b3, i5, hT, hO, h0⟩
  refine bD hT ?_
  clear hT
  unfold sW at h0
  obtain ⟨rr0, hl0, h0⟩ := aZ h0
  refine cR (by kernel_rfl) (fun (s : Int) T H => Has T [(2, (.rp (aB a2))), (3, (.rp (aB b3))), (5, (eI s))] ∧ aI ⟨H0, [], []⟩ H []) hl0 ⟨.eq (by kernel_rfl), hO⟩ ?_
  clear hO
  rintro k0 s out1 T H ⟨hT, hO⟩ h1 ho0
  obtain ⟨i5, rfl⟩ : ∃ x, x = s := ⟨_, rfl⟩
  replace h1 : jA a2 b3 i5 = some out1 := h1
  refine bD hT ?_
  clear hT
  unfold jA at h1
  refine aL ?_
  refine aX aD 12 [] [(43, (aE ((decide (i5 < ((ByteArray.size a2.Text : Nat) : Int))) && (decide (i5 < ((ByteArray.size b3.Text : Nat) : Int))))))] ?_
  refine bJ h1 (fun h1 => ?_) (fun h1 => ?_)
  · refine bK ?_
    refine bH [(2, (.rp (aB a2))), (3, (.rp (aB b3))), (5, (eI i5))] ?_
    refine aL ?_
    refine cA 1 ?_
    refine aL ?_
    refine eS (eU [47, 51]) aD 9 ?_
    obtain ⟨c15, h1⟩ := bA h1
    obtain ⟨c16, h1⟩ := bA h1
    refine AS (Ds := [0 ≤ i5 ∧ i5 < ((ByteArray.size a2.Text : Nat) : Int), 0 ≤ i5 ∧ i5 < ((ByteArray.size b3.Text : Nat) : Int)]) (by kernel_rfl) ⟨c15, c16, trivial⟩ ?_
    refine bZ [] [(54, (aE (!decide ((bt a2.Text i5) = (bt b3.Text i5)))))] ?_
    refine bJ h1 (fun h1 => ?_) (fun h1 => ?_)
    · refine aL ?_
      refine aL ?_
      refine eS (eU [56, 60]) aD 9 ?_
      obtain ⟨c18, h1⟩ := bA h1
      obtain ⟨c19, h1⟩ := bA h1
      refine AS (Ds := [0 ≤ i5 ∧ i5 < ((ByteArray.size a2.Text : Nat) : Int), 0 ≤ i5 ∧ i5 < ((ByteArray.size b3.Text : Nat) : Int)]) (by kernel_rfl) ⟨c18, c19, trivial⟩ ?_
      refine bH [(63, (aE (decide ((bt a2.Text i5) < (bt b3.Text i5)))))] ?_
      refine bJ h1 (fun h1 => ?_) (fun h1 => ?_)
      · refine bV aD 1 [(4, (eI (-1 : Int)))] ?_
        refine bL ?_
        obtain rfl := oI h1
        obtain rfl : _ = rr0 := ho0
        replace h0 : some (-1 : Int) = some r := h0
        obtain rfl := oI h0
        exact aG (aO (bE (aO (aO (bE (aO (Q_r hO)))))))
      refine bK ?_
      refine bH [] ?_
      refine bV aD 1 [(4, (eI (1 : Int)))] ?_
      refine bL ?_
      obtain rfl := oI h1
      obtain rfl : _ = rr0 := ho0
      replace h0 : some (1 : Int) = some r := h0
      obtain rfl := oI h0
      exact aG (bE (aO (aO (bE (aO (Q_r hO))))))
    refine bK ?_
    refine eP [(2, (.rp (aB a2))), (3, (.rp (aB b3))), (5, (eI i5))] ?_
    refine aG (aY (aF (?_)))
    refine aW aD 3 ?_
    refine bG ?_
    exact aG (aF (⟨rfl, _, (oI h1).symm, .eq (by kernel_rfl), hO⟩))
  refine eR 0 ?_
  obtain rfl := oI h1
  obtain rfl : _ = rr0 := ho0
  replace h0 : pT a2 b3 = some r := h0
  exact aG (aV (aV (bS (aF (⟨rfl, _, _, .eq (by kernel_rfl), hO, h0⟩)))))

theorem DJ (a0 : (List aC)) (b1 : (List aC)) (r : Int) (h0 : oK a0 b1 = some r) : dJ Try.prog 65 [(eL aB a0), (eL aB b1)] (eI r) := by
  intro H0
  refine dH Try.func65 ?_
  have hO := aI.start H0
  unfold oK at h0
  refine aX aD 1 [] [] ?_
  refine aL ?_
  refine aL ?_
  refine aW aD 8 ?_
  refine bU 1 ?_
  obtain ⟨x1, hx2, h0⟩ := aZ h0
  refine dQ (ER a0 _ hx2) hO ?_
  intro H hO
  refine bU 5 ?_
  obtain ⟨x4, hx5, h0⟩ := aZ h0
  refine lX [(10, false)] 63 [(eL aB b1)] (aE x4) (!(!x1)) (by kernel_rfl) (by kernel_rfl) (by kernel_rfl) (fun hb6 => (ER b1 _ (gV hx5 hb6))) hO ?_
  intro H hO
  refine bG ?_
  refine bZ [] [(14, (aE ((!x1) || (!x4))))] ?_
  refine bJ h0 (fun h0 => ?_) (fun h0 => ?_)
  · refine bV aD 1 [(4, (eI (0 : Int)))] ?_
    refine bL ?_
    obtain rfl := oI h0
    exact aG (aO (Q_r hO))
  refine bK ?_
  refine bH [(0, (eL aB a0)), (1, (eL aB b1))] ?_
  refine dP (fun T H => Has T [(0, (eL aB a0)), (1, (eL aB b1))] ∧ aI ⟨H0, [], []⟩ H [] ∧ pV a0 b1 = some r) ?_ ?_
  · clear hO h0
    rintro T H ⟨hT, hO, h0⟩
    refine bD hT ?_
    clear hT
    unfold pV at h0
    refine aL ?_
    refine aX aD 5 [] [(43, (aE (decide ((lN a0) < (lN b1)))))] ?_
    refine bJ h0 (fun h0 => ?_) (fun h0 => ?_)
    · refine bV aD 1 [(4, (eI (-1 : Int)))] ?_
      refine bL ?_
      obtain rfl := oI h0
      exact aG (aO (Q_r hO))
    refine bK ?_
    refine bH [(0, (eL aB a0)), (1, (eL aB b1))] ?_
    refine aL ?_
    refine bV aD 5 [(48, (aE (decide ((lN b1) < (lN a0)))))] ?_
    refine bJ h0 (fun h0 => ?_) (fun h0 => ?_)
    · refine bV aD 1 [(4, (eI (1 : Int)))] ?_
      refine bL ?_
      obtain rfl := oI h0
      exact aG (aO (Q_r hO))
    refine bK ?_
    refine bH [] ?_
    refine bV aD 1 [(4, (eI (0 : Int)))] ?_
    refine bL ?_
    obtain rfl := oI h0
    exact aG (Q_r hO)
  refine aX aD 1 [] [(5, (eI (0 : Int)))] ?_
  refine cA 0 ?_
  refine eG [(0, (eL aB a0)), (1, (eL aB b1)), (5, (eI (0 : Int)))] ?_
  refine dY (fun T H => ∃ i5 : Int, Has T [(0, (eL aB a0)), (1, (eL aB b1)), (5, (eI i5))] ∧ aI ⟨H0, [], []⟩ H [] ∧ sM a0 b1 i5 = some r) ?_ ⟨(0 : Int), .eq (by kernel_rfl), hO, h0⟩
  clear hO h0
  rintro T H ⟨i5, hT, hO, h0⟩
  refine bD hT ?_
  clear hT
  unfold sM at h0
  obtain ⟨rr0, hl0, h0⟩ := aZ h0
  refine cR (by kernel_rfl) (fun (s : Int) T H => Has T [(0, (eL aB a0)), (1, (eL aB b1)), (5, (eI s))] ∧ aI ⟨H0, [], []⟩ H []) hl0 ⟨.eq (by kernel_rfl), hO⟩ ?_
  clear hO
  rintro k0 s out1 T H ⟨hT, hO⟩ h1 ho0
  obtain ⟨i5, rfl⟩ : ∃ x, x = s := ⟨_, rfl⟩
  replace h1 : jD a0 b1 i5 = some out1 := h1
  refine bD hT ?_
  clear hT
  unfold jD at h1
  refine aL ?_
  refine aX aD 10 [] [(24, (aE ((decide (i5 < (lN a0))) && (decide (i5 < (lN b1))))))] ?_
  refine bJ h1 (fun h1 => ?_) (fun h1 => ?_)
  · refine bK ?_
    refine bH [(0, (eL aB a0)), (1, (eL aB b1)), (5, (eI i5))] ?_
    refine aL ?_
    refine cA 1 ?_
    refine aL ?_
    refine eS (eU [30, 34, 35]) aD 10 ?_
    obtain ⟨c11, h1⟩ := bA h1
    obtain ⟨c12, h1⟩ := bA h1
    refine cI 8 [0 ≤ i5 ∧ i5 < (lN a0), 0 ≤ i5 ∧ i5 < (lN b1)] ⟨c11, c12, trivial⟩ ?_
    obtain ⟨x13, hx14, h1⟩ := aZ h1
    refine yL (OE (gD a0 i5) (gD b1 i5) _ hx14) hO ?_
    intro H hO
    refine gK ?_
    refine bZ [] [(6, (eI x13))] ?_
    refine aX aD 2 [] [(37, (aE (!decide (x13 = (0 : Int)))))] ?_
    refine bJ h1 (fun h1 => ?_) (fun h1 => ?_)
    · refine bV aD 2 [(4, (eI x13))] ?_
      refine bL ?_
      obtain rfl := oI h1
      obtain rfl : _ = rr0 := ho0
      replace h0 : some x13 = some r := h0
      obtain rfl := oI h0
      exact aG (bE (aO (aO (bE (aO (Q_r hO))))))
    refine bK ?_
    refine eP [(0, (eL aB a0)), (1, (eL aB b1)), (5, (eI i5))] ?_
    refine aG (aY (aF (?_)))
    refine aW aD 3 ?_
    refine bG ?_
    exact aG (aF (⟨rfl, _, (oI h1).symm, .eq (by kernel_rfl), hO⟩))
  refine eR 0 ?_
  obtain rfl := oI h1
  obtain rfl : _ = rr0 := ho0
  replace h0 : pV a0 b1 = some r := h0
  exact aG (aV (aV (bS (aF (⟨rfl, .eq (by kernel_rfl), hO, h0⟩)))))

theorem CE (a0 : (List aC)) (b1 : (List aC)) (r : Bool) (h0 : pR a0 b1 = some r) : dJ Try.prog 46 [(eL aB a0), (eL aB b1)] (aE r) := by
  intro H0
  refine dH Try.func46 ?_
  have hO := aI.start H0
  unfold pR at h0
  refine aX aD 1 [] [] ?_
  refine aL ?_
  refine aX aD 5 [] [(10, (aE (!decide ((lN a0) = (lN b1)))))] ?_
  refine bJ h0 (fun h0 => ?_) (fun h0 => ?_)
  · refine bV aD 1 [(4, (aE false))] ?_
    refine bL ?_
    obtain rfl := oI h0
    exact aG (aO (Q_r hO))
  refine bK ?_
  refine bH [(0, (eL aB a0)), (1, (eL aB b1))] ?_
  refine dP (fun T H => Has T [] ∧ aI ⟨H0, [], []⟩ H [] ∧ tS  = some r) ?_ ?_
  · clear hO h0
    rintro T H ⟨hT, hO, h0⟩
    refine bD hT ?_
    clear hT
    unfold tS at h0
    refine bV aD 1 [(4, (aE true))] ?_
    refine bL ?_
    obtain rfl := oI h0
    exact aG (Q_r hO)
  refine aX aD 1 [] [(5, (eI (0 : Int)))] ?_
  refine cA 0 ?_
  refine eG [(0, (eL aB a0)), (1, (eL aB b1)), (5, (eI (0 : Int)))] ?_
  refine dY (fun T H => ∃ i5 : Int, Has T [(0, (eL aB a0)), (1, (eL aB b1)), (5, (eI i5))] ∧ aI ⟨H0, [], []⟩ H [] ∧ yE a0 b1 i5 = some r) ?_ ⟨(0 : Int), .eq (by kernel_rfl), hO, h0⟩
  clear hO h0
  rintro T H ⟨i5, hT, hO, h0⟩
  refine bD hT ?_
  clear hT
  unfold yE at h0
  obtain ⟨rr0, hl0, h0⟩ := aZ h0
  refine cR (by kernel_rfl) (fun (s : Int) T H => Has T [(0, (eL aB a0)), (1, (eL aB b1)), (5, (eI s))] ∧ aI ⟨H0, [], []⟩ H []) hl0 ⟨.eq (by kernel_rfl), hO⟩ ?_
  clear hO
  rintro k0 s out1 T H ⟨hT, hO⟩ h1 ho0
  obtain ⟨i5, rfl⟩ : ∃ x, x = s := ⟨_, rfl⟩
  replace h1 : qN a0 b1 i5 = some out1 := h1
  refine bD hT ?_
  clear hT
  unfold qN at h1
  refine aL ?_
  refine aX aD 4 [] [(14, (aE (decide (i5 < (lN a0)))))] ?_
  refine bJ h1 (fun h1 => ?_) (fun h1 => ?_)
  · refine bK ?_
    refine bH [(0, (eL aB a0)), (1, (eL aB b1)), (5, (eI i5))] ?_
    refine aL ?_
    refine cA 1 ?_
    refine aL ?_
    refine eS (eU [20, 24]) aD 9 ?_
    obtain ⟨c3, h1⟩ := bA h1
    obtain ⟨c4, h1⟩ := bA h1
    refine AS (Ds := [0 ≤ i5 ∧ i5 < (lN a0), 0 ≤ i5 ∧ i5 < (lN b1)]) (by kernel_rfl) ⟨c3, c4, trivial⟩ ?_
    refine bZ [] [(25, (aE (!((decide (((gD a0 i5).Kind) = ((gD b1 i5).Kind))) && ((decide (((gD a0 i5).Num) = ((gD b1 i5).Num))) && ((oA ((gD a0 i5).Text) ((gD b1 i5).Text)) && true))))))] ?_
    refine bJ h1 (fun h1 => ?_) (fun h1 => ?_)
    · refine bV aD 1 [(4, (aE false))] ?_
      refine bL ?_
      obtain rfl := oI h1
      obtain rfl : _ = rr0 := ho0
      replace h0 : some false = some r := h0
      obtain rfl := oI h0
      exact aG (bE (aO (aO (bE (aO (Q_r hO))))))
    refine bK ?_
    refine eP [(0, (eL aB a0)), (1, (eL aB b1)), (5, (eI i5))] ?_
    refine aG (aY (aF (?_)))
    refine aW aD 3 ?_
    refine bG ?_
    exact aG (aF (⟨rfl, _, (oI h1).symm, .eq (by kernel_rfl), hO⟩))
  refine eR 0 ?_
  obtain rfl := oI h1
  obtain rfl : _ = rr0 := ho0
  replace h0 : tS  = some r := h0
  exact aG (aV (aV (bS (aF (⟨rfl, .eq (by kernel_rfl), hO, h0⟩)))))

end Go.Abs
