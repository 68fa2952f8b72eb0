/- What the law HopLags stands on: the framework, the given functions as plain functions, their walks, and the plain laws; part 4. -/
import Derived.Test.YteecjdpicjpnfaaHopLagsZ3
set_option linter.unusedSimpArgs false
set_option linter.unusedVariables false
namespace Go.Abs
open Go Go.RowKit Go.Proofs
theorem oO (lo0p : Nat) (aA : (List Int)) (a1 : Int) (b2 : Int) (r : (Bool × List Int)) (h0 : eG aA a1 b2 = some r) : lS Try.prog 83 lo0p 1 (List.map (eI) aA) (List.map (eI) r.2) [(.msl 1 lo0p 0 (List.length aA)), (eI a1), (eI b2)] (aB r.1) := by
  intro H0 hl0
  refine dV Try.func83 ?_
  have hO := aJ.qM hl0
  clear hl0
  obtain ⟨N0, hN0⟩ : ∃ n, n = List.length aA := ⟨_, rfl⟩
  have hN : List.length aA = N0 := hN0.symm
  unfold eG at h0
  refine aS aC 1 [] [] ?_
  refine aS aC 3 [] [(7, (eI (wR (a1 + (1 : Int)))))] ?_
  refine jD (fun T H => ∃ aA : List Int, Has T [(0, (.msl 1 lo0p 0 (List.length aA)))] ∧ aJ ⟨H0, [lo0p], []⟩ H [(lo0p, 1, List.map (eI) aA)] ∧ List.length aA = N0 ∧ dW aA = some r) ?_ ?_
  · clear hO hN h0
    rintro T H ⟨aA, hT, hO, hN, h0⟩
    refine bM hT ?_
    clear hT
    unfold dW at h0
    refine aS aC 1 [] [(6, (aB false))] ?_
    refine bL ?_
    obtain rfl := oI h0
    exact aG (lC (x := (aB false)) (by kernel_rfl) (aL.refl _) ⟨rfl, hO.ext, hO.at 0 (by kernel_rfl), by first | rfl | (simp only [List.length_map]; exact hN.trans hN0)⟩)
  refine aS aC 1 [] [(8, (eI (0 : Int)))] ?_
  refine cG 0 ?_
  refine iC [(0, (.msl 1 lo0p 0 (List.length aA))), (1, (eI a1)), (2, (eI b2)), (7, (eI (wR (a1 + (1 : Int))))), (8, (eI (0 : Int)))] ?_
  refine iF (fun T H => ∃ aA : List Int, ∃ i7 : Int, ∃ j8 : Int, Has T [(0, (.msl 1 lo0p 0 (List.length aA))), (1, (eI a1)), (2, (eI b2)), (7, (eI i7)), (8, (eI j8))] ∧ aJ ⟨H0, [lo0p], []⟩ H [(lo0p, 1, List.map (eI) aA)] ∧ List.length aA = N0 ∧ fK aA a1 b2 i7 j8 = some r) ?_ ⟨aA, wR (a1 + (1 : Int)), (0 : Int), .eq (by kernel_rfl), hO, hN, h0⟩
  clear hO hN h0
  rintro T H ⟨aA, i7, j8, hT, hO, hN, h0⟩
  refine bM hT ?_
  clear hT
  unfold fK at h0
  obtain ⟨rr0, hl0, h0⟩ := aT h0
  refine eP (by kernel_rfl) (fun (s : List Int × Int × Int) T H => Has T [(0, (.msl 1 lo0p 0 (List.length s.1))), (1, (eI a1)), (2, (eI b2)), (7, (eI s.2.1)), (8, (eI s.2.2))] ∧ aJ ⟨H0, [lo0p], []⟩ H [(lo0p, 1, List.map (eI) s.1)] ∧ List.length s.1 = N0) hl0 ⟨.eq (by kernel_rfl), hO, hN⟩ ?_
  clear hO hN
  rintro k0 s out1 T H ⟨hT, hO, hN⟩ h1 ho0
  obtain ⟨aA, i7, j8⟩ := s
  replace h1 : bQ a1 b2 aA i7 j8 = some out1 := h1
  try dsimp only at hT
  refine bM hT ?_
  clear hT
  unfold bQ at h1
  refine aN ?_
  refine aS aC 2 [] [(14, (aB (decide (j8 < (5 : Int)))))] ?_
  refine bR h1 (fun h1 => ?_) (fun h1 => ?_)
  · refine bS ?_
    refine bD [(0, (.msl 1 lo0p 0 (List.length aA))), (1, (eI a1)), (2, (eI b2)), (7, (eI i7)), (8, (eI j8))] ?_
    refine jD (fun T H => ∃ aA : List Int, ∃ i7 : Int, Has T [(0, (.msl 1 lo0p 0 (List.length aA))), (1, (eI a1)), (2, (eI b2)), (7, (eI i7)), (8, (eI j8))] ∧ aJ ⟨H0, [lo0p], []⟩ H [(lo0p, 1, List.map (eI) aA)] ∧ List.length aA = N0 ∧ dB aA a1 b2 i7 j8 = some out1) ?_ ?_
    · clear hO hN h1
      rintro T H ⟨aA, i7, hT, hO, hN, h1⟩
      refine bM hT ?_
      clear hT
      unfold dB at h1
      refine aP aC 3 ?_
      refine bC ?_
      exact aG (aH (⟨rfl, _, (oI h1).symm, .eq (by kernel_rfl), hO, hN⟩))
    refine cG 1 ?_
    refine jD (fun T H => ∃ aA : List Int, ∃ i7 : Int, Has T [(0, (.msl 1 lo0p 0 (List.length aA))), (1, (eI a1)), (2, (eI b2)), (7, (eI i7)), (8, (eI j8))] ∧ aJ ⟨H0, [lo0p], []⟩ H [(lo0p, 1, List.map (eI) aA)] ∧ List.length aA = N0 ∧ dX aA a1 b2 i7 j8 = some out1) ?_ ?_
    · clear hO hN h1
      rintro T H ⟨aA, i7, hT, hO, hN, h1⟩
      refine bM hT ?_
      clear hT
      unfold dX at h1
      refine aN ?_
      refine aS aC 3 [] [(37, (aB (decide (i7 = b2))))] ?_
      refine bR h1 (fun h1 => ?_) (fun h1 => ?_)
      · refine aS aC 1 [1, 2, 7, 8, 37] [(6, (aB true))] ?_
        refine bL ?_
        obtain rfl := oI h1
        obtain rfl : _ = rr0 := ho0
        replace h0 : some (true, aA) = some r := h0
        obtain rfl := oI h0
        exact aG (aR (bJ (aR (aR (bJ (aR (lC (x := (aB true)) (by kernel_rfl) (aL.refl _) ⟨rfl, hO.ext, hO.at 0 (by kernel_rfl), by first | rfl | (simp only [List.length_map]; exact hN.trans hN0)⟩)))))))
      refine bS ?_
      refine bD [(0, (.msl 1 lo0p 0 (List.length aA))), (1, (eI a1)), (2, (eI b2)), (7, (eI i7)), (8, (eI j8))] ?_
      refine aN ?_
      refine aS aC 4 [] [(41, (aB (decide ((wR (b2 - a1)) < (50 : Int)))))] ?_
      refine bR h1 (fun h1 => ?_) (fun h1 => ?_)
      · refine aS aC 1 [1, 2, 7, 8, 41] [(6, (aB false))] ?_
        refine bL ?_
        obtain rfl := oI h1
        obtain rfl : _ = rr0 := ho0
        replace h0 : some (false, aA) = some r := h0
        obtain rfl := oI h0
        exact aG (aR (bJ (aR (aR (bJ (aR (lC (x := (aB false)) (by kernel_rfl) (aL.refl _) ⟨rfl, hO.ext, hO.at 0 (by kernel_rfl), by first | rfl | (simp only [List.length_map]; exact hN.trans hN0)⟩)))))))
      refine bS ?_
      refine bD [(0, (.msl 1 lo0p 0 (List.length aA))), (1, (eI a1)), (2, (eI b2)), (7, (eI i7)), (8, (eI j8))] ?_
      refine aN ?_
      refine gU (gV []) aC 18 ?_
      obtain ⟨c4, h1⟩ := aY h1
      refine cF 9 [0 ≤ (wR (i7 - (1 : Int))) ∧ (wR (i7 - (1 : Int))) < (lN aA)] ⟨c4, trivial⟩ ?_
      refine gJ 0 lo0p 1 (0 + Int.toNat (wR (i7 - (1 : Int)))) (eI (gD aA (wR (i7 - (1 : Int))))) (eI (gD aA (wR (i7 - (1 : Int))))) (List.map (eI) aA) hO (bU c4) ?_
      obtain ⟨c5, h1⟩ := aY h1
      refine cF 13 [0 ≤ i7 ∧ i7 < (lN aA)] ⟨c5, trivial⟩ ?_
      refine gJ 0 lo0p 1 (0 + Int.toNat i7) (eI (gD aA i7)) (eI (gD aA i7)) (List.map (eI) aA) hO (bU c5) ?_
      obtain ⟨c6, h1⟩ := aY h1
      refine cF 15 [0 ≤ i7 ∧ i7 < (lN aA)] ⟨c6, trivial⟩ ?_
      refine kD 0 lo0p 1 (0 + Int.toNat i7) (eI (gD aA i7)) (eI (gD aA (wR (i7 - (1 : Int))))) (List.map (eI) aA) [(lo0p, 1, List.map (eI) (List.set aA (Int.toNat i7) (gD aA (wR (i7 - (1 : Int))))))] hO (bU c6) (by simp only [List.set, gO]) ?_
      intro H hO
      replace hN : List.length (List.set aA (Int.toNat i7) (gD aA (wR (i7 - (1 : Int))))) = N0 := by simpa using hN
      obtain ⟨c7, h1⟩ := aY h1
      refine cF 17 [0 ≤ (wR (i7 - (1 : Int))) ∧ (wR (i7 - (1 : Int))) < (lN aA)] ⟨c7, trivial⟩ ?_
      refine kD 0 lo0p 1 (0 + Int.toNat (wR (i7 - (1 : Int)))) (eI (gD (List.set aA (Int.toNat i7) (gD aA (wR (i7 - (1 : Int))))) (wR (i7 - (1 : Int))))) (eI (gD aA i7)) (List.map (eI) (List.set aA (Int.toNat i7) (gD aA (wR (i7 - (1 : Int)))))) [(lo0p, 1, List.map (eI) (List.set (List.set aA (Int.toNat i7) (gD aA (wR (i7 - (1 : Int))))) (Int.toNat (wR (i7 - (1 : Int)))) (gD aA i7)))] hO (lR c7 (by simp [])) (by simp only [List.set, gO]) ?_
      intro H hO
      replace hN : List.length (List.set (List.set aA (Int.toNat i7) (gD aA (wR (i7 - (1 : Int))))) (Int.toNat (wR (i7 - (1 : Int)))) (gD aA i7)) = N0 := by simpa using hN
      refine mB (by kernel_rfl) ?_
      refine eX (l := [(0, (.msl 1 lo0p 0 (List.length (List.set (List.set aA (Int.toNat i7) (gD aA (wR (i7 - (1 : Int))))) (Int.toNat (wR (i7 - (1 : Int)))) (gD aA i7))))), (1, (eI a1)), (2, (eI b2)), (7, (eI i7)), (8, (eI j8))]) ⟨[(0, (.msl 1 lo0p 0 (List.length aA))), (1, (eI a1)), (2, (eI b2)), (7, (eI i7)), (8, (eI j8))], by kernel_rfl, rfl, ⟨aL.eq (by simp []), aL.refl _, aL.refl _, aL.refl _, aL.refl _, trivial⟩⟩ ?_
      refine aG (aH (?_))
      refine jD (fun T H => ∃ aA : List Int, Has T [(0, (.msl 1 lo0p 0 (List.length aA))), (1, (eI a1)), (2, (eI b2)), (7, (eI i7)), (8, (eI j8))] ∧ aJ ⟨H0, [lo0p], []⟩ H [(lo0p, 1, List.map (eI) aA)] ∧ List.length aA = N0 ∧ cB aA a1 b2 i7 j8 = some out1) ?_ ?_
      · clear hO hN h1
        rintro T H ⟨aA, hT, hO, hN, h1⟩
        refine bM hT ?_
        clear hT
        unfold cB at h1
        refine aS aC 4 [] [(98, (aB (decide ((2 : Int) ≤ (wR (b2 - i7))))))] ?_
        refine bR h1 (fun h1 => ?_) (fun h1 => ?_)
        · refine aS aC 3 [98] [(10, (eI (wR (i7 + (1 : Int)))))] ?_
          refine cG 6 ?_
          refine iC [(0, (.msl 1 lo0p 0 (List.length aA))), (1, (eI a1)), (2, (eI b2)), (7, (eI i7)), (8, (eI j8)), (10, (eI (wR (i7 + (1 : Int)))))] ?_
          refine iF (fun T H => ∃ aA : List Int, ∃ j10 : Int, Has T [(0, (.msl 1 lo0p 0 (List.length aA))), (1, (eI a1)), (2, (eI b2)), (7, (eI i7)), (8, (eI j8)), (10, (eI j10))] ∧ aJ ⟨H0, [lo0p], []⟩ H [(lo0p, 1, List.map (eI) aA)] ∧ List.length aA = N0 ∧ fJ aA a1 b2 i7 j8 j10 = some out1) ?_ ⟨aA, wR (i7 + (1 : Int)), .eq (by kernel_rfl), hO, hN, h1⟩
          clear hO hN h1
          rintro T H ⟨aA, j10, hT, hO, hN, h1⟩
          refine bM hT ?_
          clear hT
          unfold fJ at h1
          obtain ⟨rr1, hl1, h1⟩ := aT h1
          refine eP (by kernel_rfl) (fun (s : List Int × Int) T H => Has T [(0, (.msl 1 lo0p 0 (List.length s.1))), (1, (eI a1)), (2, (eI b2)), (7, (eI i7)), (8, (eI j8)), (10, (eI s.2))] ∧ aJ ⟨H0, [lo0p], []⟩ H [(lo0p, 1, List.map (eI) s.1)] ∧ List.length s.1 = N0) hl1 ⟨.eq (by kernel_rfl), hO, hN⟩ ?_
          clear hO hN
          rintro k1 s out2 T H ⟨hT, hO, hN⟩ h2 ho1
          obtain ⟨aA, j10⟩ := s
          replace h2 : cK a1 b2 i7 j8 aA j10 = some out2 := h2
          try dsimp only at hT
          refine bM hT ?_
          clear hT
          unfold cK at h2
          refine aN ?_
          refine aS aC 3 [] [(103, (aB (decide (j10 < b2))))] ?_
          refine bR h2 (fun h2 => ?_) (fun h2 => ?_)
          · refine bS ?_
            refine bD [(0, (.msl 1 lo0p 0 (List.length aA))), (1, (eI a1)), (2, (eI b2)), (7, (eI i7)), (8, (eI j8)), (10, (eI j10))] ?_
            refine aN ?_
            refine cG 7 ?_
            refine aN ?_
            refine aN ?_
            refine gU (gV [115]) aC 11 ?_
            obtain ⟨c10, h2⟩ := aY h2
            refine cF 3 [0 ≤ j10 ∧ j10 < (lN aA)] ⟨c10, trivial⟩ ?_
            refine gJ 0 lo0p 1 (0 + Int.toNat j10) (eI (gD aA j10)) (eI (gD aA j10)) (List.map (eI) aA) hO (bU c10) ?_
            obtain ⟨c11, h2⟩ := aY h2
            refine cF 8 [0 ≤ (wR (j10 - (1 : Int))) ∧ (wR (j10 - (1 : Int))) < (lN aA)] ⟨c11, trivial⟩ ?_
            refine gJ 0 lo0p 1 (0 + Int.toNat (wR (j10 - (1 : Int)))) (eI (gD aA (wR (j10 - (1 : Int))))) (eI (gD aA (wR (j10 - (1 : Int))))) (List.map (eI) aA) hO (bU c11) ?_
            obtain ⟨x12, hx13, h2⟩ := aT h2
            refine xB (fF (gD aA j10) (gD aA (wR (j10 - (1 : Int)))) _ hx13) hO ?_
            intro H hO
            refine kX ?_
            refine cD [] [(116, (aB (!x12)))] ?_
            refine bR h2 (fun h2 => ?_) (fun h2 => ?_)
            · refine jP 6 ?_
              obtain rfl := oI h2
              obtain rfl : _ = rr1 := ho1
              replace h1 : dB aA a1 b2 i7 j8 = some out1 := h1
              exact aG (aW (pX (by kernel_rfl) (aW (aW (cI (aV (aH (⟨rfl, _, _, .eq (by kernel_rfl), hO, hN, h1⟩))))))))
            refine bS ?_
            refine bD [(0, (.msl 1 lo0p 0 (List.length aA))), (1, (eI a1)), (2, (eI b2)), (7, (eI i7)), (8, (eI j8)), (10, (eI j10))] ?_
            refine gU (gV []) aC 18 ?_
            obtain ⟨c16, h2⟩ := aY h2
            refine cF 9 [0 ≤ (wR (j10 - (1 : Int))) ∧ (wR (j10 - (1 : Int))) < (lN aA)] ⟨c16, trivial⟩ ?_
            refine gJ 0 lo0p 1 (0 + Int.toNat (wR (j10 - (1 : Int)))) (eI (gD aA (wR (j10 - (1 : Int))))) (eI (gD aA (wR (j10 - (1 : Int))))) (List.map (eI) aA) hO (bU c16) ?_
            obtain ⟨c17, h2⟩ := aY h2
            refine cF 13 [0 ≤ j10 ∧ j10 < (lN aA)] ⟨c17, trivial⟩ ?_
            refine gJ 0 lo0p 1 (0 + Int.toNat j10) (eI (gD aA j10)) (eI (gD aA j10)) (List.map (eI) aA) hO (bU c17) ?_
            obtain ⟨c18, h2⟩ := aY h2
            refine cF 15 [0 ≤ j10 ∧ j10 < (lN aA)] ⟨c18, trivial⟩ ?_
            refine kD 0 lo0p 1 (0 + Int.toNat j10) (eI (gD aA j10)) (eI (gD aA (wR (j10 - (1 : Int))))) (List.map (eI) aA) [(lo0p, 1, List.map (eI) (List.set aA (Int.toNat j10) (gD aA (wR (j10 - (1 : Int))))))] hO (bU c18) (by simp only [List.set, gO]) ?_
            intro H hO
            replace hN : List.length (List.set aA (Int.toNat j10) (gD aA (wR (j10 - (1 : Int))))) = N0 := by simpa using hN
            obtain ⟨c19, h2⟩ := aY h2
            refine cF 17 [0 ≤ (wR (j10 - (1 : Int))) ∧ (wR (j10 - (1 : Int))) < (lN aA)] ⟨c19, trivial⟩ ?_
            refine kD 0 lo0p 1 (0 + Int.toNat (wR (j10 - (1 : Int)))) (eI (gD (List.set aA (Int.toNat j10) (gD aA (wR (j10 - (1 : Int))))) (wR (j10 - (1 : Int))))) (eI (gD aA j10)) (List.map (eI) (List.set aA (Int.toNat j10) (gD aA (wR (j10 - (1 : Int)))))) [(lo0p, 1, List.map (eI) (List.set (List.set aA (Int.toNat j10) (gD aA (wR (j10 - (1 : Int))))) (Int.toNat (wR (j10 - (1 : Int)))) (gD aA j10)))] hO (lR c19 (by simp [])) (by simp only [List.set, gO]) ?_
            intro H hO
            replace hN : List.length (List.set (List.set aA (Int.toNat j10) (gD aA (wR (j10 - (1 : Int))))) (Int.toNat (wR (j10 - (1 : Int)))) (gD aA j10)) = N0 := by simpa using hN
            refine mB (by kernel_rfl) ?_
            refine eX (l := [(0, (.msl 1 lo0p 0 (List.length (List.set (List.set aA (Int.toNat j10) (gD aA (wR (j10 - (1 : Int))))) (Int.toNat (wR (j10 - (1 : Int)))) (gD aA j10))))), (1, (eI a1)), (2, (eI b2)), (7, (eI i7)), (8, (eI j8)), (10, (eI j10))]) ⟨[(0, (.msl 1 lo0p 0 (List.length aA))), (1, (eI a1)), (2, (eI b2)), (7, (eI i7)), (8, (eI j8)), (10, (eI j10))], by kernel_rfl, rfl, ⟨aL.eq (by simp []), aL.refl _, aL.refl _, aL.refl _, aL.refl _, aL.refl _, trivial⟩⟩ ?_
            refine aG (aV (aH (?_)))
            refine aP aC 3 ?_
            refine bC ?_
            exact aG (aH (⟨rfl, _, (oI h2).symm, .eq (by kernel_rfl), hO, hN⟩))
          refine jP 6 ?_
          obtain rfl := oI h2
          obtain rfl : _ = rr1 := ho1
          replace h1 : dB aA a1 b2 i7 j8 = some out1 := h1
          exact aG (aW (aW (cI (aV (aH (⟨rfl, _, _, .eq (by kernel_rfl), hO, hN, h1⟩))))))
        refine bS ?_
        exact aG (aV (aH (⟨rfl, _, _, .eq (by kernel_rfl), hO, hN, h1⟩)))
      refine aS aC 4 [] [(61, (aB (decide ((2 : Int) ≤ (wR (i7 - a1))))))] ?_
      refine bR h1 (fun h1 => ?_) (fun h1 => ?_)
      · refine aS aC 3 [61] [(9, (eI (wR (i7 - (1 : Int)))))] ?_
        refine cG 4 ?_
        refine iC [(0, (.msl 1 lo0p 0 (List.length (List.set (List.set aA (Int.toNat i7) (gD aA (wR (i7 - (1 : Int))))) (Int.toNat (wR (i7 - (1 : Int)))) (gD aA i7))))), (1, (eI a1)), (2, (eI b2)), (7, (eI i7)), (8, (eI j8)), (9, (eI (wR (i7 - (1 : Int)))))] ?_
        refine iF (fun T H => ∃ aA : List Int, ∃ j9 : Int, Has T [(0, (.msl 1 lo0p 0 (List.length aA))), (1, (eI a1)), (2, (eI b2)), (7, (eI i7)), (8, (eI j8)), (9, (eI j9))] ∧ aJ ⟨H0, [lo0p], []⟩ H [(lo0p, 1, List.map (eI) aA)] ∧ List.length aA = N0 ∧ fM aA a1 b2 i7 j8 j9 = some out1) ?_ ⟨List.set (List.set aA (Int.toNat i7) (gD aA (wR (i7 - (1 : Int))))) (Int.toNat (wR (i7 - (1 : Int)))) (gD aA i7), wR (i7 - (1 : Int)), .eq (by kernel_rfl), hO, hN, h1⟩
        clear hO hN h1
        rintro T H ⟨aA, j9, hT, hO, hN, h1⟩
        refine bM hT ?_
        clear hT
        unfold fM at h1
        obtain ⟨rr1, hl1, h1⟩ := aT h1
        refine eP (by kernel_rfl) (fun (s : List Int × Int) T H => Has T [(0, (.msl 1 lo0p 0 (List.length s.1))), (1, (eI a1)), (2, (eI b2)), (7, (eI i7)), (8, (eI j8)), (9, (eI s.2))] ∧ aJ ⟨H0, [lo0p], []⟩ H [(lo0p, 1, List.map (eI) s.1)] ∧ List.length s.1 = N0) hl1 ⟨.eq (by kernel_rfl), hO, hN⟩ ?_
        clear hO hN
        rintro k1 s out2 T H ⟨hT, hO, hN⟩ h2 ho1
        obtain ⟨aA, j9⟩ := s
        replace h2 : cA a1 b2 i7 j8 aA j9 = some out2 := h2
        try dsimp only at hT
        refine bM hT ?_
        clear hT
        unfold cA at h2
        refine aN ?_
        refine aS aC 2 [] [(65, (aB (decide ((1 : Int) ≤ j9))))] ?_
        refine bR h2 (fun h2 => ?_) (fun h2 => ?_)
        · refine bS ?_
          refine bD [(0, (.msl 1 lo0p 0 (List.length aA))), (1, (eI a1)), (2, (eI b2)), (7, (eI i7)), (8, (eI j8)), (9, (eI j9))] ?_
          refine aN ?_
          refine cG 5 ?_
          refine aN ?_
          refine aN ?_
          refine gU (gV [77]) aC 11 ?_
          obtain ⟨c22, h2⟩ := aY h2
          refine cF 3 [0 ≤ j9 ∧ j9 < (lN aA)] ⟨c22, trivial⟩ ?_
          refine gJ 0 lo0p 1 (0 + Int.toNat j9) (eI (gD aA j9)) (eI (gD aA j9)) (List.map (eI) aA) hO (bU c22) ?_
          obtain ⟨c23, h2⟩ := aY h2
          refine cF 8 [0 ≤ (wR (j9 - (1 : Int))) ∧ (wR (j9 - (1 : Int))) < (lN aA)] ⟨c23, trivial⟩ ?_
          refine gJ 0 lo0p 1 (0 + Int.toNat (wR (j9 - (1 : Int)))) (eI (gD aA (wR (j9 - (1 : Int))))) (eI (gD aA (wR (j9 - (1 : Int))))) (List.map (eI) aA) hO (bU c23) ?_
          obtain ⟨x24, hx25, h2⟩ := aT h2
          refine xB (fF (gD aA j9) (gD aA (wR (j9 - (1 : Int)))) _ hx25) hO ?_
          intro H hO
          refine kX ?_
          refine cD [] [(78, (aB (!x24)))] ?_
          refine bR h2 (fun h2 => ?_) (fun h2 => ?_)
          · refine jP 4 ?_
            obtain rfl := oI h2
            obtain rfl : _ = rr1 := ho1
            replace h1 : cB aA a1 b2 i7 j8 = some out1 := h1
            exact aG (aW (pX (by kernel_rfl) (aW (aW (cI (aH (⟨rfl, _, .eq (by kernel_rfl), hO, hN, h1⟩)))))))
          refine bS ?_
          refine bD [(0, (.msl 1 lo0p 0 (List.length aA))), (1, (eI a1)), (2, (eI b2)), (7, (eI i7)), (8, (eI j8)), (9, (eI j9))] ?_
          refine gU (gV []) aC 18 ?_
          obtain ⟨c28, h2⟩ := aY h2
          refine cF 9 [0 ≤ (wR (j9 - (1 : Int))) ∧ (wR (j9 - (1 : Int))) < (lN aA)] ⟨c28, trivial⟩ ?_
          refine gJ 0 lo0p 1 (0 + Int.toNat (wR (j9 - (1 : Int)))) (eI (gD aA (wR (j9 - (1 : Int))))) (eI (gD aA (wR (j9 - (1 : Int))))) (List.map (eI) aA) hO (bU c28) ?_
          obtain ⟨c29, h2⟩ := aY h2
          refine cF 13 [0 ≤ j9 ∧ j9 < (lN aA)] ⟨c29, trivial⟩ ?_
          refine gJ 0 lo0p 1 (0 + Int.toNat j9) (eI (gD aA j9)) (eI (gD aA j9)) (List.map (eI) aA) hO (bU c29) ?_
          obtain ⟨c30, h2⟩ := aY h2
          refine cF 15 [0 ≤ j9 ∧ j9 < (lN aA)] ⟨c30, trivial⟩ ?_
          refine kD 0 lo0p 1 (0 + Int.toNat j9) (eI (gD aA j9)) (eI (gD aA (wR (j9 - (1 : Int))))) (List.map (eI) aA) [(lo0p, 1, List.map (eI) (List.set aA (Int.toNat j9) (gD aA (wR (j9 - (1 : Int))))))] hO (bU c30) (by simp only [List.set, gO]) ?_
          intro H hO
          replace hN : List.length (List.set aA (Int.toNat j9) (gD aA (wR (j9 - (1 : Int))))) = N0 := by simpa using hN
          obtain ⟨c31, h2⟩ := aY h2
          refine cF 17 [0 ≤ (wR (j9 - (1 : Int))) ∧ (wR (j9 - (1 : Int))) < (lN aA)] ⟨c31, trivial⟩ ?_
          refine kD 0 lo0p 1 (0 + Int.toNat (wR (j9 - (1 : Int)))) (eI (gD (List.set aA (Int.toNat j9) (gD aA (wR (j9 - (1 : Int))))) (wR (j9 - (1 : Int))))) (eI (gD aA j9)) (List.map (eI) (List.set aA (Int.toNat j9) (gD aA (wR (j9 - (1 : Int)))))) [(lo0p, 1, List.map (eI) (List.set (List.set aA (Int.toNat j9) (gD aA (wR (j9 - (1 : Int))))) (Int.toNat (wR (j9 - (1 : Int)))) (gD aA j9)))] hO (lR c31 (by simp [])) (by simp only [List.set, gO]) ?_
          intro H hO
          replace hN : List.length (List.set (List.set aA (Int.toNat j9) (gD aA (wR (j9 - (1 : Int))))) (Int.toNat (wR (j9 - (1 : Int)))) (gD aA j9)) = N0 := by simpa using hN
          refine mB (by kernel_rfl) ?_
          refine eX (l := [(0, (.msl 1 lo0p 0 (List.length (List.set (List.set aA (Int.toNat j9) (gD aA (wR (j9 - (1 : Int))))) (Int.toNat (wR (j9 - (1 : Int)))) (gD aA j9))))), (1, (eI a1)), (2, (eI b2)), (7, (eI i7)), (8, (eI j8)), (9, (eI j9))]) ⟨[(0, (.msl 1 lo0p 0 (List.length aA))), (1, (eI a1)), (2, (eI b2)), (7, (eI i7)), (8, (eI j8)), (9, (eI j9))], by kernel_rfl, rfl, ⟨aL.eq (by simp []), aL.refl _, aL.refl _, aL.refl _, aL.refl _, aL.refl _, trivial⟩⟩ ?_
          refine aG (aV (aH (?_)))
          refine aP aC 3 ?_
          refine bC ?_
          exact aG (aH (⟨rfl, _, (oI h2).symm, .eq (by kernel_rfl), hO, hN⟩))
        refine jP 4 ?_
        obtain rfl := oI h2
        obtain rfl : _ = rr1 := ho1
        replace h1 : cB aA a1 b2 i7 j8 = some out1 := h1
        exact aG (aW (aW (cI (aH (⟨rfl, _, .eq (by kernel_rfl), hO, hN, h1⟩)))))
      refine bS ?_
      exact aG (aH (⟨rfl, _, .eq (by kernel_rfl), hO, hN, h1⟩))
    refine cG 2 ?_
    refine iC [(0, (.msl 1 lo0p 0 (List.length aA))), (1, (eI a1)), (2, (eI b2)), (7, (eI i7)), (8, (eI j8))] ?_
    refine iF (fun T H => ∃ aA : List Int, ∃ i7 : Int, Has T [(0, (.msl 1 lo0p 0 (List.length aA))), (1, (eI a1)), (2, (eI b2)), (7, (eI i7)), (8, (eI j8))] ∧ aJ ⟨H0, [lo0p], []⟩ H [(lo0p, 1, List.map (eI) aA)] ∧ List.length aA = N0 ∧ cQ aA a1 b2 i7 j8 = some out1) ?_ ⟨aA, i7, .eq (by kernel_rfl), hO, hN, h1⟩
    clear hO hN h1
    rintro T H ⟨aA, i7, hT, hO, hN, h1⟩
    refine bM hT ?_
    clear hT
    unfold cQ at h1
    obtain ⟨rr1, hl1, h1⟩ := aT h1
    refine eP (by kernel_rfl) (fun (s : List Int × Int) T H => Has T [(0, (.msl 1 lo0p 0 (List.length s.1))), (1, (eI a1)), (2, (eI b2)), (7, (eI s.2)), (8, (eI j8))] ∧ aJ ⟨H0, [lo0p], []⟩ H [(lo0p, 1, List.map (eI) s.1)] ∧ List.length s.1 = N0) hl1 ⟨.eq (by kernel_rfl), hO, hN⟩ ?_
    clear hO hN
    rintro k1 s out2 T H ⟨hT, hO, hN⟩ h2 ho1
    obtain ⟨aA, i7⟩ := s
    replace h2 : cJ a1 b2 j8 aA i7 = some out2 := h2
    try dsimp only at hT
    refine bM hT ?_
    clear hT
    unfold cJ at h2
    refine aN ?_
    refine aN ?_
    obtain ⟨c32, h2⟩ := aY h2
    obtain ⟨c33, h2⟩ := aY h2
    obtain ⟨x34, hx35, h2⟩ := aT h2
    refine gU (gV []) aC 16 ?_
    refine pN (K := fun T H => Has (lift T) [(0, (.msl 1 lo0p 0 (List.length aA))), (1, (eI a1)), (2, (eI b2)), (7, (eI i7)), (8, (eI j8)), (32, (aB ((decide (i7 < b2)) && (!x34))))] ∧ aJ ⟨H0, [lo0p], []⟩ H [(lo0p, 1, List.map (eI) aA)]) ?_ ?_
    · refine lI 4 ?_
      refine oD (t := 20) (e := decide (i7 < b2)) (by kernel_rfl) (fun hg36 => ?_) (fun hg36 => ?_)
      · refine cF 7 [0 ≤ i7 ∧ i7 < (lN aA)] ⟨(c32 hg36), trivial⟩ ?_
        refine iY 0 lo0p 1 (0 + Int.toNat i7) (eI (gD aA i7)) (eI (gD aA i7)) (List.map (eI) aA) (by kernel_rfl) (by kernel_rfl) (by kernel_rfl) hO (by kernel_rfl) (bU (c32 hg36)) ?_
        refine cF 12 [0 ≤ (wR (i7 - (1 : Int))) ∧ (wR (i7 - (1 : Int))) < (lN aA)] ⟨(c33 hg36), trivial⟩ ?_
        refine iY 0 lo0p 1 (0 + Int.toNat (wR (i7 - (1 : Int)))) (eI (gD aA (wR (i7 - (1 : Int))))) (eI (gD aA (wR (i7 - (1 : Int))))) (List.map (eI) aA) (by kernel_rfl) (by kernel_rfl) (by kernel_rfl) hO (by kernel_rfl) (bU (c33 hg36)) ?_
        refine nX 84 [(eI (gD aA i7)), (eI (gD aA (wR (i7 - (1 : Int)))))] (aB x34) (by kernel_rfl) (by kernel_rfl) (fF (gD aA i7) (gD aA (wR (i7 - (1 : Int)))) _ (kO hx35 hg36)) hO ?_
        intro H hO
        refine kX ?_
        exact ⟨⟨[(0, (.msl 1 lo0p 0 (List.length aA))), (1, (eI a1)), (2, (eI b2)), (7, (eI i7)), (8, (eI j8)), (32, (aB (!x34)))], by kernel_rfl, rfl, ⟨aL.refl _, aL.refl _, aL.refl _, aL.refl _, aL.refl _, aL.eq (congrArg aB (mE hg36 rfl).symm), trivial⟩⟩, hO⟩
      refine kX ?_
      exact ⟨⟨[(0, (.msl 1 lo0p 0 (List.length aA))), (1, (eI a1)), (2, (eI b2)), (7, (eI i7)), (8, (eI j8)), (32, (aB false))], by kernel_rfl, rfl, ⟨aL.refl _, aL.refl _, aL.refl _, aL.refl _, aL.refl _, aL.eq (congrArg aB (mE hg36 rfl).symm), trivial⟩⟩, hO⟩
    · rintro T H ⟨hT, hO⟩
      refine eX hT ?_
      clear hT
      refine aG (aH ?_)
      refine bR h2 (fun h2 => ?_) (fun h2 => ?_)
      · refine bS ?_
        refine bD [(0, (.msl 1 lo0p 0 (List.length aA))), (1, (eI a1)), (2, (eI b2)), (7, (eI i7)), (8, (eI j8))] ?_
        refine cG 3 ?_
        refine aP aC 3 ?_
        refine bC ?_
        exact aG (aV (aH (⟨rfl, _, (oI h2).symm, .eq (by kernel_rfl), hO, hN⟩)))
      refine jP 2 ?_
      obtain rfl := oI h2
      obtain rfl : _ = rr1 := ho1
      replace h1 : dX aA a1 b2 i7 j8 = some out1 := h1
      exact aG (aW (aW (cI (aH (⟨rfl, _, _, .eq (by kernel_rfl), hO, hN, h1⟩)))))
  refine jP 0 ?_
  obtain rfl := oI h1
  obtain rfl : _ = rr0 := ho0
  replace h0 : dW aA = some r := h0
  exact aG (aW (aW (cI (aH (⟨rfl, _, .eq (by kernel_rfl), hO, hN, h0⟩)))))

end Go.Abs
namespace Go.Abs
open Go Go.RowKit Go.Proofs
theorem rU (lo0p : Nat) (aA : (List Int)) (a1 : Int) (b2 : Int) (cC : Int) (r : (Int × List Int)) (h0 : eJ aA a1 b2 cC = some r) : lS Try.prog 85 lo0p 1 (List.map (eI) aA) (List.map (eI) r.2) [(.msl 1 lo0p 0 (List.length aA)), (eI a1), (eI b2), (eI cC)] (eI r.1) := by
  intro H0 hl0
  refine dV Try.func85 ?_
  have hO := aJ.qM hl0
  clear hl0
  obtain ⟨N0, hN0⟩ : ∃ n, n = List.length aA := ⟨_, rfl⟩
  have hN : List.length aA = N0 := hN0.symm
  unfold eJ at h0
  refine aS aC 1 [] [] ?_
  refine aN ?_
  refine gU (gV []) aC 16 ?_
  obtain ⟨c1, h0⟩ := aY h0
  refine cF 7 [0 ≤ cC ∧ cC < (lN aA)] ⟨c1, trivial⟩ ?_
  refine gJ 0 lo0p 1 (0 + Int.toNat cC) (eI (gD aA cC)) (eI (gD aA cC)) (List.map (eI) aA) hO (bU c1) ?_
  obtain ⟨c2, h0⟩ := aY h0
  refine cF 11 [0 ≤ a1 ∧ a1 < (lN aA)] ⟨c2, trivial⟩ ?_
  refine gJ 0 lo0p 1 (0 + Int.toNat a1) (eI (gD aA a1)) (eI (gD aA a1)) (List.map (eI) aA) hO (bU c2) ?_
  obtain ⟨c3, h0⟩ := aY h0
  refine cF 13 [0 ≤ a1 ∧ a1 < (lN aA)] ⟨c3, trivial⟩ ?_
  refine kD 0 lo0p 1 (0 + Int.toNat a1) (eI (gD aA a1)) (eI (gD aA cC)) (List.map (eI) aA) [(lo0p, 1, List.map (eI) (List.set aA (Int.toNat a1) (gD aA cC)))] hO (bU c3) (by simp only [List.set, gO]) ?_
  intro H hO
  replace hN : List.length (List.set aA (Int.toNat a1) (gD aA cC)) = N0 := by simpa using hN
  obtain ⟨c4, h0⟩ := aY h0
  refine cF 15 [0 ≤ cC ∧ cC < (lN aA)] ⟨c4, trivial⟩ ?_
  refine kD 0 lo0p 1 (0 + Int.toNat cC) (eI (gD (List.set aA (Int.toNat a1) (gD aA cC)) cC)) (eI (gD aA a1)) (List.map (eI) (List.set aA (Int.toNat a1) (gD aA cC))) [(lo0p, 1, List.map (eI) (List.set (List.set aA (Int.toNat a1) (gD aA cC)) (Int.toNat cC) (gD aA a1)))] hO (lR c4 (by simp [])) (by simp only [List.set, gO]) ?_
  intro H hO
  replace hN : List.length (List.set (List.set aA (Int.toNat a1) (gD aA cC)) (Int.toNat cC) (gD aA a1)) = N0 := by simpa using hN
  refine mB (by kernel_rfl) ?_
  refine eX (l := [(0, (.msl 1 lo0p 0 (List.length (List.set (List.set aA (Int.toNat a1) (gD aA cC)) (Int.toNat cC) (gD aA a1))))), (1, (eI a1)), (2, (eI b2))]) ⟨[(0, (.msl 1 lo0p 0 (List.length aA))), (1, (eI a1)), (2, (eI b2))], by kernel_rfl, rfl, ⟨aL.eq (by simp []), aL.refl _, aL.refl _, trivial⟩⟩ ?_
  refine aG (aH (?_))
  refine aS aC 6 [2] [(9, (eI (wR (a1 + (1 : Int))))), (10, (eI (wR (b2 - (1 : Int)))))] ?_
  refine jD (fun T H => ∃ aA : List Int, ∃ i9 : Int, Has T [(0, (.msl 1 lo0p 0 (List.length aA))), (9, (eI i9))] ∧ aJ ⟨H0, [lo0p], []⟩ H [(lo0p, 1, List.map (eI) aA)] ∧ List.length aA = N0 ∧ iG aA i9 = some r) ?_ ?_
  · clear hO hN h0
    rintro T H ⟨aA, i9, hT, hO, hN, h0⟩
    refine bM hT ?_
    clear hT
    unfold iG at h0
    refine aS aC 2 [9] [(8, (eI i9))] ?_
    refine bL ?_
    obtain rfl := oI h0
    exact aG (lC (x := (eI i9)) (by kernel_rfl) (aL.refl _) ⟨rfl, hO.ext, hO.at 0 (by kernel_rfl), by first | rfl | (simp only [List.length_map]; exact hN.trans hN0)⟩)
  refine cG 0 ?_
  refine iC [(0, (.msl 1 lo0p 0 (List.length (List.set (List.set aA (Int.toNat a1) (gD aA cC)) (Int.toNat cC) (gD aA a1))))), (1, (eI a1)), (9, (eI (wR (a1 + (1 : Int))))), (10, (eI (wR (b2 - (1 : Int)))))] ?_
  refine iF (fun T H => ∃ aA : List Int, ∃ i9 : Int, ∃ j10 : Int, Has T [(0, (.msl 1 lo0p 0 (List.length aA))), (1, (eI a1)), (9, (eI i9)), (10, (eI j10))] ∧ aJ ⟨H0, [lo0p], []⟩ H [(lo0p, 1, List.map (eI) aA)] ∧ List.length aA = N0 ∧ iJ aA a1 i9 j10 = some r) ?_ ⟨List.set (List.set aA (Int.toNat a1) (gD aA cC)) (Int.toNat cC) (gD aA a1), wR (a1 + (1 : Int)), wR (b2 - (1 : Int)), .eq (by kernel_rfl), hO, hN, h0⟩
  clear hO hN h0
  rintro T H ⟨aA, i9, j10, hT, hO, hN, h0⟩
  refine bM hT ?_
  clear hT
  unfold iJ at h0
  obtain ⟨rr0, hl0, h0⟩ := aT h0
  refine eP (by kernel_rfl) (fun (s : List Int × Int × Int) T H => Has T [(0, (.msl 1 lo0p 0 (List.length s.1))), (1, (eI a1)), (9, (eI s.2.1)), (10, (eI s.2.2))] ∧ aJ ⟨H0, [lo0p], []⟩ H [(lo0p, 1, List.map (eI) s.1)] ∧ List.length s.1 = N0) hl0 ⟨.eq (by kernel_rfl), hO, hN⟩ ?_
  clear hO hN
  rintro k0 s out1 T H ⟨hT, hO, hN⟩ h1 ho0
  obtain ⟨aA, i9, j10⟩ := s
  replace h1 : cM a1 aA i9 j10 = some out1 := h1
  try dsimp only at hT
  refine bM hT ?_
  clear hT
  unfold cM at h1
  refine cG 1 ?_
  refine jD (fun T H => ∃ aA : List Int, ∃ i9 : Int, Has T [(0, (.msl 1 lo0p 0 (List.length aA))), (1, (eI a1)), (9, (eI i9)), (10, (eI j10))] ∧ aJ ⟨H0, [lo0p], []⟩ H [(lo0p, 1, List.map (eI) aA)] ∧ List.length aA = N0 ∧ fE aA a1 i9 j10 = some out1) ?_ ?_
  · clear hO hN h1
    rintro T H ⟨aA, i9, hT, hO, hN, h1⟩
    refine bM hT ?_
    clear hT
    unfold fE at h1
    refine jD (fun T H => ∃ aA : List Int, ∃ j10 : Int, Has T [(0, (.msl 1 lo0p 0 (List.length aA))), (1, (eI a1)), (9, (eI i9)), (10, (eI j10))] ∧ aJ ⟨H0, [lo0p], []⟩ H [(lo0p, 1, List.map (eI) aA)] ∧ List.length aA = N0 ∧ dH aA a1 i9 j10 = some out1) ?_ ?_
    · clear hO hN h1
      rintro T H ⟨aA, j10, hT, hO, hN, h1⟩
      refine bM hT ?_
      clear hT
      unfold dH at h1
      refine aN ?_
      refine aS aC 3 [] [(64, (aB (decide (j10 < i9))))] ?_
      refine bR h1 (fun h1 => ?_) (fun h1 => ?_)
      · refine jP 0 ?_
        obtain rfl := oI h1
        obtain rfl : _ = rr0 := ho0
        replace h0 : iG aA i9 = some r := h0
        exact aG (aW (pX (by kernel_rfl) (aW (cI (aH (⟨rfl, _, _, .eq (by kernel_rfl), hO, hN, h0⟩))))))
      refine bS ?_
      refine bD [(0, (.msl 1 lo0p 0 (List.length aA))), (1, (eI a1)), (9, (eI i9)), (10, (eI j10))] ?_
      refine aN ?_
      refine gU (gV []) aC 16 ?_
      obtain ⟨c6, h1⟩ := aY h1
      refine cF 7 [0 ≤ j10 ∧ j10 < (lN aA)] ⟨c6, trivial⟩ ?_
      refine gJ 0 lo0p 1 (0 + Int.toNat j10) (eI (gD aA j10)) (eI (gD aA j10)) (List.map (eI) aA) hO (bU c6) ?_
      obtain ⟨c7, h1⟩ := aY h1
      refine cF 11 [0 ≤ i9 ∧ i9 < (lN aA)] ⟨c7, trivial⟩ ?_
      refine gJ 0 lo0p 1 (0 + Int.toNat i9) (eI (gD aA i9)) (eI (gD aA i9)) (List.map (eI) aA) hO (bU c7) ?_
      obtain ⟨c8, h1⟩ := aY h1
      refine cF 13 [0 ≤ i9 ∧ i9 < (lN aA)] ⟨c8, trivial⟩ ?_
      refine kD 0 lo0p 1 (0 + Int.toNat i9) (eI (gD aA i9)) (eI (gD aA j10)) (List.map (eI) aA) [(lo0p, 1, List.map (eI) (List.set aA (Int.toNat i9) (gD aA j10)))] hO (bU c8) (by simp only [List.set, gO]) ?_
      intro H hO
      replace hN : List.length (List.set aA (Int.toNat i9) (gD aA j10)) = N0 := by simpa using hN
      obtain ⟨c9, h1⟩ := aY h1
      refine cF 15 [0 ≤ j10 ∧ j10 < (lN aA)] ⟨c9, trivial⟩ ?_
      refine kD 0 lo0p 1 (0 + Int.toNat j10) (eI (gD (List.set aA (Int.toNat i9) (gD aA j10)) j10)) (eI (gD aA i9)) (List.map (eI) (List.set aA (Int.toNat i9) (gD aA j10))) [(lo0p, 1, List.map (eI) (List.set (List.set aA (Int.toNat i9) (gD aA j10)) (Int.toNat j10) (gD aA i9)))] hO (lR c9 (by simp [])) (by simp only [List.set, gO]) ?_
      intro H hO
      replace hN : List.length (List.set (List.set aA (Int.toNat i9) (gD aA j10)) (Int.toNat j10) (gD aA i9)) = N0 := by simpa using hN
      refine mB (by kernel_rfl) ?_
      refine eX (l := [(0, (.msl 1 lo0p 0 (List.length (List.set (List.set aA (Int.toNat i9) (gD aA j10)) (Int.toNat j10) (gD aA i9))))), (1, (eI a1)), (9, (eI i9)), (10, (eI j10))]) ⟨[(0, (.msl 1 lo0p 0 (List.length aA))), (1, (eI a1)), (9, (eI i9)), (10, (eI j10))], by kernel_rfl, rfl, ⟨aL.eq (by simp []), aL.refl _, aL.refl _, aL.refl _, trivial⟩⟩ ?_
      refine aG (aH (?_))
      refine aS aC 3 [9] [(9, (eI (wR (i9 + (1 : Int)))))] ?_
      refine aP aC 3 ?_
      refine bC ?_
      exact aG (aV (aH (⟨rfl, _, (oI h1).symm, .eq (by kernel_rfl), hO, hN⟩)))
    refine cG 4 ?_
    refine iC [(0, (.msl 1 lo0p 0 (List.length aA))), (1, (eI a1)), (9, (eI i9)), (10, (eI j10))] ?_
    refine iF (fun T H => ∃ aA : List Int, ∃ j10 : Int, Has T [(0, (.msl 1 lo0p 0 (List.length aA))), (1, (eI a1)), (9, (eI i9)), (10, (eI j10))] ∧ aJ ⟨H0, [lo0p], []⟩ H [(lo0p, 1, List.map (eI) aA)] ∧ List.length aA = N0 ∧ iH aA a1 i9 j10 = some out1) ?_ ⟨aA, j10, .eq (by kernel_rfl), hO, hN, h1⟩
    clear hO hN h1
    rintro T H ⟨aA, j10, hT, hO, hN, h1⟩
    refine bM hT ?_
    clear hT
    unfold iH at h1
    obtain ⟨rr1, hl1, h1⟩ := aT h1
    refine eP (by kernel_rfl) (fun (s : List Int × Int) T H => Has T [(0, (.msl 1 lo0p 0 (List.length s.1))), (1, (eI a1)), (9, (eI i9)), (10, (eI s.2))] ∧ aJ ⟨H0, [lo0p], []⟩ H [(lo0p, 1, List.map (eI) s.1)] ∧ List.length s.1 = N0) hl1 ⟨.eq (by kernel_rfl), hO, hN⟩ ?_
    clear hO hN
    rintro k1 s out2 T H ⟨hT, hO, hN⟩ h2 ho1
    obtain ⟨aA, j10⟩ := s
    replace h2 : dG a1 i9 aA j10 = some out2 := h2
    try dsimp only at hT
    refine bM hT ?_
    clear hT
    unfold dG at h2
    refine aN ?_
    refine aN ?_
    obtain ⟨c10, h2⟩ := aY h2
    obtain ⟨c11, h2⟩ := aY h2
    obtain ⟨x12, hx13, h2⟩ := aT h2
    refine gU (gV []) aC 14 ?_
    refine pN (K := fun T H => Has (lift T) [(0, (.msl 1 lo0p 0 (List.length aA))), (1, (eI a1)), (9, (eI i9)), (10, (eI j10)), (59, (aB ((decide (i9 ≤ j10)) && x12)))] ∧ aJ ⟨H0, [lo0p], []⟩ H [(lo0p, 1, List.map (eI) aA)]) ?_ ?_
    · refine lI 4 ?_
      refine oD (t := 49) (e := decide (i9 ≤ j10)) (by kernel_rfl) (fun hg14 => ?_) (fun hg14 => ?_)
      · refine cF 7 [0 ≤ a1 ∧ a1 < (lN aA)] ⟨(c10 hg14), trivial⟩ ?_
        refine iY 0 lo0p 1 (0 + Int.toNat a1) (eI (gD aA a1)) (eI (gD aA a1)) (List.map (eI) aA) (by kernel_rfl) (by kernel_rfl) (by kernel_rfl) hO (by kernel_rfl) (bU (c10 hg14)) ?_
        refine cF 11 [0 ≤ j10 ∧ j10 < (lN aA)] ⟨(c11 hg14), trivial⟩ ?_
        refine iY 0 lo0p 1 (0 + Int.toNat j10) (eI (gD aA j10)) (eI (gD aA j10)) (List.map (eI) aA) (by kernel_rfl) (by kernel_rfl) (by kernel_rfl) hO (by kernel_rfl) (bU (c11 hg14)) ?_
        refine nX 84 [(eI (gD aA a1)), (eI (gD aA j10))] (aB x12) (by kernel_rfl) (by kernel_rfl) (fF (gD aA a1) (gD aA j10) _ (kO hx13 hg14)) hO ?_
        intro H hO
        refine kX ?_
        exact ⟨⟨[(0, (.msl 1 lo0p 0 (List.length aA))), (1, (eI a1)), (9, (eI i9)), (10, (eI j10)), (59, (aB x12))], by kernel_rfl, rfl, ⟨aL.refl _, aL.refl _, aL.refl _, aL.refl _, aL.eq (congrArg aB (mE hg14 rfl).symm), trivial⟩⟩, hO⟩
      refine kX ?_
      exact ⟨⟨[(0, (.msl 1 lo0p 0 (List.length aA))), (1, (eI a1)), (9, (eI i9)), (10, (eI j10)), (59, (aB false))], by kernel_rfl, rfl, ⟨aL.refl _, aL.refl _, aL.refl _, aL.refl _, aL.eq (congrArg aB (mE hg14 rfl).symm), trivial⟩⟩, hO⟩
    · rintro T H ⟨hT, hO⟩
      refine eX hT ?_
      clear hT
      refine aG (aH ?_)
      refine bR h2 (fun h2 => ?_) (fun h2 => ?_)
      · refine bS ?_
        refine bD [(0, (.msl 1 lo0p 0 (List.length aA))), (1, (eI a1)), (9, (eI i9)), (10, (eI j10))] ?_
        refine cG 5 ?_
        refine aP aC 3 ?_
        refine bC ?_
        exact aG (aV (aH (⟨rfl, _, (oI h2).symm, .eq (by kernel_rfl), hO, hN⟩)))
      refine jP 4 ?_
      obtain rfl := oI h2
      obtain rfl : _ = rr1 := ho1
      replace h1 : dH aA a1 i9 j10 = some out1 := h1
      exact aG (aW (aW (cI (aH (⟨rfl, _, _, .eq (by kernel_rfl), hO, hN, h1⟩)))))
  refine cG 2 ?_
  refine iC [(0, (.msl 1 lo0p 0 (List.length aA))), (1, (eI a1)), (9, (eI i9)), (10, (eI j10))] ?_
  refine iF (fun T H => ∃ aA : List Int, ∃ i9 : Int, Has T [(0, (.msl 1 lo0p 0 (List.length aA))), (1, (eI a1)), (9, (eI i9)), (10, (eI j10))] ∧ aJ ⟨H0, [lo0p], []⟩ H [(lo0p, 1, List.map (eI) aA)] ∧ List.length aA = N0 ∧ iI aA a1 i9 j10 = some out1) ?_ ⟨aA, i9, .eq (by kernel_rfl), hO, hN, h1⟩
  clear hO hN h1
  rintro T H ⟨aA, i9, hT, hO, hN, h1⟩
  refine bM hT ?_
  clear hT
  unfold iI at h1
  obtain ⟨rr1, hl1, h1⟩ := aT h1
  refine eP (by kernel_rfl) (fun (s : List Int × Int) T H => Has T [(0, (.msl 1 lo0p 0 (List.length s.1))), (1, (eI a1)), (9, (eI s.2)), (10, (eI j10))] ∧ aJ ⟨H0, [lo0p], []⟩ H [(lo0p, 1, List.map (eI) s.1)] ∧ List.length s.1 = N0) hl1 ⟨.eq (by kernel_rfl), hO, hN⟩ ?_
  clear hO hN
  rintro k1 s out2 T H ⟨hT, hO, hN⟩ h2 ho1
  obtain ⟨aA, i9⟩ := s
  replace h2 : dF a1 j10 aA i9 = some out2 := h2
  try dsimp only at hT
  refine bM hT ?_
  clear hT
  unfold dF at h2
  refine aN ?_
  refine aN ?_
  obtain ⟨c16, h2⟩ := aY h2
  obtain ⟨c17, h2⟩ := aY h2
  obtain ⟨x18, hx19, h2⟩ := aT h2
  refine gU (gV []) aC 15 ?_
  refine pN (K := fun T H => Has (lift T) [(0, (.msl 1 lo0p 0 (List.length aA))), (1, (eI a1)), (9, (eI i9)), (10, (eI j10)), (43, (aB ((decide (i9 ≤ j10)) && (!x18))))] ∧ aJ ⟨H0, [lo0p], []⟩ H [(lo0p, 1, List.map (eI) aA)]) ?_ ?_
  · refine lI 4 ?_
    refine oD (t := 32) (e := decide (i9 ≤ j10)) (by kernel_rfl) (fun hg20 => ?_) (fun hg20 => ?_)
    · refine cF 7 [0 ≤ a1 ∧ a1 < (lN aA)] ⟨(c16 hg20), trivial⟩ ?_
      refine iY 0 lo0p 1 (0 + Int.toNat a1) (eI (gD aA a1)) (eI (gD aA a1)) (List.map (eI) aA) (by kernel_rfl) (by kernel_rfl) (by kernel_rfl) hO (by kernel_rfl) (bU (c16 hg20)) ?_
      refine cF 11 [0 ≤ i9 ∧ i9 < (lN aA)] ⟨(c17 hg20), trivial⟩ ?_
      refine iY 0 lo0p 1 (0 + Int.toNat i9) (eI (gD aA i9)) (eI (gD aA i9)) (List.map (eI) aA) (by kernel_rfl) (by kernel_rfl) (by kernel_rfl) hO (by kernel_rfl) (bU (c17 hg20)) ?_
      refine nX 84 [(eI (gD aA a1)), (eI (gD aA i9))] (aB x18) (by kernel_rfl) (by kernel_rfl) (fF (gD aA a1) (gD aA i9) _ (kO hx19 hg20)) hO ?_
      intro H hO
      refine kX ?_
      exact ⟨⟨[(0, (.msl 1 lo0p 0 (List.length aA))), (1, (eI a1)), (9, (eI i9)), (10, (eI j10)), (43, (aB (!x18)))], by kernel_rfl, rfl, ⟨aL.refl _, aL.refl _, aL.refl _, aL.refl _, aL.eq (congrArg aB (mE hg20 rfl).symm), trivial⟩⟩, hO⟩
    refine kX ?_
    exact ⟨⟨[(0, (.msl 1 lo0p 0 (List.length aA))), (1, (eI a1)), (9, (eI i9)), (10, (eI j10)), (43, (aB false))], by kernel_rfl, rfl, ⟨aL.refl _, aL.refl _, aL.refl _, aL.refl _, aL.eq (congrArg aB (mE hg20 rfl).symm), trivial⟩⟩, hO⟩
  · rintro T H ⟨hT, hO⟩
    refine eX hT ?_
    clear hT
    refine aG (aH ?_)
    refine bR h2 (fun h2 => ?_) (fun h2 => ?_)
    · refine bS ?_
      refine bD [(0, (.msl 1 lo0p 0 (List.length aA))), (1, (eI a1)), (9, (eI i9)), (10, (eI j10))] ?_
      refine cG 3 ?_
      refine aP aC 3 ?_
      refine bC ?_
      exact aG (aV (aH (⟨rfl, _, (oI h2).symm, .eq (by kernel_rfl), hO, hN⟩)))
    refine jP 2 ?_
    obtain rfl := oI h2
    obtain rfl : _ = rr1 := ho1
    replace h1 : fE aA a1 i9 j10 = some out1 := h1
    exact aG (aW (aW (cI (aH (⟨rfl, _, _, .eq (by kernel_rfl), hO, hN, h1⟩)))))

theorem tN (lo0p : Nat) (aA : (List Int)) (a1 : Int) (b2 : Int) (cC : Int) (r : ((Int × Bool) × List Int)) (h0 : fQ aA a1 b2 cC = some r) : lS Try.prog 86 lo0p 1 (List.map (eI) aA) (List.map (eI) r.2) [(.msl 1 lo0p 0 (List.length aA)), (eI a1), (eI b2), (eI cC)] (.tup [(eI r.1.1), (aB r.1.2)]) := by
  intro H0 hl0
  refine dV Try.func86 ?_
  have hO := aJ.qM hl0
  clear hl0
  obtain ⟨N0, hN0⟩ : ∃ n, n = List.length aA := ⟨_, rfl⟩
  have hN : List.length aA = N0 := hN0.symm
  unfold fQ at h0
  refine aS aC 2 [] [] ?_
  refine aN ?_
  refine gU (gV []) aC 16 ?_
  obtain ⟨c1, h0⟩ := aY h0
  refine cF 7 [0 ≤ cC ∧ cC < (lN aA)] ⟨c1, trivial⟩ ?_
  refine gJ 0 lo0p 1 (0 + Int.toNat cC) (eI (gD aA cC)) (eI (gD aA cC)) (List.map (eI) aA) hO (bU c1) ?_
  obtain ⟨c2, h0⟩ := aY h0
  refine cF 11 [0 ≤ a1 ∧ a1 < (lN aA)] ⟨c2, trivial⟩ ?_
  refine gJ 0 lo0p 1 (0 + Int.toNat a1) (eI (gD aA a1)) (eI (gD aA a1)) (List.map (eI) aA) hO (bU c2) ?_
  obtain ⟨c3, h0⟩ := aY h0
  refine cF 13 [0 ≤ a1 ∧ a1 < (lN aA)] ⟨c3, trivial⟩ ?_
  refine kD 0 lo0p 1 (0 + Int.toNat a1) (eI (gD aA a1)) (eI (gD aA cC)) (List.map (eI) aA) [(lo0p, 1, List.map (eI) (List.set aA (Int.toNat a1) (gD aA cC)))] hO (bU c3) (by simp only [List.set, gO]) ?_
  intro H hO
  replace hN : List.length (List.set aA (Int.toNat a1) (gD aA cC)) = N0 := by simpa using hN
  obtain ⟨c4, h0⟩ := aY h0
  refine cF 15 [0 ≤ cC ∧ cC < (lN aA)] ⟨c4, trivial⟩ ?_
  refine kD 0 lo0p 1 (0 + Int.toNat cC) (eI (gD (List.set aA (Int.toNat a1) (gD aA cC)) cC)) (eI (gD aA a1)) (List.map (eI) (List.set aA (Int.toNat a1) (gD aA cC))) [(lo0p, 1, List.map (eI) (List.set (List.set aA (Int.toNat a1) (gD aA cC)) (Int.toNat cC) (gD aA a1)))] hO (lR c4 (by simp [])) (by simp only [List.set, gO]) ?_
  intro H hO
  replace hN : List.length (List.set (List.set aA (Int.toNat a1) (gD aA cC)) (Int.toNat cC) (gD aA a1)) = N0 := by simpa using hN
  refine mB (by kernel_rfl) ?_
  refine eX (l := [(0, (.msl 1 lo0p 0 (List.length (List.set (List.set aA (Int.toNat a1) (gD aA cC)) (Int.toNat cC) (gD aA a1))))), (1, (eI a1)), (2, (eI b2))]) ⟨[(0, (.msl 1 lo0p 0 (List.length aA))), (1, (eI a1)), (2, (eI b2))], by kernel_rfl, rfl, ⟨aL.eq (by simp []), aL.refl _, aL.refl _, trivial⟩⟩ ?_
  refine aG (aH (?_))
  refine aS aC 6 [2] [(10, (eI (wR (a1 + (1 : Int))))), (11, (eI (wR (b2 - (1 : Int)))))] ?_
  refine jD (fun T H => ∃ aA : List Int, ∃ i10 : Int, ∃ j11 : Int, Has T [(0, (.msl 1 lo0p 0 (List.length aA))), (1, (eI a1)), (10, (eI i10)), (11, (eI j11))] ∧ aJ ⟨H0, [lo0p], []⟩ H [(lo0p, 1, List.map (eI) aA)] ∧ List.length aA = N0 ∧ hY aA a1 i10 j11 = some r) ?_ ?_
  · clear hO hN h0
    rintro T H ⟨aA, i10, j11, hT, hO, hN, h0⟩
    refine bM hT ?_
    clear hT
    unfold hY at h0
    refine jD (fun T H => ∃ aA : List Int, ∃ j11 : Int, Has T [(0, (.msl 1 lo0p 0 (List.length aA))), (1, (eI a1)), (10, (eI i10)), (11, (eI j11))] ∧ aJ ⟨H0, [lo0p], []⟩ H [(lo0p, 1, List.map (eI) aA)] ∧ List.length aA = N0 ∧ eE aA a1 i10 j11 = some r) ?_ ?_
    · clear hO hN h0
      rintro T H ⟨aA, j11, hT, hO, hN, h0⟩
      refine bM hT ?_
      clear hT
      unfold eE at h0
      refine aN ?_
      refine aS aC 3 [] [(65, (aB (decide (j11 < i10))))] ?_
      refine bR h0 (fun h0 => ?_) (fun h0 => ?_)
      · refine aN ?_
        refine gU (gV []) aC 16 ?_
        obtain ⟨c6, h0⟩ := aY h0
        refine cF 7 [0 ≤ a1 ∧ a1 < (lN aA)] ⟨c6, trivial⟩ ?_
        refine gJ 0 lo0p 1 (0 + Int.toNat a1) (eI (gD aA a1)) (eI (gD aA a1)) (List.map (eI) aA) hO (bU c6) ?_
        obtain ⟨c7, h0⟩ := aY h0
        refine cF 11 [0 ≤ j11 ∧ j11 < (lN aA)] ⟨c7, trivial⟩ ?_
        refine gJ 0 lo0p 1 (0 + Int.toNat j11) (eI (gD aA j11)) (eI (gD aA j11)) (List.map (eI) aA) hO (bU c7) ?_
        obtain ⟨c8, h0⟩ := aY h0
        refine cF 13 [0 ≤ j11 ∧ j11 < (lN aA)] ⟨c8, trivial⟩ ?_
        refine kD 0 lo0p 1 (0 + Int.toNat j11) (eI (gD aA j11)) (eI (gD aA a1)) (List.map (eI) aA) [(lo0p, 1, List.map (eI) (List.set aA (Int.toNat j11) (gD aA a1)))] hO (bU c8) (by simp only [List.set, gO]) ?_
        intro H hO
        replace hN : List.length (List.set aA (Int.toNat j11) (gD aA a1)) = N0 := by simpa using hN
        obtain ⟨c9, h0⟩ := aY h0
        refine cF 15 [0 ≤ a1 ∧ a1 < (lN aA)] ⟨c9, trivial⟩ ?_
        refine kD 0 lo0p 1 (0 + Int.toNat a1) (eI (gD (List.set aA (Int.toNat j11) (gD aA a1)) a1)) (eI (gD aA j11)) (List.map (eI) (List.set aA (Int.toNat j11) (gD aA a1))) [(lo0p, 1, List.map (eI) (List.set (List.set aA (Int.toNat j11) (gD aA a1)) (Int.toNat a1) (gD aA j11)))] hO (lR c9 (by simp [])) (by simp only [List.set, gO]) ?_
        intro H hO
        replace hN : List.length (List.set (List.set aA (Int.toNat j11) (gD aA a1)) (Int.toNat a1) (gD aA j11)) = N0 := by simpa using hN
        refine mB (by kernel_rfl) ?_
        refine eX (l := [(0, (.msl 1 lo0p 0 (List.length (List.set (List.set aA (Int.toNat j11) (gD aA a1)) (Int.toNat a1) (gD aA j11))))), (11, (eI j11))]) ⟨[(0, (.msl 1 lo0p 0 (List.length aA))), (11, (eI j11))], by kernel_rfl, rfl, ⟨aL.eq (by simp []), aL.refl _, trivial⟩⟩ ?_
        refine aG (aH (?_))
        refine aS aC 3 [11] [(8, (eI j11)), (9, (aB true))] ?_
        refine bL ?_
        obtain rfl := oI h0
        exact aG (aR (lC (x := (.tup [(eI j11), (aB true)])) (by kernel_rfl) (aL.refl _) ⟨rfl, hO.ext, hO.at 0 (by kernel_rfl), by simp only [List.length_map]; exact hN.trans hN0⟩))
      refine bS ?_
      refine bD [(0, (.msl 1 lo0p 0 (List.length aA))), (1, (eI a1)), (10, (eI i10)), (11, (eI j11))] ?_
      refine aN ?_
      refine gU (gV []) aC 16 ?_
      obtain ⟨c10, h0⟩ := aY h0
      refine cF 7 [0 ≤ j11 ∧ j11 < (lN aA)] ⟨c10, trivial⟩ ?_
      refine gJ 0 lo0p 1 (0 + Int.toNat j11) (eI (gD aA j11)) (eI (gD aA j11)) (List.map (eI) aA) hO (bU c10) ?_
      obtain ⟨c11, h0⟩ := aY h0
      refine cF 11 [0 ≤ i10 ∧ i10 < (lN aA)] ⟨c11, trivial⟩ ?_
      refine gJ 0 lo0p 1 (0 + Int.toNat i10) (eI (gD aA i10)) (eI (gD aA i10)) (List.map (eI) aA) hO (bU c11) ?_
      obtain ⟨c12, h0⟩ := aY h0
      refine cF 13 [0 ≤ i10 ∧ i10 < (lN aA)] ⟨c12, trivial⟩ ?_
      refine kD 0 lo0p 1 (0 + Int.toNat i10) (eI (gD aA i10)) (eI (gD aA j11)) (List.map (eI) aA) [(lo0p, 1, List.map (eI) (List.set aA (Int.toNat i10) (gD aA j11)))] hO (bU c12) (by simp only [List.set, gO]) ?_
      intro H hO
      replace hN : List.length (List.set aA (Int.toNat i10) (gD aA j11)) = N0 := by simpa using hN
      obtain ⟨c13, h0⟩ := aY h0
      refine cF 15 [0 ≤ j11 ∧ j11 < (lN aA)] ⟨c13, trivial⟩ ?_
      refine kD 0 lo0p 1 (0 + Int.toNat j11) (eI (gD (List.set aA (Int.toNat i10) (gD aA j11)) j11)) (eI (gD aA i10)) (List.map (eI) (List.set aA (Int.toNat i10) (gD aA j11))) [(lo0p, 1, List.map (eI) (List.set (List.set aA (Int.toNat i10) (gD aA j11)) (Int.toNat j11) (gD aA i10)))] hO (lR c13 (by simp [])) (by simp only [List.set, gO]) ?_
      intro H hO
      replace hN : List.length (List.set (List.set aA (Int.toNat i10) (gD aA j11)) (Int.toNat j11) (gD aA i10)) = N0 := by simpa using hN
      refine mB (by kernel_rfl) ?_
      refine eX (l := [(0, (.msl 1 lo0p 0 (List.length (List.set (List.set aA (Int.toNat i10) (gD aA j11)) (Int.toNat j11) (gD aA i10))))), (1, (eI a1)), (10, (eI i10)), (11, (eI j11))]) ⟨[(0, (.msl 1 lo0p 0 (List.length aA))), (1, (eI a1)), (10, (eI i10)), (11, (eI j11))], by kernel_rfl, rfl, ⟨aL.eq (by simp []), aL.refl _, aL.refl _, aL.refl _, trivial⟩⟩ ?_
      refine aG (aH (?_))
      refine aS aC 3 [10] [(10, (eI (wR (i10 + (1 : Int)))))] ?_
      refine aS aC 3 [11] [(11, (eI (wR (j11 - (1 : Int)))))] ?_
      refine jD (fun T H => ∃ aA : List Int, ∃ j11 : Int, Has T [(0, (.msl 1 lo0p 0 (List.length aA))), (1, (eI a1)), (11, (eI j11))] ∧ aJ ⟨H0, [lo0p], []⟩ H [(lo0p, 1, List.map (eI) aA)] ∧ List.length aA = N0 ∧ hU aA a1 j11 = some r) ?_ ?_
      · clear hO hN h0
        rintro T H ⟨aA, j11, hT, hO, hN, h0⟩
        refine bM hT ?_
        clear hT
        unfold hU at h0
        refine aN ?_
        refine gU (gV []) aC 16 ?_
        obtain ⟨c14, h0⟩ := aY h0
        refine cF 7 [0 ≤ a1 ∧ a1 < (lN aA)] ⟨c14, trivial⟩ ?_
        refine gJ 0 lo0p 1 (0 + Int.toNat a1) (eI (gD aA a1)) (eI (gD aA a1)) (List.map (eI) aA) hO (bU c14) ?_
        obtain ⟨c15, h0⟩ := aY h0
        refine cF 11 [0 ≤ j11 ∧ j11 < (lN aA)] ⟨c15, trivial⟩ ?_
        refine gJ 0 lo0p 1 (0 + Int.toNat j11) (eI (gD aA j11)) (eI (gD aA j11)) (List.map (eI) aA) hO (bU c15) ?_
        obtain ⟨c16, h0⟩ := aY h0
        refine cF 13 [0 ≤ j11 ∧ j11 < (lN aA)] ⟨c16, trivial⟩ ?_
        refine kD 0 lo0p 1 (0 + Int.toNat j11) (eI (gD aA j11)) (eI (gD aA a1)) (List.map (eI) aA) [(lo0p, 1, List.map (eI) (List.set aA (Int.toNat j11) (gD aA a1)))] hO (bU c16) (by simp only [List.set, gO]) ?_
        intro H hO
        replace hN : List.length (List.set aA (Int.toNat j11) (gD aA a1)) = N0 := by simpa using hN
        obtain ⟨c17, h0⟩ := aY h0
        refine cF 15 [0 ≤ a1 ∧ a1 < (lN aA)] ⟨c17, trivial⟩ ?_
        refine kD 0 lo0p 1 (0 + Int.toNat a1) (eI (gD (List.set aA (Int.toNat j11) (gD aA a1)) a1)) (eI (gD aA j11)) (List.map (eI) (List.set aA (Int.toNat j11) (gD aA a1))) [(lo0p, 1, List.map (eI) (List.set (List.set aA (Int.toNat j11) (gD aA a1)) (Int.toNat a1) (gD aA j11)))] hO (lR c17 (by simp [])) (by simp only [List.set, gO]) ?_
        intro H hO
        replace hN : List.length (List.set (List.set aA (Int.toNat j11) (gD aA a1)) (Int.toNat a1) (gD aA j11)) = N0 := by simpa using hN
        refine mB (by kernel_rfl) ?_
        refine eX (l := [(0, (.msl 1 lo0p 0 (List.length (List.set (List.set aA (Int.toNat j11) (gD aA a1)) (Int.toNat a1) (gD aA j11))))), (11, (eI j11))]) ⟨[(0, (.msl 1 lo0p 0 (List.length aA))), (11, (eI j11))], by kernel_rfl, rfl, ⟨aL.eq (by simp []), aL.refl _, trivial⟩⟩ ?_
        refine aG (aH (?_))
        refine aS aC 3 [11] [(8, (eI j11)), (9, (aB false))] ?_
        refine bL ?_
        obtain rfl := oI h0
        exact aG (lC (x := (.tup [(eI j11), (aB false)])) (by kernel_rfl) (aL.refl _) ⟨rfl, hO.ext, hO.at 0 (by kernel_rfl), by simp only [List.length_map]; exact hN.trans hN0⟩)
      refine cG 4 ?_
      refine iC [(0, (.msl 1 lo0p 0 (List.length (List.set (List.set aA (Int.toNat i10) (gD aA j11)) (Int.toNat j11) (gD aA i10))))), (1, (eI a1)), (10, (eI (wR (i10 + (1 : Int))))), (11, (eI (wR (j11 - (1 : Int)))))] ?_
      refine iF (fun T H => ∃ aA : List Int, ∃ i10 : Int, ∃ j11 : Int, Has T [(0, (.msl 1 lo0p 0 (List.length aA))), (1, (eI a1)), (10, (eI i10)), (11, (eI j11))] ∧ aJ ⟨H0, [lo0p], []⟩ H [(lo0p, 1, List.map (eI) aA)] ∧ List.length aA = N0 ∧ jM aA a1 i10 j11 = some r) ?_ ⟨List.set (List.set aA (Int.toNat i10) (gD aA j11)) (Int.toNat j11) (gD aA i10), wR (i10 + (1 : Int)), wR (j11 - (1 : Int)), .eq (by kernel_rfl), hO, hN, h0⟩
      clear hO hN h0
      rintro T H ⟨aA, i10, j11, hT, hO, hN, h0⟩
      refine bM hT ?_
      clear hT
      unfold jM at h0
      obtain ⟨rr0, hl0, h0⟩ := aT h0
      refine eP (by kernel_rfl) (fun (s : List Int × Int × Int) T H => Has T [(0, (.msl 1 lo0p 0 (List.length s.1))), (1, (eI a1)), (10, (eI s.2.1)), (11, (eI s.2.2))] ∧ aJ ⟨H0, [lo0p], []⟩ H [(lo0p, 1, List.map (eI) s.1)] ∧ List.length s.1 = N0) hl0 ⟨.eq (by kernel_rfl), hO, hN⟩ ?_
      clear hO hN
      rintro k0 s out1 T H ⟨hT, hO, hN⟩ h1 ho0
      obtain ⟨aA, i10, j11⟩ := s
      replace h1 : cY a1 aA i10 j11 = some out1 := h1
      try dsimp only at hT
      refine bM hT ?_
      clear hT
      unfold cY at h1
      refine cG 5 ?_
      refine jD (fun T H => ∃ aA : List Int, ∃ i10 : Int, Has T [(0, (.msl 1 lo0p 0 (List.length aA))), (1, (eI a1)), (10, (eI i10)), (11, (eI j11))] ∧ aJ ⟨H0, [lo0p], []⟩ H [(lo0p, 1, List.map (eI) aA)] ∧ List.length aA = N0 ∧ iB aA a1 i10 j11 = some out1) ?_ ?_
      · clear hO hN h1
        rintro T H ⟨aA, i10, hT, hO, hN, h1⟩
        refine bM hT ?_
        clear hT
        unfold iB at h1
        refine jD (fun T H => ∃ aA : List Int, ∃ j11 : Int, Has T [(0, (.msl 1 lo0p 0 (List.length aA))), (1, (eI a1)), (10, (eI i10)), (11, (eI j11))] ∧ aJ ⟨H0, [lo0p], []⟩ H [(lo0p, 1, List.map (eI) aA)] ∧ List.length aA = N0 ∧ eB aA a1 i10 j11 = some out1) ?_ ?_
        · clear hO hN h1
          rintro T H ⟨aA, j11, hT, hO, hN, h1⟩
          refine bM hT ?_
          clear hT
          unfold eB at h1
          refine aN ?_
          refine aS aC 3 [] [(134, (aB (decide (j11 < i10))))] ?_
          refine bR h1 (fun h1 => ?_) (fun h1 => ?_)
          · refine jP 4 ?_
            obtain rfl := oI h1
            obtain rfl : _ = rr0 := ho0
            replace h0 : hU aA a1 j11 = some r := h0
            exact aG (aW (pX (by kernel_rfl) (aW (cI (aH (⟨rfl, _, _, .eq (by kernel_rfl), hO, hN, h0⟩))))))
          refine bS ?_
          refine bD [(0, (.msl 1 lo0p 0 (List.length aA))), (1, (eI a1)), (10, (eI i10)), (11, (eI j11))] ?_
          refine aN ?_
          refine gU (gV []) aC 16 ?_
          obtain ⟨c19, h1⟩ := aY h1
          refine cF 7 [0 ≤ j11 ∧ j11 < (lN aA)] ⟨c19, trivial⟩ ?_
          refine gJ 0 lo0p 1 (0 + Int.toNat j11) (eI (gD aA j11)) (eI (gD aA j11)) (List.map (eI) aA) hO (bU c19) ?_
          obtain ⟨c20, h1⟩ := aY h1
          refine cF 11 [0 ≤ i10 ∧ i10 < (lN aA)] ⟨c20, trivial⟩ ?_
          refine gJ 0 lo0p 1 (0 + Int.toNat i10) (eI (gD aA i10)) (eI (gD aA i10)) (List.map (eI) aA) hO (bU c20) ?_
          obtain ⟨c21, h1⟩ := aY h1
          refine cF 13 [0 ≤ i10 ∧ i10 < (lN aA)] ⟨c21, trivial⟩ ?_
          refine kD 0 lo0p 1 (0 + Int.toNat i10) (eI (gD aA i10)) (eI (gD aA j11)) (List.map (eI) aA) [(lo0p, 1, List.map (eI) (List.set aA (Int.toNat i10) (gD aA j11)))] hO (bU c21) (by simp only [List.set, gO]) ?_
          intro H hO
          replace hN : List.length (List.set aA (Int.toNat i10) (gD aA j11)) = N0 := by simpa using hN
          obtain ⟨c22, h1⟩ := aY h1
          refine cF 15 [0 ≤ j11 ∧ j11 < (lN aA)] ⟨c22, trivial⟩ ?_
          refine kD 0 lo0p 1 (0 + Int.toNat j11) (eI (gD (List.set aA (Int.toNat i10) (gD aA j11)) j11)) (eI (gD aA i10)) (List.map (eI) (List.set aA (Int.toNat i10) (gD aA j11))) [(lo0p, 1, List.map (eI) (List.set (List.set aA (Int.toNat i10) (gD aA j11)) (Int.toNat j11) (gD aA i10)))] hO (lR c22 (by simp [])) (by simp only [List.set, gO]) ?_
          intro H hO
          replace hN : List.length (List.set (List.set aA (Int.toNat i10) (gD aA j11)) (Int.toNat j11) (gD aA i10)) = N0 := by simpa using hN
          refine mB (by kernel_rfl) ?_
          refine eX (l := [(0, (.msl 1 lo0p 0 (List.length (List.set (List.set aA (Int.toNat i10) (gD aA j11)) (Int.toNat j11) (gD aA i10))))), (1, (eI a1)), (10, (eI i10)), (11, (eI j11))]) ⟨[(0, (.msl 1 lo0p 0 (List.length aA))), (1, (eI a1)), (10, (eI i10)), (11, (eI j11))], by kernel_rfl, rfl, ⟨aL.eq (by simp []), aL.refl _, aL.refl _, aL.refl _, trivial⟩⟩ ?_
          refine aG (aH (?_))
          refine aS aC 3 [10] [(10, (eI (wR (i10 + (1 : Int)))))] ?_
          refine aP aC 3 ?_
          refine bC ?_
          exact aG (aV (aH (⟨rfl, _, (oI h1).symm, .eq (by kernel_rfl), hO, hN⟩)))
        refine cG 8 ?_
        refine iC [(0, (.msl 1 lo0p 0 (List.length aA))), (1, (eI a1)), (10, (eI i10)), (11, (eI j11))] ?_
        refine iF (fun T H => ∃ aA : List Int, ∃ j11 : Int, Has T [(0, (.msl 1 lo0p 0 (List.length aA))), (1, (eI a1)), (10, (eI i10)), (11, (eI j11))] ∧ aJ ⟨H0, [lo0p], []⟩ H [(lo0p, 1, List.map (eI) aA)] ∧ List.length aA = N0 ∧ jJ aA a1 i10 j11 = some out1) ?_ ⟨aA, j11, .eq (by kernel_rfl), hO, hN, h1⟩
        clear hO hN h1
        rintro T H ⟨aA, j11, hT, hO, hN, h1⟩
        refine bM hT ?_
        clear hT
        unfold jJ at h1
        obtain ⟨rr1, hl1, h1⟩ := aT h1
        refine eP (by kernel_rfl) (fun (s : List Int × Int) T H => Has T [(0, (.msl 1 lo0p 0 (List.length s.1))), (1, (eI a1)), (10, (eI i10)), (11, (eI s.2))] ∧ aJ ⟨H0, [lo0p], []⟩ H [(lo0p, 1, List.map (eI) s.1)] ∧ List.length s.1 = N0) hl1 ⟨.eq (by kernel_rfl), hO, hN⟩ ?_
        clear hO hN
        rintro k1 s out2 T H ⟨hT, hO, hN⟩ h2 ho1
        obtain ⟨aA, j11⟩ := s
        replace h2 : eF a1 i10 aA j11 = some out2 := h2
        try dsimp only at hT
        refine bM hT ?_
        clear hT
        unfold eF at h2
        refine aN ?_
        refine aN ?_
        obtain ⟨c23, h2⟩ := aY h2
        obtain ⟨c24, h2⟩ := aY h2
        obtain ⟨x25, hx26, h2⟩ := aT h2
        refine gU (gV []) aC 15 ?_
        refine pN (K := fun T H => Has (lift T) [(0, (.msl 1 lo0p 0 (List.length aA))), (1, (eI a1)), (10, (eI i10)), (11, (eI j11)), (129, (aB ((decide (i10 ≤ j11)) && (!x25))))] ∧ aJ ⟨H0, [lo0p], []⟩ H [(lo0p, 1, List.map (eI) aA)]) ?_ ?_
        · refine lI 4 ?_
          refine oD (t := 118) (e := decide (i10 ≤ j11)) (by kernel_rfl) (fun hg27 => ?_) (fun hg27 => ?_)
          · refine cF 7 [0 ≤ j11 ∧ j11 < (lN aA)] ⟨(c23 hg27), trivial⟩ ?_
            refine iY 0 lo0p 1 (0 + Int.toNat j11) (eI (gD aA j11)) (eI (gD aA j11)) (List.map (eI) aA) (by kernel_rfl) (by kernel_rfl) (by kernel_rfl) hO (by kernel_rfl) (bU (c23 hg27)) ?_
            refine cF 11 [0 ≤ a1 ∧ a1 < (lN aA)] ⟨(c24 hg27), trivial⟩ ?_
            refine iY 0 lo0p 1 (0 + Int.toNat a1) (eI (gD aA a1)) (eI (gD aA a1)) (List.map (eI) aA) (by kernel_rfl) (by kernel_rfl) (by kernel_rfl) hO (by kernel_rfl) (bU (c24 hg27)) ?_
            refine nX 84 [(eI (gD aA j11)), (eI (gD aA a1))] (aB x25) (by kernel_rfl) (by kernel_rfl) (fF (gD aA j11) (gD aA a1) _ (kO hx26 hg27)) hO ?_
            intro H hO
            refine kX ?_
            exact ⟨⟨[(0, (.msl 1 lo0p 0 (List.length aA))), (1, (eI a1)), (10, (eI i10)), (11, (eI j11)), (129, (aB (!x25)))], by kernel_rfl, rfl, ⟨aL.refl _, aL.refl _, aL.refl _, aL.refl _, aL.eq (congrArg aB (mE hg27 rfl).symm), trivial⟩⟩, hO⟩
          refine kX ?_
          exact ⟨⟨[(0, (.msl 1 lo0p 0 (List.length aA))), (1, (eI a1)), (10, (eI i10)), (11, (eI j11)), (129, (aB false))], by kernel_rfl, rfl, ⟨aL.refl _, aL.refl _, aL.refl _, aL.refl _, aL.eq (congrArg aB (mE hg27 rfl).symm), trivial⟩⟩, hO⟩
        · rintro T H ⟨hT, hO⟩
          refine eX hT ?_
          clear hT
          refine aG (aH ?_)
          refine bR h2 (fun h2 => ?_) (fun h2 => ?_)
          · refine bS ?_
            refine bD [(0, (.msl 1 lo0p 0 (List.length aA))), (1, (eI a1)), (10, (eI i10)), (11, (eI j11))] ?_
            refine cG 9 ?_
            refine aP aC 3 ?_
            refine bC ?_
            exact aG (aV (aH (⟨rfl, _, (oI h2).symm, .eq (by kernel_rfl), hO, hN⟩)))
          refine jP 8 ?_
          obtain rfl := oI h2
          obtain rfl : _ = rr1 := ho1
          replace h1 : eB aA a1 i10 j11 = some out1 := h1
          exact aG (aW (aW (cI (aH (⟨rfl, _, _, .eq (by kernel_rfl), hO, hN, h1⟩)))))
      refine cG 6 ?_
      refine iC [(0, (.msl 1 lo0p 0 (List.length aA))), (1, (eI a1)), (10, (eI i10)), (11, (eI j11))] ?_
      refine iF (fun T H => ∃ aA : List Int, ∃ i10 : Int, Has T [(0, (.msl 1 lo0p 0 (List.length aA))), (1, (eI a1)), (10, (eI i10)), (11, (eI j11))] ∧ aJ ⟨H0, [lo0p], []⟩ H [(lo0p, 1, List.map (eI) aA)] ∧ List.length aA = N0 ∧ jN aA a1 i10 j11 = some out1) ?_ ⟨aA, i10, .eq (by kernel_rfl), hO, hN, h1⟩
      clear hO hN h1
      rintro T H ⟨aA, i10, hT, hO, hN, h1⟩
      refine bM hT ?_
      clear hT
      unfold jN at h1
      obtain ⟨rr1, hl1, h1⟩ := aT h1
      refine eP (by kernel_rfl) (fun (s : List Int × Int) T H => Has T [(0, (.msl 1 lo0p 0 (List.length s.1))), (1, (eI a1)), (10, (eI s.2)), (11, (eI j11))] ∧ aJ ⟨H0, [lo0p], []⟩ H [(lo0p, 1, List.map (eI) s.1)] ∧ List.length s.1 = N0) hl1 ⟨.eq (by kernel_rfl), hO, hN⟩ ?_
      clear hO hN
      rintro k1 s out2 T H ⟨hT, hO, hN⟩ h2 ho1
      obtain ⟨aA, i10⟩ := s
      replace h2 : eC a1 j11 aA i10 = some out2 := h2
      try dsimp only at hT
      refine bM hT ?_
      clear hT
      unfold eC at h2
      refine aN ?_
      refine aN ?_
      obtain ⟨c29, h2⟩ := aY h2
      obtain ⟨c30, h2⟩ := aY h2
      obtain ⟨x31, hx32, h2⟩ := aT h2
      refine gU (gV []) aC 14 ?_
      refine pN (K := fun T H => Has (lift T) [(0, (.msl 1 lo0p 0 (List.length aA))), (1, (eI a1)), (10, (eI i10)), (11, (eI j11)), (112, (aB ((decide (i10 ≤ j11)) && x31)))] ∧ aJ ⟨H0, [lo0p], []⟩ H [(lo0p, 1, List.map (eI) aA)]) ?_ ?_
      · refine lI 4 ?_
        refine oD (t := 102) (e := decide (i10 ≤ j11)) (by kernel_rfl) (fun hg33 => ?_) (fun hg33 => ?_)
        · refine cF 7 [0 ≤ i10 ∧ i10 < (lN aA)] ⟨(c29 hg33), trivial⟩ ?_
          refine iY 0 lo0p 1 (0 + Int.toNat i10) (eI (gD aA i10)) (eI (gD aA i10)) (List.map (eI) aA) (by kernel_rfl) (by kernel_rfl) (by kernel_rfl) hO (by kernel_rfl) (bU (c29 hg33)) ?_
          refine cF 11 [0 ≤ a1 ∧ a1 < (lN aA)] ⟨(c30 hg33), trivial⟩ ?_
          refine iY 0 lo0p 1 (0 + Int.toNat a1) (eI (gD aA a1)) (eI (gD aA a1)) (List.map (eI) aA) (by kernel_rfl) (by kernel_rfl) (by kernel_rfl) hO (by kernel_rfl) (bU (c30 hg33)) ?_
          refine nX 84 [(eI (gD aA i10)), (eI (gD aA a1))] (aB x31) (by kernel_rfl) (by kernel_rfl) (fF (gD aA i10) (gD aA a1) _ (kO hx32 hg33)) hO ?_
          intro H hO
          refine kX ?_
          exact ⟨⟨[(0, (.msl 1 lo0p 0 (List.length aA))), (1, (eI a1)), (10, (eI i10)), (11, (eI j11)), (112, (aB x31))], by kernel_rfl, rfl, ⟨aL.refl _, aL.refl _, aL.refl _, aL.refl _, aL.eq (congrArg aB (mE hg33 rfl).symm), trivial⟩⟩, hO⟩
        refine kX ?_
        exact ⟨⟨[(0, (.msl 1 lo0p 0 (List.length aA))), (1, (eI a1)), (10, (eI i10)), (11, (eI j11)), (112, (aB false))], by kernel_rfl, rfl, ⟨aL.refl _, aL.refl _, aL.refl _, aL.refl _, aL.eq (congrArg aB (mE hg33 rfl).symm), trivial⟩⟩, hO⟩
      · rintro T H ⟨hT, hO⟩
        refine eX hT ?_
        clear hT
        refine aG (aH ?_)
        refine bR h2 (fun h2 => ?_) (fun h2 => ?_)
        · refine bS ?_
          refine bD [(0, (.msl 1 lo0p 0 (List.length aA))), (1, (eI a1)), (10, (eI i10)), (11, (eI j11))] ?_
          refine cG 7 ?_
          refine aP aC 3 ?_
          refine bC ?_
          exact aG (aV (aH (⟨rfl, _, (oI h2).symm, .eq (by kernel_rfl), hO, hN⟩)))
        refine jP 6 ?_
        obtain rfl := oI h2
        obtain rfl : _ = rr1 := ho1
        replace h1 : iB aA a1 i10 j11 = some out1 := h1
        exact aG (aW (aW (cI (aH (⟨rfl, _, _, .eq (by kernel_rfl), hO, hN, h1⟩)))))
    refine cG 2 ?_
    refine iC [(0, (.msl 1 lo0p 0 (List.length aA))), (1, (eI a1)), (10, (eI i10)), (11, (eI j11))] ?_
    refine iF (fun T H => ∃ aA : List Int, ∃ j11 : Int, Has T [(0, (.msl 1 lo0p 0 (List.length aA))), (1, (eI a1)), (10, (eI i10)), (11, (eI j11))] ∧ aJ ⟨H0, [lo0p], []⟩ H [(lo0p, 1, List.map (eI) aA)] ∧ List.length aA = N0 ∧ jK aA a1 i10 j11 = some r) ?_ ⟨aA, j11, .eq (by kernel_rfl), hO, hN, h0⟩
    clear hO hN h0
    rintro T H ⟨aA, j11, hT, hO, hN, h0⟩
    refine bM hT ?_
    clear hT
    unfold jK at h0
    obtain ⟨rr0, hl0, h0⟩ := aT h0
    refine eP (by kernel_rfl) (fun (s : List Int × Int) T H => Has T [(0, (.msl 1 lo0p 0 (List.length s.1))), (1, (eI a1)), (10, (eI i10)), (11, (eI s.2))] ∧ aJ ⟨H0, [lo0p], []⟩ H [(lo0p, 1, List.map (eI) s.1)] ∧ List.length s.1 = N0) hl0 ⟨.eq (by kernel_rfl), hO, hN⟩ ?_
    clear hO hN
    rintro k0 s out1 T H ⟨hT, hO, hN⟩ h1 ho0
    obtain ⟨aA, j11⟩ := s
    replace h1 : eH a1 i10 aA j11 = some out1 := h1
    try dsimp only at hT
    refine bM hT ?_
    clear hT
    unfold eH at h1
    refine aN ?_
    refine aN ?_
    obtain ⟨c35, h1⟩ := aY h1
    obtain ⟨c36, h1⟩ := aY h1
    obtain ⟨x37, hx38, h1⟩ := aT h1
    refine gU (gV []) aC 15 ?_
    refine pN (K := fun T H => Has (lift T) [(0, (.msl 1 lo0p 0 (List.length aA))), (1, (eI a1)), (10, (eI i10)), (11, (eI j11)), (60, (aB ((decide (i10 ≤ j11)) && (!x37))))] ∧ aJ ⟨H0, [lo0p], []⟩ H [(lo0p, 1, List.map (eI) aA)]) ?_ ?_
    · refine lI 4 ?_
      refine oD (t := 49) (e := decide (i10 ≤ j11)) (by kernel_rfl) (fun hg39 => ?_) (fun hg39 => ?_)
      · refine cF 7 [0 ≤ j11 ∧ j11 < (lN aA)] ⟨(c35 hg39), trivial⟩ ?_
        refine iY 0 lo0p 1 (0 + Int.toNat j11) (eI (gD aA j11)) (eI (gD aA j11)) (List.map (eI) aA) (by kernel_rfl) (by kernel_rfl) (by kernel_rfl) hO (by kernel_rfl) (bU (c35 hg39)) ?_
        refine cF 11 [0 ≤ a1 ∧ a1 < (lN aA)] ⟨(c36 hg39), trivial⟩ ?_
        refine iY 0 lo0p 1 (0 + Int.toNat a1) (eI (gD aA a1)) (eI (gD aA a1)) (List.map (eI) aA) (by kernel_rfl) (by kernel_rfl) (by kernel_rfl) hO (by kernel_rfl) (bU (c36 hg39)) ?_
        refine nX 84 [(eI (gD aA j11)), (eI (gD aA a1))] (aB x37) (by kernel_rfl) (by kernel_rfl) (fF (gD aA j11) (gD aA a1) _ (kO hx38 hg39)) hO ?_
        intro H hO
        refine kX ?_
        exact ⟨⟨[(0, (.msl 1 lo0p 0 (List.length aA))), (1, (eI a1)), (10, (eI i10)), (11, (eI j11)), (60, (aB (!x37)))], by kernel_rfl, rfl, ⟨aL.refl _, aL.refl _, aL.refl _, aL.refl _, aL.eq (congrArg aB (mE hg39 rfl).symm), trivial⟩⟩, hO⟩
      refine kX ?_
      exact ⟨⟨[(0, (.msl 1 lo0p 0 (List.length aA))), (1, (eI a1)), (10, (eI i10)), (11, (eI j11)), (60, (aB false))], by kernel_rfl, rfl, ⟨aL.refl _, aL.refl _, aL.refl _, aL.refl _, aL.eq (congrArg aB (mE hg39 rfl).symm), trivial⟩⟩, hO⟩
    · rintro T H ⟨hT, hO⟩
      refine eX hT ?_
      clear hT
      refine aG (aH ?_)
      refine bR h1 (fun h1 => ?_) (fun h1 => ?_)
      · refine bS ?_
        refine bD [(0, (.msl 1 lo0p 0 (List.length aA))), (1, (eI a1)), (10, (eI i10)), (11, (eI j11))] ?_
        refine cG 3 ?_
        refine aP aC 3 ?_
        refine bC ?_
        exact aG (aV (aH (⟨rfl, _, (oI h1).symm, .eq (by kernel_rfl), hO, hN⟩)))
      refine jP 2 ?_
      obtain rfl := oI h1
      obtain rfl : _ = rr0 := ho0
      replace h0 : eE aA a1 i10 j11 = some r := h0
      exact aG (aW (aW (cI (aH (⟨rfl, _, _, .eq (by kernel_rfl), hO, hN, h0⟩)))))
  refine cG 0 ?_
  refine iC [(0, (.msl 1 lo0p 0 (List.length (List.set (List.set aA (Int.toNat a1) (gD aA cC)) (Int.toNat cC) (gD aA a1))))), (1, (eI a1)), (10, (eI (wR (a1 + (1 : Int))))), (11, (eI (wR (b2 - (1 : Int)))))] ?_
  refine iF (fun T H => ∃ aA : List Int, ∃ i10 : Int, ∃ j11 : Int, Has T [(0, (.msl 1 lo0p 0 (List.length aA))), (1, (eI a1)), (10, (eI i10)), (11, (eI j11))] ∧ aJ ⟨H0, [lo0p], []⟩ H [(lo0p, 1, List.map (eI) aA)] ∧ List.length aA = N0 ∧ fA aA a1 i10 j11 = some r) ?_ ⟨List.set (List.set aA (Int.toNat a1) (gD aA cC)) (Int.toNat cC) (gD aA a1), wR (a1 + (1 : Int)), wR (b2 - (1 : Int)), .eq (by kernel_rfl), hO, hN, h0⟩
  clear hO hN h0
  rintro T H ⟨aA, i10, j11, hT, hO, hN, h0⟩
  refine bM hT ?_
  clear hT
  unfold fA at h0
  obtain ⟨rr0, hl0, h0⟩ := aT h0
  refine eP (by kernel_rfl) (fun (s : List Int × Int) T H => Has T [(0, (.msl 1 lo0p 0 (List.length s.1))), (1, (eI a1)), (10, (eI s.2)), (11, (eI j11))] ∧ aJ ⟨H0, [lo0p], []⟩ H [(lo0p, 1, List.map (eI) s.1)] ∧ List.length s.1 = N0) hl0 ⟨.eq (by kernel_rfl), hO, hN⟩ ?_
  clear hO hN
  rintro k0 s out1 T H ⟨hT, hO, hN⟩ h1 ho0
  obtain ⟨aA, i10⟩ := s
  replace h1 : dU a1 j11 aA i10 = some out1 := h1
  try dsimp only at hT
  refine bM hT ?_
  clear hT
  unfold dU at h1
  refine aN ?_
  refine aN ?_
  obtain ⟨c41, h1⟩ := aY h1
  obtain ⟨c42, h1⟩ := aY h1
  obtain ⟨x43, hx44, h1⟩ := aT h1
  refine gU (gV []) aC 14 ?_
  refine pN (K := fun T H => Has (lift T) [(0, (.msl 1 lo0p 0 (List.length aA))), (1, (eI a1)), (10, (eI i10)), (11, (eI j11)), (43, (aB ((decide (i10 ≤ j11)) && x43)))] ∧ aJ ⟨H0, [lo0p], []⟩ H [(lo0p, 1, List.map (eI) aA)]) ?_ ?_
  · refine lI 4 ?_
    refine oD (t := 33) (e := decide (i10 ≤ j11)) (by kernel_rfl) (fun hg45 => ?_) (fun hg45 => ?_)
    · refine cF 7 [0 ≤ i10 ∧ i10 < (lN aA)] ⟨(c41 hg45), trivial⟩ ?_
      refine iY 0 lo0p 1 (0 + Int.toNat i10) (eI (gD aA i10)) (eI (gD aA i10)) (List.map (eI) aA) (by kernel_rfl) (by kernel_rfl) (by kernel_rfl) hO (by kernel_rfl) (bU (c41 hg45)) ?_
      refine cF 11 [0 ≤ a1 ∧ a1 < (lN aA)] ⟨(c42 hg45), trivial⟩ ?_
      refine iY 0 lo0p 1 (0 + Int.toNat a1) (eI (gD aA a1)) (eI (gD aA a1)) (List.map (eI) aA) (by kernel_rfl) (by kernel_rfl) (by kernel_rfl) hO (by kernel_rfl) (bU (c42 hg45)) ?_
      refine nX 84 [(eI (gD aA i10)), (eI (gD aA a1))] (aB x43) (by kernel_rfl) (by kernel_rfl) (fF (gD aA i10) (gD aA a1) _ (kO hx44 hg45)) hO ?_
      intro H hO
      refine kX ?_
      exact ⟨⟨[(0, (.msl 1 lo0p 0 (List.length aA))), (1, (eI a1)), (10, (eI i10)), (11, (eI j11)), (43, (aB x43))], by kernel_rfl, rfl, ⟨aL.refl _, aL.refl _, aL.refl _, aL.refl _, aL.eq (congrArg aB (mE hg45 rfl).symm), trivial⟩⟩, hO⟩
    refine kX ?_
    exact ⟨⟨[(0, (.msl 1 lo0p 0 (List.length aA))), (1, (eI a1)), (10, (eI i10)), (11, (eI j11)), (43, (aB false))], by kernel_rfl, rfl, ⟨aL.refl _, aL.refl _, aL.refl _, aL.refl _, aL.eq (congrArg aB (mE hg45 rfl).symm), trivial⟩⟩, hO⟩
  · rintro T H ⟨hT, hO⟩
    refine eX hT ?_
    clear hT
    refine aG (aH ?_)
    refine bR h1 (fun h1 => ?_) (fun h1 => ?_)
    · refine bS ?_
      refine bD [(0, (.msl 1 lo0p 0 (List.length aA))), (1, (eI a1)), (10, (eI i10)), (11, (eI j11))] ?_
      refine cG 1 ?_
      refine aP aC 3 ?_
      refine bC ?_
      exact aG (aV (aH (⟨rfl, _, (oI h1).symm, .eq (by kernel_rfl), hO, hN⟩)))
    refine jP 0 ?_
    obtain rfl := oI h1
    obtain rfl : _ = rr0 := ho0
    replace h0 : hY aA a1 i10 j11 = some r := h0
    exact aG (aW (aW (cI (aH (⟨rfl, _, _, _, .eq (by kernel_rfl), hO, hN, h0⟩)))))

theorem sS  (rec : (List Int) → Int → Int → Int → Option (List Int)) (ih : ∀ (lo0p : Nat) (aA : (List Int)) (a1 : Int) (b2 : Int) (bT : Int) (r : List Int), rec aA a1 b2 bT = some r → lS Try.prog 61 lo0p 1 (List.map (eI) aA) (List.map (eI) r) [(.msl 1 lo0p 0 (List.length aA)), (eI a1), (eI b2), (eI bT)] (.tup [])) (lo0p : Nat) (aA : (List Int)) (a1 : Int) (b2 : Int) (bT : Int) (r : List Int) (h0 : fD rec aA a1 b2 bT = some r) : lS Try.prog 61 lo0p 1 (List.map (eI) aA) (List.map (eI) r) [(.msl 1 lo0p 0 (List.length aA)), (eI a1), (eI b2), (eI bT)] (.tup []) := by
  intro H0 hl0
  refine dV Try.func61 ?_
  have hO := aJ.qM hl0
  clear hl0
  obtain ⟨N0, hN0⟩ : ∃ n, n = List.length aA := ⟨_, rfl⟩
  have hN : List.length aA = N0 := hN0.symm
  unfold fD at h0
  refine aS aC 1 [] [(8, (aB true))] ?_
  refine aS aC 1 [] [(9, (aB true))] ?_
  refine cG 0 ?_
  refine iC [(0, (.msl 1 lo0p 0 (List.length aA))), (1, (eI a1)), (2, (eI b2)), (3, (eI bT)), (8, (aB true)), (9, (aB true))] ?_
  refine iF (fun T H => ∃ aA : List Int, ∃ a1 : Int, ∃ b2 : Int, ∃ bT : Int, ∃ bO : Bool, ∃ bG : Bool, Has T [(0, (.msl 1 lo0p 0 (List.length aA))), (1, (eI a1)), (2, (eI b2)), (3, (eI bT)), (8, (aB bO)), (9, (aB bG))] ∧ aJ ⟨H0, [lo0p], []⟩ H [(lo0p, 1, List.map (eI) aA)] ∧ List.length aA = N0 ∧ kE rec aA a1 b2 bT bO bG = some r) ?_ ⟨aA, a1, b2, bT, true, true, .eq (by kernel_rfl), hO, hN, h0⟩
  clear hO hN h0
  rintro T H ⟨aA, a1, b2, bT, bO, bG, hT, hO, hN, h0⟩
  refine bM hT ?_
  clear hT
  unfold kE at h0
  obtain ⟨rr0, hl0, h0⟩ := aT h0
  refine eP (by kernel_rfl) (fun (s : List Int × Int × Int × Int × Bool × Bool) T H => Has T [(0, (.msl 1 lo0p 0 (List.length s.1))), (1, (eI s.2.1)), (2, (eI s.2.2.1)), (3, (eI s.2.2.2.1)), (8, (aB s.2.2.2.2.1)), (9, (aB s.2.2.2.2.2))] ∧ aJ ⟨H0, [lo0p], []⟩ H [(lo0p, 1, List.map (eI) s.1)] ∧ List.length s.1 = N0) hl0 ⟨.eq (by kernel_rfl), hO, hN⟩ ?_
  clear hO hN
  rintro k0 s out1 T H ⟨hT, hO, hN⟩ h1 ho0
  obtain ⟨aA, a1, b2, bT, bO, bG⟩ := s
  replace h1 : dP rec aA a1 b2 bT bO bG = some out1 := h1
  try dsimp only at hT
  refine bM hT ?_
  clear hT
  unfold dP at h1
  refine cG 1 ?_
  refine aS aC 4 [] [(10, (eI (wR (b2 - a1))))] ?_
  refine aN ?_
  refine aS aC 2 [] [(23, (aB (decide ((wR (b2 - a1)) ≤ (12 : Int)))))] ?_
  refine bR h1 (fun h1 => ?_) (fun h1 => ?_)
  · refine aN ?_
    refine aP aC 4 ?_
    refine bN 3 ?_
    obtain ⟨x2, hx3, h1⟩ := aT h1
    refine tO [(lo0p, 1, List.map (eI) x2)] 0 (sE lo0p aA a1 b2 _ hx3) hO ?_
    intro H hO hl4
    simp only [List.length_map] at hl4
    replace hN := hl4.trans hN
    refine dQ ?_
    refine eX (l := [(0, (.msl 1 lo0p 0 (List.length x2)))]) ⟨[(0, (.msl 1 lo0p 0 (List.length aA)))], by kernel_rfl, rfl, ⟨aL.eq (by simp [hl4]), trivial⟩⟩ ?_
    refine aG (aH (?_))
    refine bL ?_
    obtain rfl := oI h1
    obtain rfl : _ = rr0 := ho0
    replace h0 : some x2 = some r := h0
    obtain rfl := oI h0
    exact aG (aR (bJ (aR (bJ (lC (x := (.tup [])) (by kernel_rfl) (aL.refl _) ⟨rfl, hO.ext, hO.at 0 (by kernel_rfl), by simp only [List.length_map]; exact hN.trans hN0⟩)))))
  refine bS ?_
  refine bD [(0, (.msl 1 lo0p 0 (List.length aA))), (1, (eI a1)), (2, (eI b2)), (3, (eI bT)), (8, (aB bO)), (9, (aB bG)), (10, (eI (wR (b2 - a1))))] ?_
  refine aN ?_
  refine aS aC 2 [] [(29, (aB (decide (bT = (0 : Int)))))] ?_
  refine bR h1 (fun h1 => ?_) (fun h1 => ?_)
  · refine aN ?_
    refine aP aC 4 ?_
    refine bN 3 ?_
    obtain ⟨x6, hx7, h1⟩ := aT h1
    refine tO [(lo0p, 1, List.map (eI) x6)] 0 (tV lo0p aA a1 b2 _ hx7) hO ?_
    intro H hO hl8
    simp only [List.length_map] at hl8
    replace hN := hl8.trans hN
    refine dQ ?_
    refine eX (l := [(0, (.msl 1 lo0p 0 (List.length x6)))]) ⟨[(0, (.msl 1 lo0p 0 (List.length aA)))], by kernel_rfl, rfl, ⟨aL.eq (by simp [hl8]), trivial⟩⟩ ?_
    refine aG (aH (?_))
    refine bL ?_
    obtain rfl := oI h1
    obtain rfl : _ = rr0 := ho0
    replace h0 : some x6 = some r := h0
    obtain rfl := oI h0
    exact aG (aR (bJ (aR (bJ (lC (x := (.tup [])) (by kernel_rfl) (aL.refl _) ⟨rfl, hO.ext, hO.at 0 (by kernel_rfl), by simp only [List.length_map]; exact hN.trans hN0⟩)))))
  refine bS ?_
  refine bD [(0, (.msl 1 lo0p 0 (List.length aA))), (1, (eI a1)), (2, (eI b2)), (3, (eI bT)), (8, (aB bO)), (9, (aB bG)), (10, (eI (wR (b2 - a1))))] ?_
  refine jD (fun T H => ∃ aA : List Int, ∃ bT : Int, ∃ dJ : Int, Has T [(0, (.msl 1 lo0p 0 (List.length aA))), (1, (eI a1)), (2, (eI b2)), (3, (eI bT)), (8, (aB bO)), (9, (aB bG)), (10, (eI dJ))] ∧ aJ ⟨H0, [lo0p], []⟩ H [(lo0p, 1, List.map (eI) aA)] ∧ List.length aA = N0 ∧ fV rec aA a1 b2 bT bO bG dJ = some out1) ?_ ?_
  · clear hO hN h1
    rintro T H ⟨aA, bT, dJ, hT, hO, hN, h1⟩
    refine bM hT ?_
    clear hT
    unfold fV at h1
    refine aN ?_
    refine aP aC 9 ?_
    refine bN 3 ?_
    obtain ⟨x9, hx10, h1⟩ := aT h1
    refine xD [] [0] (sW lo0p aA a1 b2 _ hx10) hO ?_
    intro r11 L12 H hP13 hO
    obtain ⟨rfl, rfl⟩ := hP13
    replace hO : aJ ⟨H0, [lo0p], []⟩ H [(lo0p, 1, List.map (eI) aA)] := hO
    refine bC ?_
    refine cD [] [(11, (eI x9.1)), (12, (eI x9.2))] ?_
    refine jD (fun T H => ∃ aA : List Int, ∃ fC : Int, ∃ xO : Int, Has T [(0, (.msl 1 lo0p 0 (List.length aA))), (1, (eI a1)), (2, (eI b2)), (3, (eI bT)), (8, (aB bO)), (9, (aB bG)), (10, (eI dJ)), (11, (eI fC)), (12, (eI xO))] ∧ aJ ⟨H0, [lo0p], []⟩ H [(lo0p, 1, List.map (eI) aA)] ∧ List.length aA = N0 ∧ fX rec aA a1 b2 bT bO bG dJ fC xO = some out1) ?_ ?_
    · clear hO hN h1
      rintro T H ⟨aA, fC, xO, hT, hO, hN, h1⟩
      refine bM hT ?_
      clear hT
      unfold fX at h1
      refine jD (fun T H => ∃ aA : List Int, Has T [(0, (.msl 1 lo0p 0 (List.length aA))), (1, (eI a1)), (2, (eI b2)), (3, (eI bT)), (8, (aB bO)), (9, (aB bG)), (10, (eI dJ)), (11, (eI fC))] ∧ aJ ⟨H0, [lo0p], []⟩ H [(lo0p, 1, List.map (eI) aA)] ∧ List.length aA = N0 ∧ fW rec aA a1 b2 bT bO bG dJ fC = some out1) ?_ ?_
      · clear hO hN h1
        rintro T H ⟨aA, hT, hO, hN, h1⟩
        refine bM hT ?_
        clear hT
        unfold fW at h1
        refine aN ?_
        refine aN ?_
        obtain ⟨c14, h1⟩ := aY h1
        obtain ⟨c15, h1⟩ := aY h1
        obtain ⟨x16, hx17, h1⟩ := aT h1
        refine gU (gV []) aC 15 ?_
        refine pN (K := fun T H => Has (lift T) [(0, (.msl 1 lo0p 0 (List.length aA))), (1, (eI a1)), (2, (eI b2)), (3, (eI bT)), (8, (aB bO)), (9, (aB bG)), (10, (eI dJ)), (11, (eI fC)), (87, (aB ((decide ((0 : Int) < a1)) && (!x16))))] ∧ aJ ⟨H0, [lo0p], []⟩ H [(lo0p, 1, List.map (eI) aA)]) ?_ ?_
        · refine lI 3 ?_
          refine oD (t := 75) (e := decide ((0 : Int) < a1)) (by kernel_rfl) (fun hg18 => ?_) (fun hg18 => ?_)
          · refine cF 7 [0 ≤ (wR (a1 - (1 : Int))) ∧ (wR (a1 - (1 : Int))) < (lN aA)] ⟨(c14 hg18), trivial⟩ ?_
            refine iY 0 lo0p 1 (0 + Int.toNat (wR (a1 - (1 : Int)))) (eI (gD aA (wR (a1 - (1 : Int))))) (eI (gD aA (wR (a1 - (1 : Int))))) (List.map (eI) aA) (by kernel_rfl) (by kernel_rfl) (by kernel_rfl) hO (by kernel_rfl) (bU (c14 hg18)) ?_
            refine cF 11 [0 ≤ fC ∧ fC < (lN aA)] ⟨(c15 hg18), trivial⟩ ?_
            refine iY 0 lo0p 1 (0 + Int.toNat fC) (eI (gD aA fC)) (eI (gD aA fC)) (List.map (eI) aA) (by kernel_rfl) (by kernel_rfl) (by kernel_rfl) hO (by kernel_rfl) (bU (c15 hg18)) ?_
            refine nX 84 [(eI (gD aA (wR (a1 - (1 : Int))))), (eI (gD aA fC))] (aB x16) (by kernel_rfl) (by kernel_rfl) (fF (gD aA (wR (a1 - (1 : Int)))) (gD aA fC) _ (kO hx17 hg18)) hO ?_
            intro H hO
            refine kX ?_
            exact ⟨⟨[(0, (.msl 1 lo0p 0 (List.length aA))), (1, (eI a1)), (2, (eI b2)), (3, (eI bT)), (8, (aB bO)), (9, (aB bG)), (10, (eI dJ)), (11, (eI fC)), (87, (aB (!x16)))], by kernel_rfl, rfl, ⟨aL.refl _, aL.refl _, aL.refl _, aL.refl _, aL.refl _, aL.refl _, aL.refl _, aL.refl _, aL.eq (congrArg aB (mE hg18 rfl).symm), trivial⟩⟩, hO⟩
          refine kX ?_
          exact ⟨⟨[(0, (.msl 1 lo0p 0 (List.length aA))), (1, (eI a1)), (2, (eI b2)), (3, (eI bT)), (8, (aB bO)), (9, (aB bG)), (10, (eI dJ)), (11, (eI fC)), (87, (aB false))], by kernel_rfl, rfl, ⟨aL.refl _, aL.refl _, aL.refl _, aL.refl _, aL.refl _, aL.refl _, aL.refl _, aL.refl _, aL.eq (congrArg aB (mE hg18 rfl).symm), trivial⟩⟩, hO⟩
        · rintro T H ⟨hT, hO⟩
          refine eX hT ?_
          clear hT
          refine aG (aH ?_)
          refine bR h1 (fun h1 => ?_) (fun h1 => ?_)
          · refine aN ?_
            refine aP aC 6 ?_
            refine bN 4 ?_
            obtain ⟨x20, hx21, h1⟩ := aT h1
            refine tO [(lo0p, 1, List.map (eI) x20.2)] 0 (rU lo0p aA a1 b2 fC _ hx21) hO ?_
            intro H hO hl22
            simp only [List.length_map] at hl22
            replace hN := hl22.trans hN
            refine bC ?_
            refine eX (l := [(0, (.msl 1 lo0p 0 (List.length x20.2))), (2, (eI b2)), (3, (eI bT)), (8, (aB bO)), (9, (aB bG)), (13, (eI x20.1))]) ⟨[(0, (.msl 1 lo0p 0 (List.length aA))), (2, (eI b2)), (3, (eI bT)), (8, (aB bO)), (9, (aB bG)), (13, (eI x20.1))], by kernel_rfl, rfl, ⟨aL.eq (by simp [hl22]), aL.refl _, aL.refl _, aL.refl _, aL.refl _, aL.refl _, trivial⟩⟩ ?_
            refine aG (aH (?_))
            refine aS aC 2 [13] [(1, (eI x20.1))] ?_
            refine jP 1 ?_
            exact aG (aW (cI (aH (⟨rfl, _, (oI h1).symm, .eq (by kernel_rfl), hO, hN⟩))))
          refine bS ?_
          refine bD [(0, (.msl 1 lo0p 0 (List.length aA))), (1, (eI a1)), (2, (eI b2)), (3, (eI bT)), (10, (eI dJ)), (11, (eI fC))] ?_
          refine aN ?_
          refine aP aC 10 ?_
          refine bN 4 ?_
          obtain ⟨x23, hx24, h1⟩ := aT h1
          refine tO [(lo0p, 1, List.map (eI) x23.2)] 0 (tN lo0p aA a1 b2 fC _ hx24) hO ?_
          intro H hO hl25
          simp only [List.length_map] at hl25
          replace hN := hl25.trans hN
          refine bC ?_
          refine eX (l := [(0, (.msl 1 lo0p 0 (List.length x23.2))), (1, (eI a1)), (2, (eI b2)), (3, (eI bT)), (10, (eI dJ)), (14, (eI x23.1.1)), (15, (aB x23.1.2))]) ⟨[(0, (.msl 1 lo0p 0 (List.length aA))), (1, (eI a1)), (2, (eI b2)), (3, (eI bT)), (10, (eI dJ)), (14, (eI x23.1.1)), (15, (aB x23.1.2))], by kernel_rfl, rfl, ⟨aL.eq (by simp [hl25]), aL.refl _, aL.refl _, aL.refl _, aL.refl _, aL.refl _, aL.refl _, trivial⟩⟩ ?_
          refine aG (aH (?_))
          refine aS aC 2 [15] [(9, (aB x23.1.2))] ?_
          refine aS aC 8 [] [(16, (eI (wR (x23.1.1 - a1)))), (17, (eI (wR (b2 - x23.1.1))))] ?_
          refine aN ?_
          refine aP aC 3 ?_
          obtain ⟨c26, h1⟩ := aY h1
          refine rY [(8 : Int) ≠ 0] ⟨c26, trivial⟩ ?_
          refine cD [10] [(18, (eI (wR (Int.tdiv dJ (8 : Int)))))] ?_
          refine aS aC 3 [] [(113, (aB (decide ((wR (x23.1.1 - a1)) < (wR (b2 - x23.1.1))))))] ?_
          refine bR h1 (fun h1 => ?_) (fun h1 => ?_)
          · refine cO aC 4 [(0, (.msl 1 lo0p 0 (List.length x23.2))), (1, (eI a1)), (2, (eI b2)), (3, (eI bT)), (8, (aB (decide ((wR (Int.tdiv dJ (8 : Int))) ≤ (wR (x23.1.1 - a1)))))), (9, (aB x23.1.2)), (14, (eI x23.1.1))] ?_
            refine aN ?_
            refine aP aC 5 ?_
            refine bN 4 ?_
            obtain ⟨x28, hx29, h1⟩ := aT h1
            refine tO [(lo0p, 1, List.map (eI) x28)] 0 (ih lo0p x23.2 a1 x23.1.1 bT _ hx29) hO ?_
            intro H hO hl30
            simp only [List.length_map] at hl30
            replace hN := hl30.trans hN
            refine dQ ?_
            refine eX (l := [(0, (.msl 1 lo0p 0 (List.length x28))), (2, (eI b2)), (3, (eI bT)), (8, (aB (decide ((wR (Int.tdiv dJ (8 : Int))) ≤ (wR (x23.1.1 - a1)))))), (9, (aB x23.1.2)), (14, (eI x23.1.1))]) ⟨[(0, (.msl 1 lo0p 0 (List.length x23.2))), (2, (eI b2)), (3, (eI bT)), (8, (aB (decide ((wR (Int.tdiv dJ (8 : Int))) ≤ (wR (x23.1.1 - a1)))))), (9, (aB x23.1.2)), (14, (eI x23.1.1))], by kernel_rfl, rfl, ⟨aL.eq (by simp [hl30]), aL.refl _, aL.refl _, aL.refl _, aL.refl _, aL.refl _, trivial⟩⟩ ?_
            refine aG (aH (?_))
            refine aP aC 3 ?_
            refine bC ?_
            exact aG (aV (aH (⟨rfl, _, (oI h1).symm, .eq (by kernel_rfl), hO, hN⟩)))
          refine cO aC 4 [(0, (.msl 1 lo0p 0 (List.length x23.2))), (1, (eI a1)), (2, (eI b2)), (3, (eI bT)), (8, (aB (decide ((wR (Int.tdiv dJ (8 : Int))) ≤ (wR (b2 - x23.1.1)))))), (9, (aB x23.1.2)), (14, (eI x23.1.1))] ?_
          refine aN ?_
          refine aP aC 6 ?_
          refine bN 5 ?_
          obtain ⟨x31, hx32, h1⟩ := aT h1
          refine tO [(lo0p, 1, List.map (eI) x31)] 0 (ih lo0p x23.2 (wR (x23.1.1 + (1 : Int))) b2 bT _ hx32) hO ?_
          intro H hO hl33
          simp only [List.length_map] at hl33
          replace hN := hl33.trans hN
          refine dQ ?_
          refine eX (l := [(0, (.msl 1 lo0p 0 (List.length x31))), (1, (eI a1)), (3, (eI bT)), (8, (aB (decide ((wR (Int.tdiv dJ (8 : Int))) ≤ (wR (b2 - x23.1.1)))))), (9, (aB x23.1.2)), (14, (eI x23.1.1))]) ⟨[(0, (.msl 1 lo0p 0 (List.length x23.2))), (1, (eI a1)), (3, (eI bT)), (8, (aB (decide ((wR (Int.tdiv dJ (8 : Int))) ≤ (wR (b2 - x23.1.1)))))), (9, (aB x23.1.2)), (14, (eI x23.1.1))], by kernel_rfl, rfl, ⟨aL.eq (by simp [hl33]), aL.refl _, aL.refl _, aL.refl _, aL.refl _, aL.refl _, trivial⟩⟩ ?_
          refine aG (aH (?_))
          refine aP aC 2 ?_
          refine bC ?_
          exact aG (aV (aH (⟨rfl, _, (oI h1).symm, .eq (by kernel_rfl), hO, hN⟩)))
      refine aS aC 8 [12] [(68, (aB ((bO && bG) && (decide (xO = (1 : Int))))))] ?_
      refine bR h1 (fun h1 => ?_) (fun h1 => ?_)
      · refine aN ?_
        refine aP aC 4 ?_
        refine bN 3 ?_
        obtain ⟨x35, hx36, h1⟩ := aT h1
        refine tO [(lo0p, 1, List.map (eI) x35.2)] 0 (oO lo0p aA a1 b2 _ hx36) hO ?_
        intro H hO hl37
        simp only [List.length_map] at hl37
        replace hN := hl37.trans hN
        refine dQ ?_
        refine eX (l := [(0, (.msl 1 lo0p 0 (List.length x35.2))), (1, (eI a1)), (2, (eI b2)), (3, (eI bT)), (8, (aB bO)), (9, (aB bG)), (10, (eI dJ)), (11, (eI fC)), (72, (aB x35.1))]) ⟨[(0, (.msl 1 lo0p 0 (List.length aA))), (1, (eI a1)), (2, (eI b2)), (3, (eI bT)), (8, (aB bO)), (9, (aB bG)), (10, (eI dJ)), (11, (eI fC)), (72, (aB x35.1))], by kernel_rfl, rfl, ⟨aL.eq (by simp [hl37]), aL.refl _, aL.refl _, aL.refl _, aL.refl _, aL.refl _, aL.refl _, aL.refl _, aL.refl _, trivial⟩⟩ ?_
        refine aG (aH (?_))
        refine bR h1 (fun h1 => ?_) (fun h1 => ?_)
        · refine bL ?_
          obtain rfl := oI h1
          obtain rfl : _ = rr0 := ho0
          replace h0 : some x35.2 = some r := h0
          obtain rfl := oI h0
          exact aG (aR (bJ (aR (bJ (lC (x := (.tup [])) (by kernel_rfl) (aL.refl _) ⟨rfl, hO.ext, hO.at 0 (by kernel_rfl), by simp only [List.length_map]; exact hN.trans hN0⟩)))))
        refine bS ?_
        exact aG (aH (⟨rfl, _, .eq (by kernel_rfl), hO, hN, h1⟩))
      refine bS ?_
      exact aG (aH (⟨rfl, _, .eq (by kernel_rfl), hO, hN, h1⟩))
    refine aS aC 2 [] [(50, (aB (decide (x9.2 = (2 : Int)))))] ?_
    refine bR h1 (fun h1 => ?_) (fun h1 => ?_)
    · refine aN ?_
      refine aP aC 4 ?_
      refine bN 3 ?_
      obtain ⟨x40, hx41, h1⟩ := aT h1
      refine tO [(lo0p, 1, List.map (eI) x40)] 0 (sU lo0p aA a1 b2 _ hx41) hO ?_
      intro H hO hl42
      simp only [List.length_map] at hl42
      replace hN := hl42.trans hN
      refine dQ ?_
      refine eX (l := [(0, (.msl 1 lo0p 0 (List.length x40))), (1, (eI a1)), (2, (eI b2)), (3, (eI bT)), (8, (aB bO)), (9, (aB bG)), (10, (eI dJ)), (11, (eI x9.1))]) ⟨[(0, (.msl 1 lo0p 0 (List.length aA))), (1, (eI a1)), (2, (eI b2)), (3, (eI bT)), (8, (aB bO)), (9, (aB bG)), (10, (eI dJ)), (11, (eI x9.1))], by kernel_rfl, rfl, ⟨aL.eq (by simp [hl42]), aL.refl _, aL.refl _, aL.refl _, aL.refl _, aL.refl _, aL.refl _, aL.refl _, trivial⟩⟩ ?_
      refine aG (aH (?_))
      refine aS aC 7 [11] [(11, (eI (wR ((wR (b2 - (1 : Int))) - (wR (x9.1 - a1))))))] ?_
      refine aP aC 1 ?_
      refine bC ?_
      exact aG (aH (⟨rfl, _, _, _, .eq (by kernel_rfl), hO, hN, h1⟩))
    refine bS ?_
    exact aG (aH (⟨rfl, _, _, _, .eq (by kernel_rfl), hO, hN, h1⟩))
  refine aS aC 2 [] [(35, (aB (!bO)))] ?_
  refine bR h1 (fun h1 => ?_) (fun h1 => ?_)
  · refine aN ?_
    refine aP aC 4 ?_
    refine bN 3 ?_
    obtain ⟨x44, hx45, h1⟩ := aT h1
    refine tO [(lo0p, 1, List.map (eI) x44)] 0 (sF lo0p aA a1 b2 _ hx45) hO ?_
    intro H hO hl46
    simp only [List.length_map] at hl46
    replace hN := hl46.trans hN
    refine dQ ?_
    refine eX (l := [(0, (.msl 1 lo0p 0 (List.length x44))), (1, (eI a1)), (2, (eI b2)), (3, (eI bT)), (8, (aB bO)), (9, (aB bG)), (10, (eI (wR (b2 - a1))))]) ⟨[(0, (.msl 1 lo0p 0 (List.length aA))), (1, (eI a1)), (2, (eI b2)), (3, (eI bT)), (8, (aB bO)), (9, (aB bG)), (10, (eI (wR (b2 - a1))))], by kernel_rfl, rfl, ⟨aL.eq (by simp [hl46]), aL.refl _, aL.refl _, aL.refl _, aL.refl _, aL.refl _, aL.refl _, trivial⟩⟩ ?_
    refine aG (aH (?_))
    refine aP aC 3 ?_
    refine bC ?_
    exact aG (aH (⟨rfl, _, _, _, .eq (by kernel_rfl), hO, hN, h1⟩))
  refine bS ?_
  exact aG (aH (⟨rfl, _, _, _, .eq (by kernel_rfl), hO, hN, h1⟩))

theorem nI  : ∀ (k : Nat) (lo0p : Nat) (aA : (List Int)) (a1 : Int) (b2 : Int) (bT : Int) (r : List Int), cW k aA a1 b2 bT = some r → lS Try.prog 61 lo0p 1 (List.map (eI) aA) (List.map (eI) r) [(.msl 1 lo0p 0 (List.length aA)), (eI a1), (eI b2), (eI bT)] (.tup [])
  | 0, _, _, _, _, _, _, h => by cases h
  | k + 1, lo0p, aA, a1, b2, bT, r, h => sS  _ (nI  k) lo0p aA a1 b2 bT r h

theorem uL (lo0p : Nat) (aA : (List Int)) (a1 : Int) (b2 : Int) (bT : Int) (r : List Int) (h0 : iX aA a1 b2 bT = some r) : lS Try.prog 61 lo0p 1 (List.map (eI) aA) (List.map (eI) r) [(.msl 1 lo0p 0 (List.length aA)), (eI a1), (eI b2), (eI bT)] (.tup []) := by
  obtain ⟨k, hk⟩ := GP h0
  exact nI  k lo0p aA a1 b2 bT r hk

theorem xT (lo0p : Nat) (x0 : (List Int)) (r : List Int) (h0 : jS x0 = some r) : lS Try.prog 34 lo0p 1 (List.map (eI) x0) (List.map (eI) r) [(.msl 1 lo0p 0 (List.length x0))] (.tup []) := by
  intro H0 hl0
  refine dV Try.func34 ?_
  have hO := aJ.qM hl0
  clear hl0
  obtain ⟨N0, hN0⟩ : ∃ n, n = List.length x0 := ⟨_, rfl⟩
  have hN : List.length x0 = N0 := hN0.symm
  unfold jS at h0
  refine aS aC 3 [] [(2, (eI (lN x0)))] ?_
  refine aP aC 6 ?_
  refine bN 4 ?_
  obtain ⟨x1, hx2, h0⟩ := aT h0
  refine fB (wN (IntKind.u64.wrap (lN x0)) _ hx2) hO ?_
  intro H hO
  obtain ⟨x4, hx5, h0⟩ := aT h0
  refine tO [(lo0p, 1, List.map (eI) x4)] 0 (uL lo0p x0 (0 : Int) (lN x0) x1 _ hx5) hO ?_
  intro H hO hl6
  simp only [List.length_map] at hl6
  replace hN := hl6.trans hN
  refine dQ ?_
  refine eX (l := [(0, (.msl 1 lo0p 0 (List.length x4)))]) ⟨[(0, (.msl 1 lo0p 0 (List.length x0)))], by kernel_rfl, rfl, ⟨aL.eq (by simp [hl6]), trivial⟩⟩ ?_
  obtain rfl := oI h0
  exact aG (tI (x := (.tup [])) (by kernel_rfl) (aL.refl _) ⟨rfl, hO.ext, hO.at 0 (by kernel_rfl), by simp only [List.length_map]; exact hN.trans hN0⟩)

theorem MD (f0 : (List aF)) (r : (List aF)) (h0 : uA f0 = some r) : dZ Try.prog 57 [(eL aK f0)] (.fn (.func 75) [] [(.rp (eL aK r))]) := by
  intro H0
  refine dV Try.func57 ?_
  have hO := aJ.start H0
  unfold uA at h0
  refine aN ?_
  refine aP aC 2 ?_
  refine gM 1 (eL aK f0) (by kernel_rfl) (by kernel_rfl) ?_
  refine bC ?_
  refine bD [(1, (.rp (eL aK f0)))] ?_
  refine cO aC 2 [(2, (.fn (.func 75) [] [(.rp (eL aK f0))]))] ?_
  refine bL ?_
  obtain rfl := oI h0
  exact aG (lC (x := (.fn (.func 75) [] [(.rp (eL aK f0))])) (by kernel_rfl) (aL.refl _) ⟨rfl, hO.out⟩)

theorem EJ {σ : Type} (I : σ → Gs → Prop) (yield0_b : Nat) (cE : σ → bB → Option (σ × Bool)) (yield0_h : ∀ st a0 st2 r, cE st a0 = some (st2, r) → vA Try.prog (yv yield0_b) I st [(bV a0)] st2 (aB r)) (t1 : (List aF)) (sg0 : σ) (r : σ) (h0 : nO cE t1 sg0 = some r) : sM Try.prog 75 I sg0 [(yv yield0_b), (.rp (eL aK t1))] r (.tup []) := by
  intro H0 G0 hI hg
  refine dV Try.func75 ?_
  obtain ⟨G, hO, hI⟩ : ∃ G, aJ ⟨H0, List.map (fun p : Nat × cR => p.1) G0, G⟩ H0 [] ∧ I sg0 G := ⟨G0, aJ.xU hg, hI⟩
  clear hg
  unfold nO at h0
  refine aS aC 2 [] [(3, (eI (0 : Int))), (4, (eI (0 : Int)))] ?_
  refine jD (fun T H => ∃ sg : σ, ∃ n3 : Int, ∃ jF : Int, ∃ G : Gs, Has T [(0, (yv yield0_b)), (3, (eI n3)), (4, (eI jF))] ∧ aJ ⟨H0, List.map (fun p : Nat × cR => p.1) G0, G⟩ H [] ∧ I sg G ∧ lP cE sg n3 jF = some r) ?_ ?_
  · clear hO hI h0
    rintro T H ⟨sg, n3, jF, G, hT, hO, hI, h0⟩
    refine bM hT ?_
    clear hT
    unfold lP at h0
    refine aS aC 2 [3] [(34, (aB (decide ((0 : Int) < n3))))] ?_
    refine bR h0 (fun h0 => ?_) (fun h0 => ?_)
    · refine aP aC 4 ?_
      refine bN 3 ?_
      obtain ⟨x2, hx3, h0⟩ := aT h0
      refine BD (I := I) (yv yield0_b) [(bV (bB.mk jF (1125899906842624 : Int)))] (aB x2.2) (by kernel_rfl) (by kernel_rfl) (yield0_h _ (bB.mk jF (1125899906842624 : Int)) x2.1 x2.2 hx3) hO hI ?_
      intro G H hO hI
      refine dQ ?_
      obtain rfl := oI h0
      exact aG (tI (x := (.tup [])) (by kernel_rfl) (aL.refl _) ⟨rfl, G, hI, hO.tU⟩)
    refine bS ?_
    obtain rfl := oI h0
    exact aG (tI (x := (.tup [])) (by kernel_rfl) (aL.refl _) ⟨rfl, G, hI, hO.tU⟩)
  refine aS aC 3 [1] [(7, (eL aK t1)), (8, (eI (lN t1))), (9, (eI (0 : Int)))] ?_
  refine cG 0 ?_
  refine iC [(0, (yv yield0_b)), (3, (eI (0 : Int))), (4, (eI (0 : Int))), (7, (eL aK t1)), (8, (eI (lN t1))), (9, (eI (0 : Int)))] ?_
  refine iF (fun T H => ∃ sg : σ, ∃ n3 : Int, ∃ jF : Int, ∃ t7 : (List aF), ∃ t8 : Int, ∃ t9 : Int, ∃ G : Gs, Has T [(0, (yv yield0_b)), (3, (eI n3)), (4, (eI jF)), (7, (eL aK t7)), (8, (eI t8)), (9, (eI t9))] ∧ aJ ⟨H0, List.map (fun p : Nat × cR => p.1) G0, G⟩ H [] ∧ I sg G ∧ oQ cE sg n3 jF t7 t8 t9 = some r) ?_ ⟨sg0, (0 : Int), (0 : Int), t1, (lN t1), (0 : Int), G, .eq (by kernel_rfl), hO, hI, h0⟩
  clear hO hI h0
  rintro T H ⟨sg, n3, jF, t7, t8, t9, G, hT, hO, hI, h0⟩
  refine bM hT ?_
  clear hT
  unfold oQ at h0
  obtain ⟨rr0, hl0, h0⟩ := aT h0
  refine eP (by kernel_rfl) (fun (s : σ × Int × Int × Int) T H => ∃ G : Gs, Has T [(0, (yv yield0_b)), (3, (eI s.2.1)), (4, (eI s.2.2.1)), (7, (eL aK t7)), (8, (eI t8)), (9, (eI s.2.2.2))] ∧ aJ ⟨H0, List.map (fun p : Nat × cR => p.1) G0, G⟩ H [] ∧ I s.1 G) hl0 ⟨G, .eq (by kernel_rfl), hO, hI⟩ ?_
  clear hO hI
  rintro k0 s out1 T H ⟨G, hT, hO, hI⟩ h1 ho0
  obtain ⟨sg, n3, jF, t9⟩ := s
  replace h1 : fI cE t7 t8 sg n3 jF t9 = some out1 := h1
  try dsimp only at hT
  refine bM hT ?_
  clear hT
  unfold fI at h1
  refine aS aC 1 [] [(10, (aB (decide (t9 < t8))))] ?_
  refine aN ?_
  refine bR h1 (fun h1 => ?_) (fun h1 => ?_)
  · refine bS ?_
    refine bD [(0, (yv yield0_b)), (3, (eI n3)), (4, (eI jF)), (7, (eL aK t7)), (8, (eI t8)), (9, (eI t9))] ?_
    refine aN ?_
    refine cG 1 ?_
    refine aN ?_
    refine aP aC 4 ?_
    obtain ⟨c5, h1⟩ := aY h1
    refine yB 2 [0 ≤ t9 ∧ t9 < (lN t7)] ⟨c5, trivial⟩ ?_
    refine kI 2 (aK (aF.mk 0 0)) (by kernel_rfl) (by kernel_rfl) hO ?_
    intro lo6 H hO
    refine iT 0 lo6 2 0 (aK (aF.mk 0 0)) (aK (gD t7 t9)) [(aK (aF.mk 0 0))] [(lo6, 2, [(aK (gD t7 t9))])] hO rfl (by kernel_rfl) ?_
    intro H hO
    refine dQ ?_
    refine cD [] [(6, (.lp lo6 0 0))] ?_
    refine jD (fun T H => ∃ sg : σ, ∃ jF : Int, ∃ j6 : aF, ∃ G : Gs, Has T [(0, (yv yield0_b)), (3, (eI n3)), (4, (eI jF)), (6, (.lp lo6 0 0)), (7, (eL aK t7)), (8, (eI t8)), (9, (eI t9))] ∧ aJ ⟨H0, List.map (fun p : Nat × cR => p.1) G0, G⟩ H [(lo6, 2, [(aK j6)])] ∧ I sg G ∧ kU cE sg n3 jF j6 t7 t8 t9 = some out1) ?_ ?_
    · clear hO hI h1
      rintro T H ⟨sg, jF, j6, G, hT, hO, hI, h1⟩
      refine bM hT ?_
      clear hT
      unfold kU at h1
      refine aN ?_
      refine aP aC 5 ?_
      refine bN 2 ?_
      refine mQ 0 lo6 2 0 (aK j6) (eI j6.Net) [(aK j6)] hO rfl ?_
      refine bC ?_
      refine cD [3] [(3, (eI (wR (n3 + j6.Net))))] ?_
      refine aN ?_
      refine aP aC 11 ?_
      refine bN 6 ?_
      refine sV [(23, true)] 0 lo6 2 0 (aK j6) (eI j6.At) [(aK j6)] (by kernel_rfl) (by kernel_rfl) hO (by kernel_rfl) (decide ((wR (n3 + j6.Net)) = (0 : Int))) (by kernel_rfl) (fun hb7 => rfl) ?_
      refine bN 8 ?_
      obtain ⟨⟨x10, x11⟩, hx9, h1⟩ := aT h1
      replace hx9 := WX hx9
      refine UZ (I := I) [(23, true)] (decide ((wR (n3 + j6.Net)) = (0 : Int))) (yv yield0_b) [(bV (bB.mk jF j6.At))] (aB x11) ⟨fun hb => yield0_h _ (bB.mk jF j6.At) x10 x11 (hx9.1 hb), hx9.2⟩ hO hI ?_
      intro G H hO hI
      refine bC ?_
      replace hO := hO.pick (L' := []) [] (by decide) (by kernel_rfl)
      refine cD [6] [(31, (aB ((decide ((wR (n3 + j6.Net)) = (0 : Int))) && (!x11))))] ?_
      refine bR h1 (fun h1 => ?_) (fun h1 => ?_)
      · refine bL ?_
        obtain rfl := oI h1
        obtain rfl : _ = rr0 := ho0
        replace h0 : some x10 = some r := h0
        obtain rfl := oI h0
        exact aG (bJ (aR (aR (bJ (aR (lC (x := (.tup [])) (by kernel_rfl) (aL.refl _) ⟨rfl, G, hI, hO.tU⟩))))))
      refine bS ?_
      refine iM [(0, (yv yield0_b)), (3, (eI (wR (n3 + j6.Net)))), (4, (eI jF)), (7, (eL aK t7)), (8, (eI t8)), (9, (eI t9))] ?_
      refine aG (aV (aH (?_)))
      refine aP aC 2 ?_
      refine bC ?_
      exact aG (aH (⟨rfl, _, (oI h1).symm, _, .eq (by kernel_rfl), hO, hI⟩))
    refine aS aC 2 [] [(14, (aB (decide (n3 = (0 : Int)))))] ?_
    refine bR h1 (fun h1 => ?_) (fun h1 => ?_)
    · refine aP aC 3 ?_
      refine bN 1 ?_
      refine mQ 0 lo6 2 0 (aK (gD t7 t9)) (eI ((gD t7 t9).At)) [(aK (gD t7 t9))] hO rfl ?_
      refine bC ?_
      exact aG (aH (⟨rfl, _, _, _, _, .eq (by kernel_rfl), hO, hI, h1⟩))
    refine bS ?_
    exact aG (aH (⟨rfl, _, _, _, _, .eq (by kernel_rfl), hO, hI, h1⟩))
  refine jP 0 ?_
  obtain rfl := oI h1
  obtain rfl : _ = rr0 := ho0
  replace h0 : lP cE sg n3 jF = some r := h0
  exact aG (aW (aW (cI (aH (⟨rfl, _, _, _, _, .eq (by kernel_rfl), hO, hI, h0⟩)))))

theorem RG (f0 : (List aF)) (t1 : Int) (r : Int) (h0 : uK f0 t1 = some r) : dZ Try.prog 77 [(eL aK f0), (eI t1)] (eI r) := by
  intro H0
  refine dV Try.func77 ?_
  have hO := aJ.start H0
  unfold uK at h0
  refine aS aC 1 [] [] ?_
  refine aN ?_
  refine aN ?_
  refine aP aC 3 ?_
  refine bN 1 ?_
  obtain ⟨x1, hx2, h0⟩ := aT h0
  refine fB (uY f0 _ hx2) hO ?_
  intro H hO
  refine bC ?_
  refine cD [] [(10, (aB (!x1)))] ?_
  refine bR h0 (fun h0 => ?_) (fun h0 => ?_)
  · refine cO aC 1 [(4, (eI (0 : Int)))] ?_
    refine bL ?_
    obtain rfl := oI h0
    exact aG (aR (Q_r hO))
  refine bS ?_
  refine bD [(0, (eL aK f0)), (1, (eI t1))] ?_
  refine aS aC 1 [] [(5, (eI (0 : Int)))] ?_
  refine jD (fun T H => ∃ v5 : Int, Has T [(5, (eI v5))] ∧ aJ ⟨H0, [], []⟩ H [] ∧ rO v5 = some r) ?_ ?_
  · clear hO h0
    rintro T H ⟨v5, hT, hO, h0⟩
    refine bM hT ?_
    clear hT
    unfold rO at h0
    refine cO aC 2 [(4, (eI v5))] ?_
    refine bL ?_
    obtain rfl := oI h0
    exact aG (Q_r hO)
  refine aS aC 3 [0] [(11, (eL aK f0)), (12, (eI (lN f0))), (13, (eI (0 : Int)))] ?_
  refine cG 0 ?_
  refine iC [(1, (eI t1)), (5, (eI (0 : Int))), (11, (eL aK f0)), (12, (eI (lN f0))), (13, (eI (0 : Int)))] ?_
  refine iF (fun T H => ∃ v5 : Int, ∃ t11 : (List aF), ∃ t12 : Int, ∃ t13 : Int, Has T [(1, (eI t1)), (5, (eI v5)), (11, (eL aK t11)), (12, (eI t12)), (13, (eI t13))] ∧ aJ ⟨H0, [], []⟩ H [] ∧ uX t1 v5 t11 t12 t13 = some r) ?_ ⟨(0 : Int), f0, (lN f0), (0 : Int), .eq (by kernel_rfl), hO, h0⟩
  clear hO h0
  rintro T H ⟨v5, t11, t12, t13, hT, hO, h0⟩
  refine bM hT ?_
  clear hT
  unfold uX at h0
  obtain ⟨rr0, hl0, h0⟩ := aT h0
  refine eP (by kernel_rfl) (fun (s : Int × Int) T H => Has T [(1, (eI t1)), (5, (eI s.1)), (11, (eL aK t11)), (12, (eI t12)), (13, (eI s.2))] ∧ aJ ⟨H0, [], []⟩ H []) hl0 ⟨.eq (by kernel_rfl), hO⟩ ?_
  clear hO
  rintro k0 s out1 T H ⟨hT, hO⟩ h1 ho0
  obtain ⟨v5, t13⟩ := s
  replace h1 : lV t1 t11 t12 v5 t13 = some out1 := h1
  try dsimp only at hT
  refine bM hT ?_
  clear hT
  unfold lV at h1
  refine aS aC 1 [] [(14, (aB (decide (t13 < t12))))] ?_
  refine aN ?_
  refine bR h1 (fun h1 => ?_) (fun h1 => ?_)
  · refine bS ?_
    refine bD [(1, (eI t1)), (5, (eI v5)), (11, (eL aK t11)), (12, (eI t12)), (13, (eI t13))] ?_
    refine aN ?_
    refine cG 1 ?_
    refine aN ?_
    refine aP aC 4 ?_
    obtain ⟨c6, h1⟩ := aY h1
    refine yB 2 [0 ≤ t13 ∧ t13 < (lN t11)] ⟨c6, trivial⟩ ?_
    refine kI 2 (aK (aF.mk 0 0)) (by kernel_rfl) (by kernel_rfl) hO ?_
    intro lo7 H hO
    refine iT 0 lo7 2 0 (aK (aF.mk 0 0)) (aK (gD t11 t13)) [(aK (aF.mk 0 0))] [(lo7, 2, [(aK (gD t11 t13))])] hO rfl (by kernel_rfl) ?_
    intro H hO
    refine dQ ?_
    refine cD [] [(7, (.lp lo7 0 0))] ?_
    refine aN ?_
    refine aN ?_
    refine aP aC 4 ?_
    refine bN 1 ?_
    refine mQ 0 lo7 2 0 (aK (gD t11 t13)) (eI ((gD t11 t13).At)) [(aK (gD t11 t13))] hO rfl ?_
    refine bC ?_
    refine cD [] [(20, (aB (decide (t1 < ((gD t11 t13).At)))))] ?_
    refine bR h1 (fun h1 => ?_) (fun h1 => ?_)
    · refine jP 0 ?_
      replace hO := hO.pick (L' := []) [] (by decide) (by kernel_rfl)
      obtain rfl := oI h1
      obtain rfl : _ = rr0 := ho0
      replace h0 : rO v5 = some r := h0
      exact aG (aW (pX (by kernel_rfl) (aW (aW (cI (aH (⟨rfl, _, .eq (by kernel_rfl), hO, h0⟩)))))))
    refine bS ?_
    refine bD [(1, (eI t1)), (5, (eI v5)), (7, (.lp lo7 0 0)), (11, (eL aK t11)), (12, (eI t12)), (13, (eI t13))] ?_
    refine aP aC 5 ?_
    refine bN 2 ?_
    refine mQ 0 lo7 2 0 (aK (gD t11 t13)) (eI ((gD t11 t13).Net)) [(aK (gD t11 t13))] hO rfl ?_
    refine bC ?_
    refine iM [(1, (eI t1)), (5, (eI (wR (v5 + ((gD t11 t13).Net))))), (11, (eL aK t11)), (12, (eI t12)), (13, (eI t13))] ?_
    replace hO := hO.pick (L' := []) [] (by decide) (by kernel_rfl)
    refine aG (aV (aH (?_)))
    refine aP aC 2 ?_
    refine bC ?_
    exact aG (aH (⟨rfl, _, (oI h1).symm, .eq (by kernel_rfl), hO⟩))
  refine jP 0 ?_
  obtain rfl := oI h1
  obtain rfl : _ = rr0 := ho0
  replace h0 : rO v5 = some r := h0
  exact aG (aW (aW (cI (aH (⟨rfl, _, .eq (by kernel_rfl), hO, h0⟩)))))

theorem HX (f0 : (List aF)) (w1 : bB) (r : Int) (h0 : pG f0 w1 = some r) : dZ Try.prog 60 [(eL aK f0), (bV w1)] (eI r) := by
  intro H0
  refine dV Try.func60 ?_
  have hO := aJ.start H0
  unfold pG at h0
  refine aN ?_
  refine aP aC 2 ?_
  refine gM 2 (bV w1) (by kernel_rfl) (by kernel_rfl) ?_
  refine bC ?_
  refine cD [1] [(3, (.rp (bV w1)))] ?_
  refine aN ?_
  refine aP aC 5 ?_
  refine bN 3 ?_
  obtain ⟨x1, hx2, h0⟩ := aT h0
  refine fB (RG f0 w1.From _ hx2) hO ?_
  intro H hO
  refine bC ?_
  refine cD [] [(5, (eI x1))] ?_
  refine jD (fun T H => ∃ n5 : Int, Has T [(5, (eI n5))] ∧ aJ ⟨H0, [], []⟩ H [] ∧ rK n5 = some r) ?_ ?_
  · clear hO h0
    rintro T H ⟨n5, hT, hO, h0⟩
    refine bM hT ?_
    clear hT
    unfold rK at h0
    refine cO aC 2 [(4, (eI n5))] ?_
    refine bL ?_
    obtain rfl := oI h0
    exact aG (Q_r hO)
  refine aS aC 3 [0] [(12, (eL aK f0)), (13, (eI (lN f0))), (14, (eI (0 : Int)))] ?_
  refine cG 0 ?_
  refine iC [(3, (.rp (bV w1))), (5, (eI x1)), (12, (eL aK f0)), (13, (eI (lN f0))), (14, (eI (0 : Int)))] ?_
  refine iF (fun T H => ∃ w3 : bB, ∃ n5 : Int, ∃ t12 : (List aF), ∃ t13 : Int, ∃ t14 : Int, Has T [(3, (.rp (bV w3))), (5, (eI n5)), (12, (eL aK t12)), (13, (eI t13)), (14, (eI t14))] ∧ aJ ⟨H0, [], []⟩ H [] ∧ rG w3 n5 t12 t13 t14 = some r) ?_ ⟨w1, x1, f0, (lN f0), (0 : Int), .eq (by kernel_rfl), hO, h0⟩
  clear hO h0
  rintro T H ⟨w3, n5, t12, t13, t14, hT, hO, h0⟩
  refine bM hT ?_
  clear hT
  unfold rG at h0
  obtain ⟨rr0, hl0, h0⟩ := aT h0
  refine eP (by kernel_rfl) (fun (s : Int × Int) T H => Has T [(3, (.rp (bV w3))), (5, (eI s.1)), (12, (eL aK t12)), (13, (eI t13)), (14, (eI s.2))] ∧ aJ ⟨H0, [], []⟩ H []) hl0 ⟨.eq (by kernel_rfl), hO⟩ ?_
  clear hO
  rintro k0 s out1 T H ⟨hT, hO⟩ h1 ho0
  obtain ⟨n5, t14⟩ := s
  replace h1 : mV w3 t12 t13 n5 t14 = some out1 := h1
  try dsimp only at hT
  refine bM hT ?_
  clear hT
  unfold mV at h1
  refine aS aC 1 [] [(15, (aB (decide (t14 < t13))))] ?_
  refine aN ?_
  refine bR h1 (fun h1 => ?_) (fun h1 => ?_)
  · refine bS ?_
    refine bD [(3, (.rp (bV w3))), (5, (eI n5)), (12, (eL aK t12)), (13, (eI t13)), (14, (eI t14))] ?_
    refine jD (fun T H => ∃ n5 : Int, Has T [(3, (.rp (bV w3))), (5, (eI n5)), (12, (eL aK t12)), (13, (eI t13)), (14, (eI t14))] ∧ aJ ⟨H0, [], []⟩ H [] ∧ mT w3 n5 t12 t13 t14 = some out1) ?_ ?_
    · clear hO h1
      rintro T H ⟨n5, hT, hO, h1⟩
      refine bM hT ?_
      clear hT
      unfold mT at h1
      refine aP aC 2 ?_
      refine bC ?_
      exact aG (aH (⟨rfl, _, (oI h1).symm, .eq (by kernel_rfl), hO⟩))
    refine cG 1 ?_
    refine aN ?_
    refine aP aC 4 ?_
    obtain ⟨c5, h1⟩ := aY h1
    refine yB 2 [0 ≤ t14 ∧ t14 < (lN t12)] ⟨c5, trivial⟩ ?_
    refine kI 2 (aK (aF.mk 0 0)) (by kernel_rfl) (by kernel_rfl) hO ?_
    intro lo6 H hO
    refine iT 0 lo6 2 0 (aK (aF.mk 0 0)) (aK (gD t12 t14)) [(aK (aF.mk 0 0))] [(lo6, 2, [(aK (gD t12 t14))])] hO rfl (by kernel_rfl) ?_
    intro H hO
    refine dQ ?_
    refine cD [] [(7, (.lp lo6 0 0))] ?_
    refine aN ?_
    refine aP aC 12 ?_
    refine bN 1 ?_
    refine mQ 0 lo6 2 0 (aK (gD t12 t14)) (eI ((gD t12 t14).At)) [(aK (gD t12 t14))] hO rfl ?_
    refine bN 7 ?_
    refine sV [(23, true)] 0 lo6 2 0 (aK (gD t12 t14)) (eI ((gD t12 t14).At)) [(aK (gD t12 t14))] (by kernel_rfl) (by kernel_rfl) hO (by kernel_rfl) (decide (w3.From < ((gD t12 t14).At))) (by kernel_rfl) (fun hb7 => rfl) ?_
    refine bC ?_
    refine cD [] [(29, (aB ((decide (w3.From < ((gD t12 t14).At))) && (decide (((gD t12 t14).At) < w3.To)))))] ?_
    refine bR h1 (fun h1 => ?_) (fun h1 => ?_)
    · refine aP aC 6 ?_
      refine bN 2 ?_
      refine mQ 0 lo6 2 0 (aK (gD t12 t14)) (eI ((gD t12 t14).Net)) [(aK (gD t12 t14))] hO rfl ?_
      refine bC ?_
      replace hO := hO.pick (L' := []) [] (by decide) (by kernel_rfl)
      exact aG (aV (aH (⟨rfl, _, .eq (by kernel_rfl), hO, h1⟩)))
    refine bS ?_
    replace hO := hO.pick (L' := []) [] (by decide) (by kernel_rfl)
    exact aG (aV (aH (⟨rfl, _, .eq (by kernel_rfl), hO, h1⟩)))
  refine jP 0 ?_
  obtain rfl := oI h1
  obtain rfl : _ = rr0 := ho0
  replace h0 : rK n5 = some r := h0
  exact aG (aW (aW (cI (aH (⟨rfl, _, .eq (by kernel_rfl), hO, h0⟩)))))

theorem JX (lm : Nat) (los : List (Nat × Nat)) (m : List (Int × aQ)) (hl : los.length = m.length) (r : List aD) (f : List aF) (size hop frm front : Int) (out : Bool × List (Int × aQ)) (h0 : qQ m r f size hop frm front = some out) :
    DM Try.prog 33 [(.mp lm), (eL aI r), (eL aK f), (eI size), (eI hop), (eI frm), (eI front)] (pmG shP lm los m) [] (fun x M L => ∃ los' : List (Nat × Nat), los'.length = out.2.length ∧ x = aB out.1 ∧ M = pmG shP lm los' out.2 ∧ L = []) := by
  intro F H0 hO
  obtain ⟨Fh, Fe, Fg⟩ := F
  refine xN aC Try.func33 (by kernel_rfl) (by kernel_rfl) (by kernel_rfl) ?_
  unfold qQ at h0
  refine aN ?_
  refine aP aC 8 ?_
  refine gM 1 (.mp lm) (by kernel_rfl) (by kernel_rfl) ?_
  refine gM 1 (eL aI r) (by kernel_rfl) (by kernel_rfl) ?_
  refine gM 1 (eL aK f) (by kernel_rfl) (by kernel_rfl) ?_
  refine gM 1 (eI size) (by kernel_rfl) (by kernel_rfl) ?_
  refine gM 1 (eI hop) (by kernel_rfl) (by kernel_rfl) ?_
  refine gM 1 (eI frm) (by kernel_rfl) (by kernel_rfl) ?_
  refine gM 1 (eI front) (by kernel_rfl) (by kernel_rfl) ?_
  refine kI 1 (aB false) (by kernel_rfl) (by kernel_rfl) hO ?_
  intro lo1 H hO
  replace hO : aJ ⟨Fh, Fe, pmG shP lm los m ++ Fg⟩ H [(lo1, 1, [(aB false)])] := hO
  refine dQ ?_
  refine bD [(7, (.rp (.mp lm))), (8, (.rp (eL aI r))), (9, (.rp (eL aK f))), (10, (.rp (eI size))), (11, (.rp (eI hop))), (12, (.rp (eI frm))), (13, (.rp (eI front))), (14, (.lp lo1 0 0))] ?_
  refine aN ?_
  refine aN ?_
  refine aP aC 2 ?_
  refine bN 1 ?_
  obtain ⟨x1, hx1, h0⟩ := aT h0
  refine fB (MD f _ hx1) hO ?_
  intro H hO
  refine dQ ?_
  refine bD [(7, (.rp (.mp lm))), (8, (.rp (eL aI r))), (9, (.rp (eL aK f))), (10, (.rp (eI size))), (11, (.rp (eI hop))), (12, (.rp (eI frm))), (13, (.rp (eI front))), (14, (.lp lo1 0 0)), (20, (.fn (.func 75) [] [(.rp (eL aK x1))]))] ?_
  refine cG 0 ?_
  obtain ⟨o0, hl0, h0⟩ := aT h0
  refine wJ (fid := 75) (ys := []) (cs := [(.rp (eL aK x1))]) #[21] (fun (A : qI) (b lL : Nat) (st : (Bool × List (Int × aQ)) ⊕ (Bool × List (Int × aQ))) (G' : Gs) => Sum.elim (fun (s : Bool × List (Int × aQ)) => ∃ los : List (Nat × Nat), los.length = s.2.length ∧ G' = (lL, .raw (fR b A .ready none)) :: (up [(lo1, 1, [(aB s.1)])] ++ (pmG shP lm los s.2 ++ Fg))) (fun (s : Bool × List (Int × aQ)) => ∃ los : List (Nat × Nat), los.length = s.2.length ∧ G' = (lL, .raw (fR b A .done (some .ret))) :: (up [(lo1, 1, [(aB s.1)])] ++ (pmG shP lm los s.2 ++ Fg))) st) (.inl (false, m)) o0 (.tup []) (by kernel_rfl) (by kernel_rfl) (by kernel_rfl) hO (fun _ _ => ⟨los, hl, rfl⟩) ?_ ?_
  · intro b lL
    clear hO h0
    refine EJ _ b (fun st s => rnd (fun (q : Bool × List (Int × aQ)) => mG r f size hop frm front q.1 q.2 s) st) ?_ x1 _ _ hl0
    intro st s21 out1 rr hr
    obtain ⟨s, rfl, h1, rfl⟩ := FY hr
    clear hr
    intro Hr Gr hi hg
    obtain ⟨t14, m1⟩ := s
    dsimp only [Sum.elim_inl] at hi
    obtain ⟨los1, hl1, rfl⟩ := hi
    replace h1 : mG r f size hop frm front t14 m1 s21 = some out1 := h1
    unfold mG at h1
    obtain ⟨E1, hE, hO⟩ := pZ hg
    refine pT (tW (hO.gm 0 _ rfl).2 (by kernel_rfl) (by kernel_rfl) ?_)
    refine iC [(7, (.rp (.mp lm))), (8, (.rp (eL aI r))), (9, (.rp (eL aK f))), (10, (.rp (eI size))), (11, (.rp (eI hop))), (12, (.rp (eI frm))), (13, (.rp (eI front))), (14, (.lp lo1 0 0)), (21, (bV s21))] ?_
    refine aP aC 2 ?_
    refine kI 2 (bV (bB.mk 0 0)) (by kernel_rfl) (by kernel_rfl) hO ?_
    intro lo2 H hO
    refine iT 1 lo2 2 0 (bV (bB.mk 0 0)) (bV s21) [(bV (bB.mk 0 0))] [(lo1, 1, [(aB t14)]), (lo2, 2, [(bV s21)])] hO rfl (by kernel_rfl) ?_
    intro H hO
    refine dQ ?_
    refine iM [(7, (.rp (.mp lm))), (8, (.rp (eL aI r))), (9, (.rp (eL aK f))), (10, (.rp (eI size))), (11, (.rp (eI hop))), (12, (.rp (eI frm))), (13, (.rp (eI front))), (14, (.lp lo1 0 0)), (15, (.lp lo2 0 0))] ?_
    refine aG (⟨rfl, rfl, (hO.gm 0 _ rfl).2, ?_⟩)
    intro o1 ho1
    replace hO := hO.mY o1
    refine cG 1 ?_
    refine aN ?_
    refine aP aC 6 ?_
    refine bN 2 ?_
    refine mQ 1 lo2 2 0 (bV s21) (bV s21) [(bV s21)] hO rfl ?_
    refine bN 5 ?_
    obtain ⟨x2, hx2, h1⟩ := aT h1
    refine fB (zE size hop s21 frm front _ hx2) hO ?_
    intro H hO
    refine dQ ?_
    refine bD [(7, (.rp (.mp lm))), (8, (.rp (eL aI r))), (9, (.rp (eL aK f))), (10, (.rp (eI size))), (11, (.rp (eI hop))), (12, (.rp (eI frm))), (13, (.rp (eI front))), (14, (.lp lo1 0 0)), (27, (.fn (.func 54) [] [(.rp (eI x2.1)), (.rp (bV x2.2.1)), (.rp (eI x2.2.2.1)), (.rp (eI x2.2.2.2.1)), (.rp (eI x2.2.2.2.2))]))] ?_
    replace hO := hO.pick (L' := [(lo1, 1, [(aB t14)])]) [0] (by decide) (by kernel_rfl)
    refine cG 2 ?_
    obtain ⟨oi, hli, h1⟩ := aT h1
    refine TG (fid := 54) (ys := []) (cs := [(.rp (eI x2.1)), (.rp (bV x2.2.1)), (.rp (eI x2.2.2.1)), (.rp (eI x2.2.2.2.1)), (.rp (eI x2.2.2.2.2))]) #[28] (fun (A2 : qI) (b2 lL2 : Nat) (st : (Bool × List (Int × aQ)) ⊕ (Bool × List (Int × aQ))) (G' : Gs) => Sum.elim (fun (s : Bool × List (Int × aQ)) => ∃ los : List (Nat × Nat), los.length = s.2.length ∧ G' = (lL2, .raw (fR b2 A2 .ready none)) :: (up [(lo1, 1, [(aB s.1)])] ++ ((lL, o1) :: (pmG shP lm los s.2 ++ Fg)))) (fun (s : Bool × List (Int × aQ)) => ∃ los : List (Nat × Nat), los.length = s.2.length ∧ G' = (lL2, .raw (fR b2 A2 .done (some .ret))) :: (up [(lo1, 1, [(aB s.1)])] ++ ((lL, o1) :: (pmG shP lm los s.2 ++ Fg)))) st) (.inl (t14, m1)) oi (.tup []) ((hO.gm 0 _ rfl).2.trans (congrArg some ho1)) (by kernel_rfl) (by kernel_rfl) (by kernel_rfl) hO (fun _ _ => ⟨los1, hl1, rfl⟩) ?_ ?_
    · intro b2 lL2
      clear hO h1
      refine wI _ b2 (fun st t => rnd (fun (q : Bool × List (Int × aQ)) => lH r f size q.1 q.2 t) st) ?_ x2.1 x2.2.1 x2.2.2.1 x2.2.2.2.1 x2.2.2.2.2 _ _ hli
      clear hE
      intro st t28 out2 rr hr
      obtain ⟨s, rfl, h2, rfl⟩ := FY hr
      clear hr
      intro Hr2 Gr2 hi hg2
      obtain ⟨t14, m2⟩ := s
      dsimp only [Sum.elim_inl] at hi
      obtain ⟨los2, hl2, rfl⟩ := hi
      replace h2 : lH r f size t14 m2 t28 = some out2 := h2
      unfold lH at h2
      obtain ⟨E2, hE2, hO⟩ := pZ hg2
      refine pT (tW (hO.gm 0 _ rfl).2 (by kernel_rfl) (by kernel_rfl) ?_)
      refine iC [(7, (.rp (.mp lm))), (8, (.rp (eL aI r))), (9, (.rp (eL aK f))), (10, (.rp (eI size))), (11, (.rp (eI hop))), (12, (.rp (eI frm))), (13, (.rp (eI front))), (14, (.lp lo1 0 0)), (28, (eI t28))] ?_
      refine aP aC 1 ?_
      refine bC ?_
      refine iM [(7, (.rp (.mp lm))), (8, (.rp (eL aI r))), (9, (.rp (eL aK f))), (10, (.rp (eI size))), (11, (.rp (eI hop))), (12, (.rp (eI frm))), (13, (.rp (eI front))), (14, (.lp lo1 0 0)), (16, (eI t28))] ?_
      refine aG (⟨rfl, rfl, (hO.gm 0 _ rfl).2, ?_⟩)
      intro o2 ho2
      replace hO := hO.mY o2
      refine cG 3 ?_
      replace hO : aJ ⟨Hr2, E2, (lm, nR oB (pmM los2 m2)) :: (up (pmL shP los2 m2) ++ ((lL2, o2) :: (lL, o1) :: Fg))⟩ _ [(lo1, 1, [(aB t14)])] := hO.mP (List.perm_middle.trans (List.Perm.cons _ List.perm_middle)).symm
      refine aN ?_
      refine aP aC 4 ?_
      refine bN 2 ?_
      refine LG (f := oB) (mty := 63) (ok := false) aC t28 none hO ?_
      refine bC ?_
      refine bD [(7, (.rp (.mp lm))), (8, (.rp (eL aI r))), (9, (.rp (eL aK f))), (10, (.rp (eI size))), (11, (.rp (eI hop))), (12, (.rp (eI frm))), (13, (.rp (eI front))), (14, (.lp lo1 0 0)), (16, (eI t28)), (17, (oB ((eY (pmM los2 m2) t28).getD none)))] ?_
      refine jD (fun T H => ∃ (a bb : Nat) (MM : List (Int × Option Nat)) (R : List (Nat × Nat × List V)) (p0 : aQ), Has T [(7, (.rp (.mp lm))), (8, (.rp (eL aI r))), (9, (.rp (eL aK f))), (10, (.rp (eI size))), (11, (.rp (eI hop))), (12, (.rp (eI frm))), (13, (.rp (eI front))), (14, (.lp lo1 0 0)), (17, (.lp a 0 0))] ∧ Put shP m2 t28 a MM R ∧ aJ ⟨Hr2, E2, (lm, nR oB MM) :: (up R ++ ((lL2, o2) :: (lL, o1) :: Fg))⟩ H [(a, 3, [(.agg [(eI p0.Span.From), (eI p0.Span.To), (.msl 2 bb 0 (List.length p0.Rows))])]), (bb, 2, List.map kS p0.Rows), (lo1, 1, [(aB t14)])] ∧ ((mI r f p0).bind fun p => some (.inl (t14, gC m2 t28 p))) = some out2) ?_ ?_
      · clear hO h2
        rintro T H ⟨a, bb, MM, R, p0, hT, hP, hO, h2⟩
        refine bM hT ?_
        clear hT
        obtain ⟨p1, hp, h2⟩ := aT h2
        have fin : ∀ (H : aM) (bb : Nat), aJ ⟨Hr2, E2, (lm, nR oB MM) :: (up R ++ ((lL2, o2) :: (lL, o1) :: Fg))⟩ H (shP a bb p1 ++ [(lo1, 1, [(aB t14)])]) → ∃ los' : List (Nat × Nat), los'.length = (gC m2 t28 p1).length ∧ aJ ⟨Hr2, E2, (lL2, o2) :: ((lL, o1) :: (pmG shP lm los' (gC m2 t28 p1) ++ Fg))⟩ H [(lo1, 1, [(aB t14)])] := by
          intro H bb hO
          obtain ⟨los', hl', hO⟩ := hO.NG hP
          exact ⟨los', hl', hO.mP (List.perm_middle.trans (List.Perm.cons _ List.perm_middle))⟩
        unfold mI at hp
        refine aN ?_
        refine aP aC 7 ?_
        refine bN 3 ?_
        refine mQ 0 a 3 0 (.agg [(eI p0.Span.From), (eI p0.Span.To), (.msl 2 bb 0 (List.length p0.Rows))]) (.msl 2 bb 0 (List.length p0.Rows)) [(.agg [(eI p0.Span.From), (eI p0.Span.To), (.msl 2 bb 0 (List.length p0.Rows))])] hO rfl ?_
        refine bC ?_
        refine bD [(7, (.rp (.mp lm))), (8, (.rp (eL aI r))), (9, (.rp (eL aK f))), (10, (.rp (eI size))), (11, (.rp (eI hop))), (12, (.rp (eI frm))), (13, (.rp (eI front))), (14, (.lp lo1 0 0)), (17, (.lp a 0 0)), (18, (eI (wR ((lN p0.Rows) - (1 : Int)))))] ?_
        refine aN ?_
        obtain ⟨c12, hp⟩ := aY hp
        obtain ⟨x13, hx14, hp⟩ := aT hp
        refine gU (gV [65]) aC 15 ?_
        refine pN (K := fun T H => Has (lift T) [(7, (.rp (.mp lm))), (8, (.rp (eL aI r))), (9, (.rp (eL aK f))), (10, (.rp (eI size))), (11, (.rp (eI hop))), (12, (.rp (eI frm))), (13, (.rp (eI front))), (14, (.lp lo1 0 0)), (17, (.lp a 0 0)), (18, (eI (wR ((lN p0.Rows) - (1 : Int))))), (68, (aB ((decide ((wR ((lN p0.Rows) - (1 : Int))) < (0 : Int))) || (!x13))))] ∧ aJ ⟨Hr2, E2, (lm, nR oB MM) :: (up R ++ ((lL2, o2) :: (lL, o1) :: Fg))⟩ H [(a, 3, [(.agg [(eI p0.Span.From), (eI p0.Span.To), (.msl 2 bb 0 (List.length p0.Rows))])]), (bb, 2, List.map kS p0.Rows), (lo1, 1, [(aB t14)])]) ?_ ?_
        · refine lI 3 ?_
          refine oD (t := 56) (e := decide ((wR ((lN p0.Rows) - (1 : Int))) < (0 : Int))) (by kernel_rfl) (fun hg15 => ?_) (fun hg15 => ?_)
          · refine kX ?_
            exact ⟨⟨[(7, (.rp (.mp lm))), (8, (.rp (eL aI r))), (9, (.rp (eL aK f))), (10, (.rp (eI size))), (11, (.rp (eI hop))), (12, (.rp (eI frm))), (13, (.rp (eI front))), (14, (.lp lo1 0 0)), (17, (.lp a 0 0)), (18, (eI (wR ((lN p0.Rows) - (1 : Int))))), (68, (aB true))], by kernel_rfl, rfl, ⟨aL.refl _, aL.refl _, aL.refl _, aL.refl _, aL.refl _, aL.refl _, aL.refl _, aL.refl _, aL.refl _, aL.refl _, aL.eq (congrArg aB (by rw [hg15]; rfl)), trivial⟩⟩, hO⟩
          · refine lI 6 ?_
            refine iY 0 a 3 0 (.agg [(eI p0.Span.From), (eI p0.Span.To), (.msl 2 bb 0 (List.length p0.Rows))]) (.msl 2 bb 0 (List.length p0.Rows)) [(.agg [(eI p0.Span.From), (eI p0.Span.To), (.msl 2 bb 0 (List.length p0.Rows))])] (by kernel_rfl) (by kernel_rfl) (by kernel_rfl) hO (by kernel_rfl) rfl ?_
            have c13 := c12 (by rw [hg15]; rfl)
            refine cF 10 [0 ≤ (wR ((lN p0.Rows) - (1 : Int))) ∧ (wR ((lN p0.Rows) - (1 : Int))) < (lN p0.Rows)] ⟨c13, trivial⟩ ?_
            refine iY 1 bb 2 (0 + Int.toNat (wR ((lN p0.Rows) - (1 : Int)))) (kS (gD p0.Rows (wR ((lN p0.Rows) - (1 : Int))))) (eL aI ((gD p0.Rows (wR ((lN p0.Rows) - (1 : Int)))).Row)) (List.map kS p0.Rows) (by kernel_rfl) (by kernel_rfl) (by kernel_rfl) hO (by kernel_rfl) (bU c13) ?_
            refine lI 12 ?_
            refine nX 58 [(eL aI ((gD p0.Rows (wR ((lN p0.Rows) - (1 : Int)))).Row)), (eL aI r)] (aB x13) (by kernel_rfl) (by kernel_rfl) (DO ((gD p0.Rows (wR ((lN p0.Rows) - (1 : Int)))).Row) r _ (kO hx14 (by rw [hg15]; rfl))) hO ?_
            intro H hO
            refine kX ?_
            exact ⟨⟨[(7, (.rp (.mp lm))), (8, (.rp (eL aI r))), (9, (.rp (eL aK f))), (10, (.rp (eI size))), (11, (.rp (eI hop))), (12, (.rp (eI frm))), (13, (.rp (eI front))), (14, (.lp lo1 0 0)), (17, (.lp a 0 0)), (18, (eI (wR ((lN p0.Rows) - (1 : Int))))), (68, (aB (!x13)))], by kernel_rfl, rfl, ⟨aL.refl _, aL.refl _, aL.refl _, aL.refl _, aL.refl _, aL.refl _, aL.refl _, aL.refl _, aL.refl _, aL.refl _, aL.eq (congrArg aB (by rw [hg15]; rfl)), trivial⟩⟩, hO⟩
        · rintro T H ⟨hT, hO⟩
          refine eX hT ?_
          clear hT
          refine aG (aH ?_)
          refine bR hp (fun hp => ?_) (fun hp => ?_)
          · obtain ⟨x15, hx15, hp⟩ := aT hp
            obtain ⟨x16, hx16, hp⟩ := aT hp
            obtain ⟨c17, hp⟩ := aY hp
            refine gU (gV [74, 75, 76, 81, 83, 84]) aC 19 ?_
            refine lI 4 ?_
            refine gJ 0 a 3 0 (.agg [(eI p0.Span.From), (eI p0.Span.To), (.msl 2 bb 0 (List.length p0.Rows))]) (.msl 2 bb 0 (List.length p0.Rows)) [(.agg [(eI p0.Span.From), (eI p0.Span.To), (.msl 2 bb 0 (List.length p0.Rows))])] hO rfl ?_
            refine lI 6 ?_
            refine xB (DL r _ hx15) hO ?_
            intro H hO
            refine lI 11 ?_
            refine gJ 0 a 3 0 (.agg [(eI p0.Span.From), (eI p0.Span.To), (.msl 2 bb 0 (List.length p0.Rows))]) (bV p0.Span) [(.agg [(eI p0.Span.From), (eI p0.Span.To), (.msl 2 bb 0 (List.length p0.Rows))])] hO rfl ?_
            refine xB (HX f p0.Span _ hx16) hO ?_
            intro H hO
            refine lI 14 ?_
            refine VF (xs := [(kS (gW.mk x15 x16))]) (k := 2) (by kernel_rfl) (by kernel_rfl) ?_
            refine MV (e := kS) p0.Rows ([gW.mk x15 x16]) 1 bb 2 32 (iU [(kS (gW.mk x15 x16))]) (fun bc => [(a, 3, [(.agg [(eI p0.Span.From), (eI p0.Span.To), (.msl 2 bb 0 (List.length p0.Rows))])]), (bc, 2, List.map kS (p0.Rows ++ ([gW.mk x15 x16]))), (lo1, 1, [(aB t14)])]) (by kernel_rfl) (by kernel_rfl) hO (by kernel_rfl) (by kernel_rfl) c17 (fun _ => by kernel_rfl) ?_
            intro bc H hO
            refine lI 18 ?_
            refine kD 0 a 3 0 (.agg [(eI p0.Span.From), (eI p0.Span.To), (.msl 2 bb 0 (List.length p0.Rows))]) (.agg [(eI p0.Span.From), (eI p0.Span.To), (.msl 2 bc 0 (List.length (p0.Rows ++ ([gW.mk x15 x16]))))]) [(.agg [(eI p0.Span.From), (eI p0.Span.To), (.msl 2 bb 0 (List.length p0.Rows))])] [(a, 3, [(.agg [(eI p0.Span.From), (eI p0.Span.To), (.msl 2 bc 0 (List.length (p0.Rows ++ ([gW.mk x15 x16]))))])]), (bc, 2, List.map kS (p0.Rows ++ ([gW.mk x15 x16]))), (lo1, 1, [(aB t14)])] hO rfl (by kernel_rfl) ?_
            intro H hO
            refine mB (by kernel_rfl) ?_
            obtain rfl := oI hp
            refine iM [(7, (.rp (.mp lm))), (8, (.rp (eL aI r))), (9, (.rp (eL aK f))), (10, (.rp (eI size))), (11, (.rp (eI hop))), (12, (.rp (eI frm))), (13, (.rp (eI front))), (14, (.lp lo1 0 0))] ?_
            obtain ⟨los', hl', hO⟩ := fin H bc hO
            obtain rfl := oI h2
            exact aG (aV (⟨(eA hO hE2 ho2 .dead).1, rfl, _, ⟨los', hl', rfl⟩, (eA hO hE2 ho2 _).2⟩))
          · refine bS ?_
            obtain rfl := oI hp
            refine iM [(7, (.rp (.mp lm))), (8, (.rp (eL aI r))), (9, (.rp (eL aK f))), (10, (.rp (eI size))), (11, (.rp (eI hop))), (12, (.rp (eI frm))), (13, (.rp (eI front))), (14, (.lp lo1 0 0))] ?_
            obtain ⟨los', hl', hO⟩ := fin H bb hO
            obtain rfl := oI h2
            exact aG (aV (⟨(eA hO hE2 ho2 .dead).1, rfl, _, ⟨los', hl', rfl⟩, (eA hO hE2 ho2 _).2⟩))
      cases hg : eY m2 t28 with
      | none =>
        rw [hg] at h2
        replace h2 : cond (decide ((lN m2) = (1024 : Int))) (some (.inr (false, m2))) ((mI r f (aQ.mk (bB.mk t28 (if (1125899906842624 : Int) < (wR (t28 + size)) then (1125899906842624 : Int) else (wR (t28 + size)))) [])).bind fun p => some (.inl (t14, gC m2 t28 p))) = some out2 := h2
        rw [MW hg]
        refine iC [(7, (.rp (.mp lm))), (8, (.rp (eL aI r))), (9, (.rp (eL aK f))), (10, (.rp (eI size))), (11, (.rp (eI hop))), (12, (.rp (eI frm))), (13, (.rp (eI front))), (14, (.lp lo1 0 0)), (16, (eI t28)), (17, (.lit (.pointer none)))] ?_
        refine aN ?_
        refine aP aC 2 ?_
        refine bN 1 ?_
        refine KG true ?_
        refine dQ ?_
        refine bD [(7, (.rp (.mp lm))), (8, (.rp (eL aI r))), (9, (.rp (eL aK f))), (10, (.rp (eI size))), (11, (.rp (eI hop))), (12, (.rp (eI frm))), (13, (.rp (eI front))), (14, (.lp lo1 0 0)), (16, (eI t28)), (33, (aB true))] ?_
        refine lJ (true) (fun hc => ?_) (fun hc => by cases hc)
        refine aN ?_
        refine aN ?_
        refine aP aC 3 ?_
        refine bN 1 ?_
        refine KI (mty := 63) hO ?_
        rw [FT hl2]
        refine bC ?_
        refine bD [(7, (.rp (.mp lm))), (8, (.rp (eL aI r))), (9, (.rp (eL aK f))), (10, (.rp (eI size))), (11, (.rp (eI hop))), (12, (.rp (eI frm))), (13, (.rp (eI front))), (14, (.lp lo1 0 0)), (16, (eI t28)), (36, (aB (decide ((lN m2) = (1024 : Int)))))] ?_
        refine bR h2 (fun h2 => ?_) (fun h2 => ?_)
        · refine aN ?_
          refine aP aC 1 ?_
          refine iT 0 lo1 1 0 (aB t14) (aB false) [(aB t14)] [(lo1, 1, [(aB false)])] hO rfl (by kernel_rfl) ?_
          intro H hO
          refine dQ ?_
          refine bD [(14, (.lp lo1 0 0))] ?_
          refine bL ?_
          obtain rfl := oI h2
          replace hO : aJ ⟨Hr2, E2, (lL2, o2) :: ((lL, o1) :: (pmG shP lm los2 m2 ++ Fg))⟩ H [(lo1, 1, [(aB false)])] := (show aJ ⟨Hr2, E2, pmG shP lm los2 m2 ++ ((lL2, o2) :: (lL, o1) :: Fg)⟩ H [(lo1, 1, [(aB false)])] from hO).mP (List.perm_middle.trans (List.Perm.cons _ List.perm_middle))
          exact aG (aR (aR (bJ (⟨(eA hO hE2 ho2 .dead).1, rfl, _, ⟨los2, hl2, rfl⟩, (eA hO hE2 ho2 _).2⟩))))
        refine bS ?_
        refine bD [(7, (.rp (.mp lm))), (8, (.rp (eL aI r))), (9, (.rp (eL aK f))), (10, (.rp (eI size))), (11, (.rp (eI hop))), (12, (.rp (eI frm))), (13, (.rp (eI front))), (14, (.lp lo1 0 0)), (16, (eI t28))] ?_
        refine aN ?_
        refine aP aC 9 ?_
        refine bN 7 ?_
        refine kI 3 (.agg [(eI (bB.mk t28 (if (1125899906842624 : Int) < (wR (t28 + size)) then (1125899906842624 : Int) else (wR (t28 + size)))).From), (eI (bB.mk t28 (if (1125899906842624 : Int) < (wR (t28 + size)) then (1125899906842624 : Int) else (wR (t28 + size)))).To), (.sl true 0 (fun _ => .bad))]) (by kernel_rfl) (by kernel_rfl) hO ?_
        intro lo3 H hO
        refine bC ?_
        refine YW 1 3 lo3 2 2 [(eI (bB.mk t28 (if (1125899906842624 : Int) < (wR (t28 + size)) then (1125899906842624 : Int) else (wR (t28 + size)))).From), (eI (bB.mk t28 (if (1125899906842624 : Int) < (wR (t28 + size)) then (1125899906842624 : Int) else (wR (t28 + size)))).To), (.sl true 0 (fun _ => .bad))] (fun _ => .bad) (fun lo4 => [(lo1, 1, [(aB t14)]), (lo3, 3, [(.agg [(eI (bB.mk t28 (if (1125899906842624 : Int) < (wR (t28 + size)) then (1125899906842624 : Int) else (wR (t28 + size)))).From), (eI (bB.mk t28 (if (1125899906842624 : Int) < (wR (t28 + size)) then (1125899906842624 : Int) else (wR (t28 + size)))).To), (.msl 2 lo4 0 0)])]), (lo4, 2, [])]) hO (by kernel_rfl) (by kernel_rfl) (fun _ => by kernel_rfl) ?_
        intro lo4 H hO
        refine bD [(7, (.rp (.mp lm))), (8, (.rp (eL aI r))), (9, (.rp (eL aK f))), (10, (.rp (eI size))), (11, (.rp (eI hop))), (12, (.rp (eI frm))), (13, (.rp (eI front))), (14, (.lp lo1 0 0)), (16, (eI t28)), (17, (.lp lo3 0 0))] ?_
        refine aP aC 4 ?_
        refine bN 3 ?_
        refine VD (f := oB) (mty := 63) t28 (some lo3) hO ?_
        intro H hO
        refine dQ ?_
        replace hO := hO.pick (L' := [(lo3, 3, [(.agg [(eI (bB.mk t28 (if (1125899906842624 : Int) < (wR (t28 + size)) then (1125899906842624 : Int) else (wR (t28 + size)))).From), (eI (bB.mk t28 (if (1125899906842624 : Int) < (wR (t28 + size)) then (1125899906842624 : Int) else (wR (t28 + size)))).To), (.msl 2 lo4 0 0)])]), (lo4, 2, []), (lo1, 1, [(aB t14)])]) [1, 2, 0] (by decide) (by kernel_rfl)
        exact aG (aH ⟨rfl, lo3, lo4, _, _, (aQ.mk (bB.mk t28 (if (1125899906842624 : Int) < (wR (t28 + size)) then (1125899906842624 : Int) else (wR (t28 + size)))) []), .eq (by kernel_rfl), QF hl2 hg, hO, h2⟩)
      | some p0 =>
        rw [hg] at h2
        obtain ⟨a, bb, R, e1, hP, hO⟩ := aJ.focus (sh := shP) (los := los2) (m := m2) (G := (lL2, o2) :: (lL, o1) :: Fg) hO hl2 hg
        rw [e1]
        refine iC [(7, (.rp (.mp lm))), (8, (.rp (eL aI r))), (9, (.rp (eL aK f))), (10, (.rp (eI size))), (11, (.rp (eI hop))), (12, (.rp (eI frm))), (13, (.rp (eI front))), (14, (.lp lo1 0 0)), (16, (eI t28)), (17, (.lp a 0 0))] ?_
        refine aN ?_
        refine aP aC 2 ?_
        refine bN 1 ?_
        refine KG false ?_
        refine dQ ?_
        refine bD [(7, (.rp (.mp lm))), (8, (.rp (eL aI r))), (9, (.rp (eL aK f))), (10, (.rp (eI size))), (11, (.rp (eI hop))), (12, (.rp (eI frm))), (13, (.rp (eI front))), (14, (.lp lo1 0 0)), (16, (eI t28)), (17, (.lp a 0 0)), (33, (aB false))] ?_
        refine lJ (false) (fun hc => by cases hc) (fun hc => ?_)
        refine bS ?_
        exact aG (aH ⟨rfl, a, bb, _, R, p0, .eq (by kernel_rfl), hP, hO, h2⟩)
    · intro b2 lL2 H' G' hi hO
      rcases oi with s | s
      · dsimp only [Sum.elim_inl] at hi
        obtain ⟨los2, hl2, rfl⟩ := hi
        obtain rfl := oI h1
        obtain ⟨hlL, hO⟩ := CA hO
        refine ⟨_, _, hlL, (by intro e; cases e), ?_⟩
        refine iM [(7, (.rp (.mp lm))), (8, (.rp (eL aI r))), (9, (.rp (eL aK f))), (10, (.rp (eI size))), (11, (.rp (eI hop))), (12, (.rp (eI frm))), (13, (.rp (eI front))), (14, (.lp lo1 0 0))] ?_
        exact aG (aV (aV (⟨(eA hO hE ho1 .dead).1, rfl, _, ⟨los2, hl2, rfl⟩, (eA hO hE ho1 _).2⟩)))
      · dsimp only [Sum.elim_inr] at hi
        obtain ⟨los2, hl2, rfl⟩ := hi
        obtain rfl := oI h1
        obtain ⟨hlL, hO⟩ := CA hO
        refine ⟨_, _, hlL, (by intro e; cases e), ?_⟩
        refine bL ?_
        exact aG (bJ (bJ (⟨(eA hO hE ho1 .dead).1, rfl, _, ⟨los2, hl2, rfl⟩, (eA hO hE ho1 _).2⟩)))
  · intro b lD lL H' G' hi hO
    rcases o0 with s | s
    · dsimp only [Sum.elim_inl] at hi
      obtain ⟨los1, hl1, rfl⟩ := hi
      obtain rfl := oI h0
      obtain ⟨hlL, hO⟩ := lW hO
      refine ⟨_, _, hlL, (by intro e; cases e), ?_⟩
      refine iM [(14, (.lp lo1 0 0))] ?_
      refine aG (aV (aH (?_)))
      refine aN ?_
      refine aP aC 1 ?_
      refine iT 0 lo1 1 0 (aB s.1) (aB true) [(aB s.1)] [(lo1, 1, [(aB true)])] hO rfl (by kernel_rfl) ?_
      intro H hO
      refine dQ ?_
      refine bD [(14, (.lp lo1 0 0))] ?_
      refine bL ?_
      have hD := (hO.gm 0 _ rfl).2
      replace hO := (hO.mY .dead).nL
      exact aG (QM1 (.inr rfl) hD (rs := [.cell 14 4]) (xs := [(aB true)]) (x := (aB true)) (by kernel_rfl) (gX (lo := lo1) (k := 1) (y := (aB true)) (x := (aB true)) 0 hO (by kernel_rfl) (by kernel_rfl) (by kernel_rfl) (by kernel_rfl) lK) (by kernel_rfl) ⟨_, [], ⟨los1, hl1, rfl, rfl, rfl⟩, hO.pick (L' := []) [] (by decide) (by kernel_rfl)⟩)
    · dsimp only [Sum.elim_inr] at hi
      obtain ⟨los1, hl1, rfl⟩ := hi
      obtain rfl := oI h0
      obtain ⟨hlL, hO⟩ := lW hO
      refine ⟨_, _, hlL, (by intro e; cases e), ?_⟩
      refine bL ?_
      refine aG (bJ (aR ?_))
      have hD := (hO.gm 0 _ rfl).2
      replace hO := (hO.mY .dead).nL
      exact QM1 (.inr rfl) hD (rs := [.cell 14 4]) (xs := [(aB s.1)]) (x := (aB s.1)) (by kernel_rfl) (gX (lo := lo1) (k := 1) (y := (aB s.1)) (x := (aB s.1)) 0 hO (by kernel_rfl) (by kernel_rfl) (by kernel_rfl) (by kernel_rfl) lK) (by kernel_rfl) ⟨_, [], ⟨los1, hl1, rfl, rfl, rfl⟩, hO.pick (L' := []) [] (by decide) (by kernel_rfl)⟩

theorem ME (l0 : (List bE)) (nJ : Int) (hop2 : Int) (gZ : Int) (eS : Int) (r : ((List aQ) × Int)) (h0 : sK l0 nJ hop2 gZ eS = some r) : dZ Try.prog 16 [(eL bP l0), (eI nJ), (eI hop2), (eI gZ), (eI eS)] (.tup [(eL aU r.1), (eI r.2)]) := by
  intro H0
  refine xN aC Try.func16 (by kernel_rfl) (by kernel_rfl) (by kernel_rfl) ?_
  have hO := aJ.start H0
  unfold sK at h0
  refine aN ?_
  refine aP aC 6 ?_
  refine gM 1 (eI nJ) (by kernel_rfl) (by kernel_rfl) ?_
  refine gM 1 (eI hop2) (by kernel_rfl) (by kernel_rfl) ?_
  refine gM 1 (eI gZ) (by kernel_rfl) (by kernel_rfl) ?_
  refine gM 1 (eI eS) (by kernel_rfl) (by kernel_rfl) ?_
  refine yM 1 (.sl true 0 (fun _ => .bad)) (eL aU ([])) (by kernel_rfl) (by kernel_rfl) (by kernel_rfl) (nE) (by kernel_rfl) (by kernel_rfl) hO ?_
  intro lo1 H hO
  refine kI 1 (eI 0) (by kernel_rfl) (by kernel_rfl) hO ?_
  intro lo2 H hO
  refine dQ ?_
  refine bD [(0, (eL bP l0)), (6, (.rp (eI nJ))), (7, (.rp (eI hop2))), (8, (.rp (eI gZ))), (9, (.rp (eI eS))), (10, (.lp lo1 0 0)), (11, (.lp lo2 0 0))] ?_
  refine aN ?_
  refine cG 0 ?_
  refine aN ?_
  refine aP aC 10 ?_
  refine bN 2 ?_
  obtain ⟨x3, hx4, h0⟩ := aT h0
  refine fB (AF nJ hop2 _ hx4) hO ?_
  intro H hO
  refine bN 6 ?_
  obtain ⟨x6, hx7, h0⟩ := aT h0
  refine nF [(25, false)] 31 [(eL bP l0)] (aB x6) (!(!x3)) (by kernel_rfl) (by kernel_rfl) (by kernel_rfl) (fun hb8 => (DH l0 _ (kO hx7 hb8))) hO ?_
  intro H hO
  refine bC ?_
  refine cD [] [(20, (aB ((!x3) || (!x6))))] ?_
  refine bR h0 (fun h0 => ?_) (fun h0 => ?_)
  · refine aN ?_
    refine aP aC 2 ?_
    refine iT 0 lo1 1 0 (eL aU ([])) (.sl true 0 (fun _ => .bad)) [(eL aU ([]))] [(lo1, 1, [(.sl true 0 (fun _ => .bad))]), (lo2, 1, [(eI 0)])] hO rfl (by kernel_rfl) ?_
    intro H hO
    refine iT 1 lo2 1 0 (eI 0) (eI (2 : Int)) [(eI 0)] [(lo1, 1, [(.sl true 0 (fun _ => .bad))]), (lo2, 1, [(eI (2 : Int))])] hO rfl (by kernel_rfl) ?_
    intro H hO
    refine dQ ?_
    refine qN 0 lo1 1 (.sl true 0 (fun _ => .bad)) (eL aU ([])) [(lo1, 1, [(eL aU ([]))]), (lo2, 1, [(eI (2 : Int))])] hO (by kernel_rfl) (by kernel_rfl) nE (by kernel_rfl) ?_
    intro H hO
    refine bD [(10, (.lp lo1 0 0)), (11, (.lp lo2 0 0))] ?_
    refine bL ?_
    obtain rfl := oI h0
    exact aG (bJ (aR (QM0 (.inr rfl) (rs := [.cell 10 37, .cell 11 22]) (xs := [(eL aU ([])), (eI (2 : Int))]) (x := (.tup [(eL aU ([])), (eI (2 : Int))])) (by kernel_rfl) (gX (lo := lo1) (k := 1) (y := (eL aU ([]))) (x := (eL aU ([]))) 0 hO (by kernel_rfl) (by kernel_rfl) (by kernel_rfl) (by kernel_rfl) (gX (lo := lo2) (k := 1) (y := (eI (2 : Int))) (x := (eI (2 : Int))) 1 hO (by kernel_rfl) (by kernel_rfl) (by kernel_rfl) (by kernel_rfl) lK)) (by kernel_rfl) ⟨rfl, hO.out⟩)))
  refine aN ?_
  refine aP aC 4 ?_
  refine bN 1 ?_
  obtain ⟨x10, hx11, h0⟩ := aT h0
  refine fB (IV l0 _ hx11) hO ?_
  intro H hO
  refine bC ?_
  refine cD [20] [(30, (aB (!x10)))] ?_
  refine bR h0 (fun h0 => ?_) (fun h0 => ?_)
  · refine aN ?_
    refine aP aC 2 ?_
    refine iT 0 lo1 1 0 (eL aU ([])) (.sl true 0 (fun _ => .bad)) [(eL aU ([]))] [(lo1, 1, [(.sl true 0 (fun _ => .bad))]), (lo2, 1, [(eI 0)])] hO rfl (by kernel_rfl) ?_
    intro H hO
    refine iT 1 lo2 1 0 (eI 0) (eI (20 : Int)) [(eI 0)] [(lo1, 1, [(.sl true 0 (fun _ => .bad))]), (lo2, 1, [(eI (20 : Int))])] hO rfl (by kernel_rfl) ?_
    intro H hO
    refine dQ ?_
    refine qN 0 lo1 1 (.sl true 0 (fun _ => .bad)) (eL aU ([])) [(lo1, 1, [(eL aU ([]))]), (lo2, 1, [(eI (20 : Int))])] hO (by kernel_rfl) (by kernel_rfl) nE (by kernel_rfl) ?_
    intro H hO
    refine bD [(10, (.lp lo1 0 0)), (11, (.lp lo2 0 0))] ?_
    refine bL ?_
    obtain rfl := oI h0
    exact aG (bJ (aR (QM0 (.inr rfl) (rs := [.cell 10 37, .cell 11 22]) (xs := [(eL aU ([])), (eI (20 : Int))]) (x := (.tup [(eL aU ([])), (eI (20 : Int))])) (by kernel_rfl) (gX (lo := lo1) (k := 1) (y := (eL aU ([]))) (x := (eL aU ([]))) 0 hO (by kernel_rfl) (by kernel_rfl) (by kernel_rfl) (by kernel_rfl) (gX (lo := lo2) (k := 1) (y := (eI (20 : Int))) (x := (eI (20 : Int))) 1 hO (by kernel_rfl) (by kernel_rfl) (by kernel_rfl) (by kernel_rfl) lK)) (by kernel_rfl) ⟨rfl, hO.out⟩)))
  refine aN ?_
  refine aP aC 9 ?_
  refine bN 1 ?_
  obtain ⟨x14, hx15, h0⟩ := aT h0
  refine fB (tL gZ _ hx15) hO ?_
  intro H hO
  refine bN 5 ?_
  obtain ⟨x17, hx18, h0⟩ := aT h0
  refine nF [(38, false)] 25 [(eI eS)] (aB x17) (!(!x14)) (by kernel_rfl) (by kernel_rfl) (by kernel_rfl) (fun hb19 => (tL eS _ (kO hx18 hb19))) hO ?_
  intro H hO
  refine bC ?_
  refine cD [30] [(34, (aB ((!x14) || (!x17))))] ?_
  refine bR h0 (fun h0 => ?_) (fun h0 => ?_)
  · refine aN ?_
    refine aP aC 2 ?_
    refine iT 0 lo1 1 0 (eL aU ([])) (.sl true 0 (fun _ => .bad)) [(eL aU ([]))] [(lo1, 1, [(.sl true 0 (fun _ => .bad))]), (lo2, 1, [(eI 0)])] hO rfl (by kernel_rfl) ?_
    intro H hO
    refine iT 1 lo2 1 0 (eI 0) (eI (13 : Int)) [(eI 0)] [(lo1, 1, [(.sl true 0 (fun _ => .bad))]), (lo2, 1, [(eI (13 : Int))])] hO rfl (by kernel_rfl) ?_
    intro H hO
    refine dQ ?_
    refine qN 0 lo1 1 (.sl true 0 (fun _ => .bad)) (eL aU ([])) [(lo1, 1, [(eL aU ([]))]), (lo2, 1, [(eI (13 : Int))])] hO (by kernel_rfl) (by kernel_rfl) nE (by kernel_rfl) ?_
    intro H hO
    refine bD [(10, (.lp lo1 0 0)), (11, (.lp lo2 0 0))] ?_
    refine bL ?_
    obtain rfl := oI h0
    exact aG (bJ (aR (QM0 (.inr rfl) (rs := [.cell 10 37, .cell 11 22]) (xs := [(eL aU ([])), (eI (13 : Int))]) (x := (.tup [(eL aU ([])), (eI (13 : Int))])) (by kernel_rfl) (gX (lo := lo1) (k := 1) (y := (eL aU ([]))) (x := (eL aU ([]))) 0 hO (by kernel_rfl) (by kernel_rfl) (by kernel_rfl) (by kernel_rfl) (gX (lo := lo2) (k := 1) (y := (eI (13 : Int))) (x := (eI (13 : Int))) 1 hO (by kernel_rfl) (by kernel_rfl) (by kernel_rfl) (by kernel_rfl) lK)) (by kernel_rfl) ⟨rfl, hO.out⟩)))
  refine bS ?_
  refine iM [(0, (eL bP l0)), (6, (.rp (eI nJ))), (7, (.rp (eI hop2))), (8, (.rp (eI gZ))), (9, (.rp (eI eS))), (10, (.lp lo1 0 0)), (11, (.lp lo2 0 0))] ?_
  refine aG (aV (aH (?_)))
  unfold wB at h0
  refine aN ?_
  refine aP aC 3 ?_
  refine RP (β := Option Nat) oB (t := 63) hO ?_
  intro lm H hO
  refine kI 1 (.lit (.map none)) (by kernel_rfl) (by kernel_rfl) hO ?_
  intro lo12 H hO
  refine iT 2 lo12 1 0 (.lit (.map none)) (.mp lm) [(.lit (.map none))] [(lo1, 1, [(eL aU ([]))]), (lo2, 1, [(eI 0)]), (lo12, 1, [(.mp lm)])] hO rfl (by kernel_rfl) ?_
  intro H hO
  replace hO : aJ ⟨H0, [], pmG shP lm [] [] ++ []⟩ H [(lo1, 1, [(eL aU ([]))]), (lo2, 1, [(eI 0)]), (lo12, 1, [(.mp lm)])] := hO
  refine dQ ?_
  refine bD [(0, (eL bP l0)), (6, (.rp (eI nJ))), (7, (.rp (eI hop2))), (8, (.rp (eI gZ))), (9, (.rp (eI eS))), (10, (.lp lo1 0 0)), (11, (.lp lo2 0 0)), (12, (.lp lo12 0 0))] ?_
  refine aN ?_
  refine aN ?_
  refine aP aC 2 ?_
  refine bN 1 ?_
  obtain ⟨x1, hx1, h0⟩ := aT h0
  refine fB (HV l0 _ hx1) hO ?_
  intro H hO
  refine dQ ?_
  refine bD [(6, (.rp (eI nJ))), (7, (.rp (eI hop2))), (8, (.rp (eI gZ))), (9, (.rp (eI eS))), (10, (.lp lo1 0 0)), (11, (.lp lo2 0 0)), (12, (.lp lo12 0 0)), (45, (.fn (.func 55) [] [(.rp (eL bP x1))]))] ?_
  refine cG 1 ?_
  obtain ⟨o0, hl0, h0⟩ := aT h0
  refine wJ (fid := 55) (ys := []) (cs := [(.rp (eL bP x1))]) #[46, 47] (fun (A : qI) (b lL : Nat) (st : (List aQ × Int × List (Int × aQ)) ⊕ (List aQ × Int × List (Int × aQ))) (G' : Gs) => Sum.elim (fun (s : List aQ × Int × List (Int × aQ)) => ∃ los : List (Nat × Nat), los.length = s.2.2.length ∧ G' = (lL, .raw (fR b A .ready none)) :: (up [(lo1, 1, [(eL aU (s.1))]), (lo2, 1, [(eI (s.2.1))]), (lo12, 1, [(.mp lm)])] ++ (pmG shP lm los s.2.2 ++ []))) (fun (s : List aQ × Int × List (Int × aQ)) => ∃ los : List (Nat × Nat), los.length = s.2.2.length ∧ G' = (lL, .raw (fR b A .done (some .ret))) :: (up [(lo1, 1, [(eL aU (s.1))]), (lo2, 1, [(eI (s.2.1))]), (lo12, 1, [(.mp lm)])] ++ (pmG shP lm los s.2.2 ++ []))) st) (.inl ([], 0, [])) o0 (.tup []) (by kernel_rfl) (by kernel_rfl) (by kernel_rfl) hO (fun _ _ => ⟨[], rfl, rfl⟩) ?_ ?_
  · intro b lL
    clear hO h0
    refine BO _ b (fun st t46 t47 => rnd (fun (q : List aQ × Int × List (Int × aQ)) => lB nJ hop2 gZ eS q.1 q.2.1 q.2.2 t46 t47) st) ?_ x1 _ _ hl0
    intro st t46 t47 out1 rr hr
    obtain ⟨s, rfl, h1, rfl⟩ := FY hr
    clear hr
    intro Hr Gr hi hg
    obtain ⟨t10, t11, m⟩ := s
    dsimp only [Sum.elim_inl] at hi
    obtain ⟨los, hl, rfl⟩ := hi
    replace h1 : lB nJ hop2 gZ eS t10 t11 m t46 t47 = some out1 := h1
    unfold lB at h1
    obtain ⟨E1, hE, hO⟩ := pZ hg
    refine pT (tW (hO.gm 0 _ rfl).2 (by kernel_rfl) (by kernel_rfl) ?_)
    refine iC [(6, (.rp (eI nJ))), (7, (.rp (eI hop2))), (8, (.rp (eI gZ))), (9, (.rp (eI eS))), (10, (.lp lo1 0 0)), (11, (.lp lo2 0 0)), (12, (.lp lo12 0 0)), (46, (eL aI t46)), (47, (eL aK t47))] ?_
    refine cO aC 1 [(6, (.rp (eI nJ))), (7, (.rp (eI hop2))), (8, (.rp (eI gZ))), (9, (.rp (eI eS))), (10, (.lp lo1 0 0)), (11, (.lp lo2 0 0)), (12, (.lp lo12 0 0)), (13, (eL aI t46)), (47, (eL aK t47))] ?_
    refine aP aC 1 ?_
    refine bC ?_
    refine iM [(6, (.rp (eI nJ))), (7, (.rp (eI hop2))), (8, (.rp (eI gZ))), (9, (.rp (eI eS))), (10, (.lp lo1 0 0)), (11, (.lp lo2 0 0)), (12, (.lp lo12 0 0)), (13, (eL aI t46)), (14, (eL aK t47))] ?_
    refine aG (⟨rfl, rfl, (hO.gm 0 _ rfl).2, ?_⟩)
    intro o1 ho1
    replace hO := hO.mY o1
    refine cG 2 ?_
    refine aN ?_
    refine aP aC 9 ?_
    refine mQ 2 lo12 1 0 (.mp lm) (.mp lm) [(.mp lm)] hO rfl ?_
    refine bN 7 ?_
    obtain ⟨x2, hx2, h1⟩ := aT h1
    replace hO : aJ ⟨Hr, E1, pmG shP lm los m ++ ((lL, o1) :: [])⟩ _ [(lo1, 1, [(eL aU t10)]), (lo2, 1, [(eI t11)]), (lo12, 1, [(.mp lm)])] := hO.mP List.perm_middle.symm
    refine ZV (pmG shP lm los m) [(lo1, 1, [(eL aU t10)]), (lo2, 1, [(eI t11)]), (lo12, 1, [(.mp lm)])] [0, 1, 2] (JX lm los m hl t46 t47 nJ hop2 gZ eS _ hx2) hO ?_
    intro r1 M1 L1 H hP hO
    obtain ⟨los', hl', rfl, rfl, rfl⟩ := hP
    replace hO : aJ ⟨Hr, E1, (lL, o1) :: (pmG shP lm los' x2.2 ++ [])⟩ H [(lo1, 1, [(eL aU t10)]), (lo2, 1, [(eI t11)]), (lo12, 1, [(.mp lm)])] := hO.mP List.perm_middle
    refine bC ?_
    refine bD [(10, (.lp lo1 0 0)), (11, (.lp lo2 0 0)), (12, (.lp lo12 0 0)), (56, (aB (!x2.1)))] ?_
    refine bR h1 (fun h1 => ?_) (fun h1 => ?_)
    · refine aN ?_
      refine aP aC 2 ?_
      refine iT 0 lo1 1 0 (eL aU t10) (.sl true 0 (fun _ => .bad)) [(eL aU t10)] [(lo1, 1, [(.sl true 0 (fun _ => .bad))]), (lo2, 1, [(eI t11)]), (lo12, 1, [(.mp lm)])] hO rfl (by kernel_rfl) ?_
      intro H hO
      refine iT 1 lo2 1 0 (eI t11) (eI (7 : Int)) [(eI t11)] [(lo1, 1, [(.sl true 0 (fun _ => .bad))]), (lo2, 1, [(eI (7 : Int))]), (lo12, 1, [(.mp lm)])] hO rfl (by kernel_rfl) ?_
      intro H hO
      refine dQ ?_
      refine qN 0 lo1 1 (.sl true 0 (fun _ => .bad)) (eL aU []) [(lo1, 1, [(eL aU ([]))]), (lo2, 1, [(eI ((7 : Int)))]), (lo12, 1, [(.mp lm)])] hO (by kernel_rfl) (by kernel_rfl) nE (by kernel_rfl) ?_
      intro H hO
      refine bD [(10, (.lp lo1 0 0)), (11, (.lp lo2 0 0))] ?_
      refine bL ?_
      obtain rfl := oI h1
      exact aG (bJ (⟨(eA hO hE ho1 .dead).1, rfl, _, ⟨los', hl', rfl⟩, (eA hO hE ho1 _).2⟩))
    · refine bS ?_
      obtain rfl := oI h1
      refine iM [(10, (.lp lo1 0 0)), (11, (.lp lo2 0 0))] ?_
      exact aG (aV (⟨(eA hO hE ho1 .dead).1, rfl, _, ⟨los', hl', rfl⟩, (eA hO hE ho1 _).2⟩))
  · intro b lD lL H' G' hi hO
    rcases o0 with s | s
    · obtain ⟨t10, t11, m⟩ := s
      dsimp only [Sum.elim_inl] at hi
      obtain ⟨los, hl, rfl⟩ := hi
      replace h0 : qV m = some r := h0
      obtain ⟨hlL, hO⟩ := lW hO
      refine ⟨_, _, hlL, (by intro e; cases e), ?_⟩
      refine iM [(10, (.lp lo1 0 0)), (11, (.lp lo2 0 0)), (12, (.lp lo12 0 0))] ?_
      refine aG (aV (aH (?_)))
      unfold qV at h0
      replace hO : aJ ⟨H0, [], up (pmL shP los m) ++ ((lm, nR oB (pmM los m)) :: [(lD, .raw nV)])⟩ _ [(lo1, 1, [(eL aU t10)]), (lo2, 1, [(eI t11)]), (lo12, 1, [(.mp lm)])] := hO.mP (by
        show ((lD, cR.raw nV) :: (((lm, nR oB (pmM los m)) :: up (pmL shP los m)) ++ [])).Perm _
        rw [List.append_nil]
        refine List.Perm.trans ?_ List.perm_middle.symm
        refine (List.Perm.swap _ _ _).trans (List.Perm.cons _ ?_)
        exact (List.perm_append_comm (l₁ := [(lD, cR.raw nV)])))
      refine BQ 3 2 2 (fun b p => [(eI p.Span.From), (eI p.Span.To), (.msl 2 b 0 (List.length p.Rows))]) aQ.Rows kS aU (fun _ _ _ => rfl) (fun _ _ => rfl) (fun _ _ => rfl) m los hl hO fun H hO => ?_
      replace hO : aJ ⟨H0, [], (lm, nR oB (pmM los m)) :: (up (pmL shF los m) ++ [(lD, .raw nV)])⟩ H [(lo1, 1, [(eL aU t10)]), (lo2, 1, [(eI t11)]), (lo12, 1, [(.mp lm)])] := hO.mP List.perm_middle
      refine aN ?_
      refine aP aC 4 ?_
      refine mQ 2 lo12 1 0 (.mp lm) (.mp lm) [(.mp lm)] hO rfl ?_
      refine KI (mty := 63) hO ?_
      rw [FT hl]
      obtain ⟨c1, h0⟩ := aY h0
      refine GB 1 8 (lN m) (by kernel_rfl) (by kernel_rfl) c1 hO ?_
      intro lo15 H hO
      refine bC ?_
      refine bD [(10, (.lp lo1 0 0)), (11, (.lp lo2 0 0)), (12, (.lp lo12 0 0)), (15, (.msl 1 lo15 0 (List.length ([] : List Int))))] ?_
      refine aN ?_
      refine aN ?_
      refine aP aC 2 ?_
      refine mQ 2 lo12 1 0 (.mp lm) (.mp lm) [(.mp lm)] hO rfl ?_
      refine PL (mty := 63) hO ?_
      intro li bs ck H hmb hmn hO
      refine dQ ?_
      refine bD [(10, (.lp lo1 0 0)), (11, (.lp lo2 0 0)), (12, (.lp lo12 0 0)), (15, (.msl 1 lo15 0 (List.length ([] : List Int)))), (61, (.lp li 0 0))] ?_
      refine cG 3 ?_
      refine QU (by kernel_rfl) (fun (s : List Int) (seen : List Nat) T H => ∃ lo15 : Nat, Has T [(10, (.lp lo1 0 0)), (11, (.lp lo2 0 0)), (12, (.lp lo12 0 0)), (15, (.msl 1 lo15 0 (List.length s))), (61, (.lp li 0 0))] ∧ aJ ⟨H0, [], (li, GF li lm ck seen) :: (lm, AY oB (pmM los m) bs ck) :: (up (pmL shF los m) ++ [(lD, .raw nV)])⟩ H [(lo1, 1, [(eL aU t10)]), (lo2, 1, [(eI t11)]), (lo12, 1, [(.mp lm)]), (lo15, 1, List.map (eI) s)]) hmb (WD hl h0) ⟨lo15, .eq (by kernel_rfl), hO⟩ ?_
      clear hO h0 c1
      rintro seen rem s T H ⟨lo15, hT, hO⟩ hleft hall
      refine bM (l := [(10, (.lp lo1 0 0)), (11, (.lp lo2 0 0)), (12, (.lp lo12 0 0)), (15, (.msl 1 lo15 0 (List.length s))), (61, (.lp li 0 0))]) hT ?_
      clear hT
      refine aN ?_
      refine aP aC 2 ?_
      refine RJ hmb hmn hleft hall hO (fun h0 => ?_) (fun mk mv bq rest out1 H h1 hlt hleft hall hat hO => ?_)
      · clear hall hleft
        unfold wE at h0
        refine bC ?_
        refine bD [(10, (.lp lo1 0 0)), (11, (.lp lo2 0 0)), (12, (.lp lo12 0 0)), (15, (.msl 1 lo15 0 (List.length s))), (63, (aB false))] ?_
        refine aN ?_
        refine lJ (false) (fun hc => by cases hc) (fun hc => ?_)
        refine jP 3 ?_
        replace hO := hO.nL
        refine QM hO fun H hO => ?_
        refine iM [(10, (.lp lo1 0 0)), (11, (.lp lo2 0 0)), (12, (.lp lo12 0 0)), (15, (.msl 1 lo15 0 (List.length s)))] ?_
        refine aG (aW (aW (cI (aH (?_)))))
        refine aN ?_
        refine aP aC 2 ?_
        refine bN 1 ?_
        obtain ⟨b1, hb1, h0⟩ := aT h0
        refine tO [(lo1, 1, [(eL aU t10)]), (lo2, 1, [(eI t11)]), (lo12, 1, [(.mp lm)]), (lo15, 1, List.map (eI) b1)] 3 (xT lo15 s _ hb1) hO ?_
        intro H hO hlen
        simp only [List.length_map] at hlen
        refine dQ ?_
        rw [← hlen]
        refine bD [(10, (.lp lo1 0 0)), (11, (.lp lo2 0 0)), (12, (.lp lo12 0 0)), (15, (.msl 1 lo15 0 (List.length b1)))] ?_
        refine aN ?_
        refine aP aC 4 ?_
        refine bN 2 ?_
        obtain ⟨c2, h0⟩ := aY h0
        refine GB 3 40 (lN b1) (by kernel_rfl) (by kernel_rfl) c2 hO ?_
        intro lo17 H hO
        refine bC ?_
        refine bD [(10, (.lp lo1 0 0)), (11, (.lp lo2 0 0)), (12, (.lp lo12 0 0)), (15, (.msl 1 lo15 0 (List.length b1))), (17, (.msl 3 lo17 0 (List.length ([] : List aQ))))] ?_
        refine aN ?_
        refine cO aC 3 [(10, (.lp lo1 0 0)), (11, (.lp lo2 0 0)), (12, (.lp lo12 0 0)), (15, (.msl 1 lo15 0 (List.length b1))), (17, (.msl 3 lo17 0 (List.length ([] : List aQ)))), (75, (.msl 1 lo15 0 (List.length b1))), (76, (eI (lN b1))), (77, (eI (0 : Int)))] ?_
        obtain ⟨out, hlo, h0⟩ := aT h0
        refine cG 5 ?_
        refine eP (by kernel_rfl) (fun (s : List aQ × Int) T H => ∃ (lo17 : Nat) (los : List (Nat × Nat)), los.length = m.length ∧ Has T [(10, (.lp lo1 0 0)), (11, (.lp lo2 0 0)), (12, (.lp lo12 0 0)), (15, (.msl 1 lo15 0 (List.length b1))), (17, (.msl 3 lo17 0 (List.length s.1))), (75, (.msl 1 lo15 0 (List.length b1))), (76, (eI (lN b1))), (77, (eI s.2))] ∧ aJ ⟨H0, [], (lm, nR oB (pmM los m)) :: (up (pmL shF los m) ++ [(lD, .raw nV)])⟩ H [(lo1, 1, [(eL aU t10)]), (lo2, 1, [(eI t11)]), (lo12, 1, [(.mp lm)]), (lo15, 1, List.map (eI) b1), (lo17, 3, List.map aU s.1)]) hlo ⟨lo17, los, hl, .eq (by kernel_rfl), hO⟩ ?_
        clear hO c2
        rintro k s out1 T H ⟨lo17, los, hl, hT, hO⟩ h1 ho
        obtain ⟨o17, i77⟩ := s
        replace h1 : oA m b1 (lN b1) o17 i77 = some out1 := h1
        dsimp only at hT
        refine bM hT ?_
        clear hT
        unfold oA at h1
        refine cO aC 1 [(10, (.lp lo1 0 0)), (11, (.lp lo2 0 0)), (12, (.lp lo12 0 0)), (15, (.msl 1 lo15 0 (List.length b1))), (17, (.msl 3 lo17 0 (List.length o17))), (75, (.msl 1 lo15 0 (List.length b1))), (76, (eI (lN b1))), (77, (eI i77)), (78, (aB (decide (i77 < (lN b1)))))] ?_
        refine aN ?_
        refine bR h1 (fun h1 => ?_) (fun h1 => ?_)
        · refine bS ?_
          refine bD [(10, (.lp lo1 0 0)), (11, (.lp lo2 0 0)), (12, (.lp lo12 0 0)), (15, (.msl 1 lo15 0 (List.length b1))), (17, (.msl 3 lo17 0 (List.length o17))), (75, (.msl 1 lo15 0 (List.length b1))), (76, (eI (lN b1))), (77, (eI i77))] ?_
          refine aN ?_
          refine cG 6 ?_
          refine aN ?_
          obtain ⟨c3, h1⟩ := aY h1
          refine aP aC 3 ?_
          refine yB 1 [0 ≤ i77 ∧ i77 < (lN b1)] ⟨c3, trivial⟩ ?_
          refine mQ 3 lo15 1 (0 + Int.toNat i77) (eI (gD b1 i77)) (eI (gD b1 i77)) (List.map (eI) b1) hO (bU c3) ?_
          refine bC ?_
          refine bD [(10, (.lp lo1 0 0)), (11, (.lp lo2 0 0)), (12, (.lp lo12 0 0)), (15, (.msl 1 lo15 0 (List.length b1))), (17, (.msl 3 lo17 0 (List.length o17))), (75, (.msl 1 lo15 0 (List.length b1))), (76, (eI (lN b1))), (77, (eI i77)), (19, (eI (gD b1 i77)))] ?_
          cases hg : eY m (gD b1 i77) with
          | none => rw [hg] at h1; cases h1
          | some p =>
            rw [hg] at h1
            obtain ⟨c4, h1⟩ := aY h1
            obtain ⟨a, bb, R, e1, hP, hO⟩ := aJ.focus (sh := shF) (los := los) (m := m) (G := [(lD, .raw nV)]) hO hl hg
            replace hO : aJ ⟨H0, [], (lm, nR oB (pmM los m)) :: (up R ++ [(lD, .raw nV)])⟩ _ [(a, 3, [(aU p)]), (lo1, 1, [(eL aU t10)]), (lo2, 1, [(eI t11)]), (lo12, 1, [(.mp lm)]), (lo15, 1, List.map (eI) b1), (lo17, 3, List.map aU o17)] := hO
            refine aP aC 9 ?_
            refine bN 1 ?_
            refine mQ 3 lo12 1 0 (.mp lm) (.mp lm) [(.mp lm)] hO rfl ?_
            refine bN 3 ?_
            refine LG (f := oB) (mty := 63) (ok := false) aC (gD b1 i77) none hO ?_
            rw [e1]
            refine bN 5 ?_
            refine mQ 0 a 3 0 (aU p) (aU p) [(aU p)] hO rfl ?_
            refine wQ (xs := [(aU p)]) (k := 3) (by kernel_rfl) (by kernel_rfl) ?_
            refine AZ (e := aU) o17 ([p]) 5 lo17 3 40 (iU [(aU p)]) (fun lo18 => [(a, 3, [(aU p)]), (lo1, 1, [(eL aU t10)]), (lo2, 1, [(eI t11)]), (lo12, 1, [(.mp lm)]), (lo15, 1, List.map (eI) b1), (lo18, 3, List.map aU (o17 ++ ([p])))]) (by kernel_rfl) (by kernel_rfl) hO (by kernel_rfl) (by kernel_rfl) c4 (fun _ => by kernel_rfl) ?_
            intro lo18 H hO
            refine bC ?_
            refine iM [(10, (.lp lo1 0 0)), (11, (.lp lo2 0 0)), (12, (.lp lo12 0 0)), (15, (.msl 1 lo15 0 (List.length b1))), (17, (.msl 3 lo18 0 (List.length (o17 ++ [p])))), (75, (.msl 1 lo15 0 (List.length b1))), (76, (eI (lN b1))), (77, (eI i77))] ?_
            refine aG (aV (aH (?_)))
            refine aP aC 2 ?_
            refine bC ?_
            obtain rfl := oI h1
            obtain ⟨los', hl', hO⟩ := aJ.NG (sh := shF) (x := p) (b := bb) (G := [(lD, .raw nV)]) hO hP
            rw [HF hg] at hl' hO
            exact aG (⟨rfl, _, rfl, lo18, los', hl', .eq (by kernel_rfl), hO⟩)
        · refine jP 5 ?_
          obtain rfl := oI h1
          obtain rfl : _ = out := ho
          obtain rfl := oI h0
          refine iM [(10, (.lp lo1 0 0)), (11, (.lp lo2 0 0)), (12, (.lp lo12 0 0)), (17, (.msl 3 lo17 0 (List.length o17)))] ?_
          refine HA (en := aU) o17 3 4 17 3 lo17 (List.length o17) hO (by kernel_rfl) (by kernel_rfl) (by kernel_rfl) (L' := [(lo1, 1, [(eL aU t10)]), (lo2, 1, [(eI t11)]), (lo12, 1, [(.mp lm)]), (lo15, 1, List.map (eI) b1)]) (by kernel_rfl) ?_
          intro H hO
          refine aG (aW (aW (cI (aH (?_)))))
          refine iC [(10, (.lp lo1 0 0)), (11, (.lp lo2 0 0)), (12, (.lp lo12 0 0)), (17, (eL aU o17))] ?_
          refine aN ?_
          refine aP aC 3 ?_
          refine bN 1 ?_
          refine iT 0 lo1 1 0 (eL aU t10) (eL aU o17) [(eL aU t10)] [(lo1, 1, [(eL aU o17)]), (lo2, 1, [(eI t11)]), (lo12, 1, [(.mp lm)]), (lo15, 1, List.map (eI) b1)] hO rfl (by kernel_rfl) ?_
          intro H hO
          refine iT 1 lo2 1 0 (eI t11) (eI (0 : Int)) [(eI t11)] [(lo1, 1, [(eL aU o17)]), (lo2, 1, [(eI ((0 : Int)))]), (lo12, 1, [(.mp lm)]), (lo15, 1, List.map (eI) b1)] hO rfl (by kernel_rfl) ?_
          intro H hO
          refine dQ ?_
          refine bD [(10, (.lp lo1 0 0)), (11, (.lp lo2 0 0))] ?_
          refine bL ?_
          replace hO := hO.mP (G' := (lD, .raw nV) :: ((lm, nR oB (pmM los m)) :: up (pmL shF los m))) (by
            refine (List.Perm.cons _ List.perm_append_comm).trans ?_
            exact List.Perm.swap _ _ _)
          have hD := (hO.gm 0 _ rfl).2
          replace hO := (hO.mY .dead).nL
          exact aG (QM1 (.inr rfl) hD (rs := [.cell 10 37, .cell 11 22]) (xs := [(eL aU o17), (eI (0 : Int))]) (x := (.tup [(eL aU o17), (eI (0 : Int))])) (by kernel_rfl) (gX (lo := lo1) (k := 1) (y := (eL aU o17)) (x := (eL aU o17)) 0 hO (by kernel_rfl) (by kernel_rfl) (by kernel_rfl) (by kernel_rfl) (gX (lo := lo2) (k := 1) (y := (eI (0 : Int))) (x := (eI (0 : Int))) 1 hO (by kernel_rfl) (by kernel_rfl) (by kernel_rfl) (by kernel_rfl) lK)) (by kernel_rfl) ⟨rfl, hO.OM.out⟩)
      replace h1 : nU s mk = some out1 := h1
      unfold nU at h1
      refine bC ?_
      refine bD [(10, (.lp lo1 0 0)), (11, (.lp lo2 0 0)), (12, (.lp lo12 0 0)), (15, (.msl 1 lo15 0 (List.length s))), (61, (.lp li 0 0)), (63, (aB true))] ?_
      refine aN ?_
      refine lJ (true) (fun hc => ?_) (fun hc => by cases hc)
      refine bS ?_
      refine bD [(10, (.lp lo1 0 0)), (11, (.lp lo2 0 0)), (12, (.lp lo12 0 0)), (15, (.msl 1 lo15 0 (List.length s))), (61, (.lp li 0 0))] ?_
      refine cG 4 ?_
      refine aN ?_
      refine aP aC 3 ?_
      refine OE hat hO ?_
      refine bC ?_
      refine bD [(10, (.lp lo1 0 0)), (11, (.lp lo2 0 0)), (12, (.lp lo12 0 0)), (15, (.msl 1 lo15 0 (List.length s))), (61, (.lp li 0 0)), (16, (eI mk))] ?_
      refine aP aC 5 ?_
      refine bN 2 ?_
      refine wQ (xs := [(eI mk)]) (k := 1) (by kernel_rfl) (by kernel_rfl) ?_
      obtain ⟨c5, h1⟩ := aY h1
      refine AZ (e := (eI)) s ([mk]) 3 lo15 1 8 (iU [(eI mk)]) (fun lo16 => [(lo1, 1, [(eL aU t10)]), (lo2, 1, [(eI t11)]), (lo12, 1, [(.mp lm)]), (lo16, 1, List.map (eI) (s ++ ([mk])))]) (by kernel_rfl) (by kernel_rfl) hO (by kernel_rfl) (by kernel_rfl) c5 (fun _ => by kernel_rfl) ?_
      intro lo16 H hO
      refine bC ?_
      obtain rfl := oI h1
      exact aG (aV (⟨rfl, _, _, _, hlt, hleft, hall, lo16, .eq (by kernel_rfl), hO⟩))
    · obtain ⟨t10, t11, m⟩ := s
      dsimp only [Sum.elim_inr] at hi
      obtain ⟨los, hl, rfl⟩ := hi
      obtain rfl := oI h0
      obtain ⟨hlL, hO⟩ := lW hO
      refine ⟨_, _, hlL, (by intro e; cases e), ?_⟩
      refine bL ?_
      refine aG (bJ (aR ?_))
      have hD := (hO.gm 0 _ rfl).2
      replace hO := (hO.mY .dead).nL
      exact QM1 (.inr rfl) hD (rs := [.cell 10 37, .cell 11 22]) (xs := [(eL aU t10), (eI t11)]) (x := (.tup [(eL aU t10), (eI t11)])) (by kernel_rfl) (gX (lo := lo1) (k := 1) (y := (eL aU t10)) (x := (eL aU t10)) 0 hO (by kernel_rfl) (by kernel_rfl) (by kernel_rfl) (by kernel_rfl) (gX (lo := lo2) (k := 1) (y := (eI t11)) (x := (eI t11)) 1 hO (by kernel_rfl) (by kernel_rfl) (by kernel_rfl) (by kernel_rfl) lK)) (by kernel_rfl) ⟨rfl, hO.OM.out⟩

theorem AU  (r : Bool) (h0 : oE  = some r) : dZ Try.prog 11 [] (aB r) := by
  intro H0
  refine dV Try.func11 ?_
  have hO := aJ.start H0
  unfold oE at h0
  refine cO aC 1 [] ?_
  refine aN ?_
  refine aP aC 6 ?_
  obtain ⟨x1, hx2, h0⟩ := aT h0
  refine fB (yF (10 : Int) (5 : Int) (12 : Int) _ hx2) hO ?_
  intro H hO
  refine bC ?_
  refine bD [(1, (eI x1.1)), (2, (eI x1.2))] ?_
  refine aN ?_
  refine aP aC 7 ?_
  refine bN 1 ?_
  obtain ⟨x4, hx5, h0⟩ := aT h0
  refine fB (KJ (10 : Int) (5 : Int) (bB.mk (3 : Int) (7 : Int)) (0 : Int) (100 : Int) _ hx5) hO ?_
  intro H hO
  refine bC ?_
  refine cD [] [(3, (eL (eI) x4.1)), (4, (eI x4.2))] ?_
  refine aN ?_
  refine aP aC 13 ?_
  refine bN 1 ?_
  refine wQ (xs := [(aI (aD.mk (1 : Int) (1 : Int) ByteArray.empty))]) (k := 3) (by kernel_rfl) (by kernel_rfl) ?_
  refine bN 4 ?_
  refine wQ (xs := [(aI (aD.mk (1 : Int) (1 : Int) ByteArray.empty))]) (k := 3) (by kernel_rfl) (by kernel_rfl) ?_
  refine bN 6 ?_
  refine wQ (xs := [(.agg [(iU [(aI (aD.mk (1 : Int) (1 : Int) ByteArray.empty))]), (eI (3 : Int)), (eI (1 : Int))]), (.agg [(iU [(aI (aD.mk (1 : Int) (1 : Int) ByteArray.empty))]), (eI (7 : Int)), (eI (-1 : Int))])]) (k := 3) (by kernel_rfl) (by kernel_rfl) ?_
  obtain ⟨x7, hx8, h0⟩ := aT h0
  refine ZU 16 [(iU [(.agg [(iU [(aI (aD.mk (1 : Int) (1 : Int) ByteArray.empty))]), (eI (3 : Int)), (eI (1 : Int))]), (.agg [(iU [(aI (aD.mk (1 : Int) (1 : Int) ByteArray.empty))]), (eI (7 : Int)), (eI (-1 : Int))])]), (eI (10 : Int)), (eI (5 : Int)), (eI (0 : Int)), (eI (100 : Int))] (.tup [(eL aU x7.1), (eI x7.2)]) (dZ.sub (ME ([bE.mk ([aD.mk (1 : Int) (1 : Int) ByteArray.empty]) (3 : Int) (1 : Int), bE.mk ([aD.mk (1 : Int) (1 : Int) ByteArray.empty]) (7 : Int) (-1 : Int)]) (10 : Int) (5 : Int) (0 : Int) (100 : Int) _ hx8) ⟨(WN (e := bP) (xs := [(.agg [(iU [(aI (aD.mk (1 : Int) (1 : Int) ByteArray.empty))]), (eI (3 : Int)), (eI (1 : Int))]), (.agg [(iU [(aI (aD.mk (1 : Int) (1 : Int) ByteArray.empty))]), (eI (7 : Int)), (eI (-1 : Int))])]) (l := [bE.mk ([aD.mk (1 : Int) (1 : Int) ByteArray.empty]) (3 : Int) (1 : Int), bE.mk ([aD.mk (1 : Int) (1 : Int) ByteArray.empty]) (7 : Int) (-1 : Int)]) ⟨(SW (xs := [(iU [(aI (aD.mk (1 : Int) (1 : Int) ByteArray.empty))]), (eI (3 : Int)), (eI (1 : Int))]) (ys := [(eL aI ([aD.mk (1 : Int) (1 : Int) ByteArray.empty])), (eI (3 : Int)), (eI (1 : Int))]) ⟨JY (l := [aD.mk (1 : Int) (1 : Int) ByteArray.empty]), aL.refl _, aL.refl _, trivial⟩), (SW (xs := [(iU [(aI (aD.mk (1 : Int) (1 : Int) ByteArray.empty))]), (eI (7 : Int)), (eI (-1 : Int))]) (ys := [(eL aI ([aD.mk (1 : Int) (1 : Int) ByteArray.empty])), (eI (7 : Int)), (eI (-1 : Int))]) ⟨JY (l := [aD.mk (1 : Int) (1 : Int) ByteArray.empty]), aL.refl _, aL.refl _, trivial⟩), trivial⟩ rfl), aL.refl _, aL.refl _, aL.refl _, aL.refl _, trivial⟩) hO ?_
  intro H hO
  refine bC ?_
  refine cD [] [(5, (eL aU x7.1)), (6, (eI x7.2))] ?_
  refine aN ?_
  refine aP aC 47 ?_
  obtain ⟨c10, h0⟩ := aY h0
  obtain ⟨c11, h0⟩ := aY h0
  obtain ⟨c12, h0⟩ := aY h0
  refine rY [((((((decide (x1.1 = (5 : Int))) && (decide (x1.2 = (0 : Int)))) && (decide (x4.2 = (0 : Int)))) && (decide ((lN x4.1) = (2 : Int))))) = true → 0 ≤ (1 : Int) ∧ (1 : Int) < (lN x4.1)), (((((((((decide (x1.1 = (5 : Int))) && (decide (x1.2 = (0 : Int)))) && (decide (x4.2 = (0 : Int)))) && (decide ((lN x4.1) = (2 : Int)))) && (decide ((gD x4.1 (1 : Int)) = (5 : Int)))) && (decide (x7.2 = (0 : Int)))) && (decide ((lN x7.1) = (2 : Int))))) = true → 0 ≤ (1 : Int) ∧ (1 : Int) < (lN x7.1)), ((((((((((decide (x1.1 = (5 : Int))) && (decide (x1.2 = (0 : Int)))) && (decide (x4.2 = (0 : Int)))) && (decide ((lN x4.1) = (2 : Int)))) && (decide ((gD x4.1 (1 : Int)) = (5 : Int)))) && (decide (x7.2 = (0 : Int)))) && (decide ((lN x7.1) = (2 : Int)))) && ((decide ((((gD x7.1 (1 : Int)).Span).From) = ((bB.mk (5 : Int) (15 : Int)).From))) && ((decide ((((gD x7.1 (1 : Int)).Span).To) = ((bB.mk (5 : Int) (15 : Int)).To))) && true)))) = true → 0 ≤ (1 : Int) ∧ (1 : Int) < (lN x7.1))] ⟨c10, c11, c12, trivial⟩ ?_
  refine bD [(0, (aB (((((((((decide (x1.1 = (5 : Int))) && (decide (x1.2 = (0 : Int)))) && (decide (x4.2 = (0 : Int)))) && (decide ((lN x4.1) = (2 : Int)))) && (decide ((gD x4.1 (1 : Int)) = (5 : Int)))) && (decide (x7.2 = (0 : Int)))) && (decide ((lN x7.1) = (2 : Int)))) && ((decide ((((gD x7.1 (1 : Int)).Span).From) = ((bB.mk (5 : Int) (15 : Int)).From))) && ((decide ((((gD x7.1 (1 : Int)).Span).To) = ((bB.mk (5 : Int) (15 : Int)).To))) && true))) && (decide ((lN ((gD x7.1 (1 : Int)).Rows)) = (1 : Int))))))] ?_
  refine bL ?_
  obtain rfl := oI h0
  exact aG (Q_r hO)

theorem FC (eD : Int) (uB : Int) (t2 : Int) (u3 : Int) (r : Bool) (h0 : qH eD uB t2 u3 = some r) : dZ Try.prog 4 [(eI eD), (eI uB), (eI t2), (eI u3)] (aB r) := by
  intro H0
  refine dV Try.func4 ?_
  have hO := aJ.start H0
  unfold qH at h0
  refine aS aC 1 [] [] ?_
  refine aN ?_
  refine aP aC 9 ?_
  refine bN 3 ?_
  obtain ⟨x1, hx2, h0⟩ := aT h0
  refine fB (yF eD uB t2 _ hx2) hO ?_
  intro H hO
  refine bC ?_
  refine cD [] [(9, (eI x1.1)), (10, (eI x1.2))] ?_
  refine aN ?_
  refine aP aC 9 ?_
  refine bN 3 ?_
  obtain ⟨x4, hx5, h0⟩ := aT h0
  refine fB (yF eD uB u3 _ hx5) hO ?_
  intro H hO
  refine bC ?_
  refine cD [] [(11, (eI x4.1)), (12, (eI x4.2))] ?_
  refine aN ?_
  refine aS aC 6 [10, 12] [(32, (aB ((!decide (x1.2 = (0 : Int))) || (!decide (x4.2 = (0 : Int))))))] ?_
  refine bR h0 (fun h0 => ?_) (fun h0 => ?_)
  · refine aN ?_
    refine aP aC 2 ?_
    obtain ⟨x8, hx9, h0⟩ := aT h0
    refine fB (AU  _ hx9) hO ?_
    intro H hO
    refine bC ?_
    refine bD [(8, (aB x8))] ?_
    refine bL ?_
    obtain rfl := oI h0
    exact aG (aR (Q_r hO))
  refine bS ?_
  refine bD [(0, (eI eD)), (1, (eI uB)), (2, (eI t2)), (3, (eI u3)), (9, (eI x1.1)), (11, (eI x4.1))] ?_
  refine aN ?_
  refine cO aC 25 [(9, (eI x1.1)), (58, (aB (((decide (x1.1 ≤ (wR (t2 - eD)))) || ((decide (uB ≤ eD)) && (decide (t2 < x1.1)))) || ((decide (t2 ≤ u3)) && (decide (x4.1 < x1.1))))))] ?_
  refine bR h0 (fun h0 => ?_) (fun h0 => ?_)
  · refine cO aC 1 [(8, (aB false))] ?_
    refine bL ?_
    obtain rfl := oI h0
    exact aG (aR (Q_r hO))
  refine bS ?_
  refine bD [(9, (eI x1.1))] ?_
  refine aN ?_
  refine aP aC 10 ?_
  obtain ⟨x12, hx13, h0⟩ := aT h0
  refine fB (AU  _ hx13) hO ?_
  intro H hO
  refine bC ?_
  refine bD [(8, (aB ((x12 && (decide ((0 : Int) ≤ x1.1))) && (decide (x1.1 ≤ (1125899906842624 : Int))))))] ?_
  refine bL ?_
  obtain rfl := oI h0
  exact aG (Q_r hO)

end Go.Abs
namespace Go.Abs
open Go
theorem dY {n : Int} (h1 : -9223372036854775808 ≤ n) (h2 : n ≤ 9223372036854775807) : IntKind.i64.wrap n = n := by
  simp only [IntKind.wrap, IntKind.bits, IntKind.signed]
  simp
  split <;> omega

def qJ {α st R : Type} (step : st → α → Option (st ⊕ R)) (fin : st → R) : st → List α → Option R
  | s, [] => some (fin s)
  | s, a :: r => match step s a with
    | some (.inl s') => qJ step fin s' r
    | some (.inr x) => some x
    | none => none

theorem EO {α st R : Type} {step : st → α → Option (st ⊕ R)} {fin : st → R} {s s' : st} {a : α} {r : List α} (h : step s a = some (.inl s')) : qJ step fin s (a :: r) = qJ step fin s' r := by
  simp only [qJ, h]

theorem EM {α st R : Type} {step : st → α → Option (st ⊕ R)} {fin : st → R} {s : st} {x : R} {a : α} {r : List α} (h : step s a = some (.inr x)) : qJ step fin s (a :: r) = some x := by
  simp only [qJ, h]

theorem NR {α S st R : Type} {body : S → Option (S ⊕ R)} {l : List α} (mk : st → Int → S) (step : st → α → Option (st ⊕ R)) (fin : st → R)
    (hn : ∀ (i : Nat) a s, l[i]? = some a → (∀ s', step s a = some (.inl s') → body (mk s i) = some (.inl (mk s' ((i + 1 : Nat) : Int)))) ∧ (∀ x, step s a = some (.inr x) → body (mk s i) = some (.inr x)))
    (he : ∀ s, body (mk s (l.length : Nat)) = some (.inr (fin s))) : ∀ (m k : Nat) (s : st) (r : R), l.length - k = m → k ≤ l.length → qJ step fin s (l.drop k) = some r → lp body (mk s k) = some r
  | 0, k, s, r, hm, hk, h => by
    have : k = l.length := by omega
    subst this
    rw [List.drop_length] at h
    simp only [qJ, Option.some.injEq] at h
    subst h
    exact cV (he s)
  | m + 1, k, s, r, hm, hk, h => by
    have hlt : k < l.length := by omega
    have hd : l.drop k = l[k] :: l.drop (k + 1) := List.drop_eq_getElem_cons hlt
    rw [hd] at h
    simp only [qJ] at h
    obtain ⟨h1, h2⟩ := hn k l[k] s (List.getElem?_eq_getElem hlt)
    split at h
    · rename_i s' hs
      rw [gE (h1 s' hs)]
      exact NR mk step fin hn he m (k + 1) s' r (by omega) (by omega) h
    · rename_i x hs
      simp at h; subst h
      exact cV (h2 x hs)
    · cases h

theorem LH {α S st R : Type} {body : S → Option (S ⊕ R)} {l : List α} (mk : st → Int → S) (step : st → α → Option (st ⊕ R)) (fin : st → R)
    (hn : ∀ (i : Nat) a s, l[i]? = some a → (∀ s', step s a = some (.inl s') → body (mk s i) = some (.inl (mk s' ((i + 1 : Nat) : Int)))) ∧ (∀ x, step s a = some (.inr x) → body (mk s i) = some (.inr x)))
    (he : ∀ s, body (mk s (l.length : Nat)) = some (.inr (fin s))) {s : st} {r : R} (h : qJ step fin s l = some r) : lp body (mk s 0) = some r :=
  NR mk step fin hn he _ 0 s r rfl (Nat.zero_le _) (by simpa using h)

theorem idx {α : Type} [Inhabited α] {l : List α} {i : Nat} {a : α} (h : l[i]? = some a) (hl : l.length < 4611686018427387904) :
    decide ((i : Int) < ((l.length : Nat) : Int)) = true ∧ (0 ≤ (i : Int) ∧ (i : Int) < ((l.length : Nat) : Int)) ∧ l.getD (Int.toNat (i : Int)) default = a ∧ IntKind.i64.wrap ((i : Int) + 1) = ((i + 1 : Nat) : Int) := by
  have hlt : i < l.length := (List.getElem?_eq_some_iff.1 h).1
  refine ⟨by simpa using hlt, ⟨by omega, by omega⟩, ?_, ?_⟩
  · rw [Int.toNat_natCast, List.getD_eq_getElem?_getD, h]; rfl
  · rw [dY (by omega) (by omega)]; omega

theorem oK {n : Nat} : decide (((n : Nat) : Int) < ((n : Nat) : Int)) = false := by simp

theorem ZX {α : Type} {j : α} {r : List α} : (0 : Int) ≤ 0 ∧ (0 : Int) < ((List.length (j :: r) : Nat) : Int) := ⟨by omega, by simp⟩

theorem YY {α : Type} [Inhabited α] {j : α} {r : List α} : List.getD (j :: r) (Int.toNat (0 : Int)) default = j := rfl

end Go.Abs
namespace Go.Abs
open Go
theorem drop_cons {α : Type} {l r : List α} {a : α} {k : Nat} (h : l.drop k = a :: r) : l[k]? = some a ∧ l.drop (k + 1) = r := by
  have hk : k < l.length := by
    apply Classical.byContradiction; intro hn
    rw [List.drop_eq_nil_of_le (by omega)] at h; cases h
  rw [List.drop_eq_getElem_cons hk] at h
  obtain ⟨h1, h2⟩ := List.cons.inj h
  exact ⟨by rw [List.getElem?_eq_getElem hk, h1], h2⟩

theorem SN {α S st R : Type} {body : S → Option (S ⊕ R)} {l : List α} (mk : st → Int → S) (G : st → List α → R) (Inv : st → List α → Prop)
    (hn : ∀ (i : Nat) a r s, l[i]? = some a → Inv s (a :: r) → (∃ s', body (mk s i) = some (.inl (mk s' ((i + 1 : Nat) : Int))) ∧ Inv s' r ∧ G s' r = G s (a :: r)) ∨ body (mk s i) = some (.inr (G s (a :: r))))
    (he : ∀ s, Inv s [] → body (mk s (l.length : Nat)) = some (.inr (G s []))) : ∀ (r : List α) (k : Nat) (s : st), l.drop k = r → k ≤ l.length → Inv s r → lp body (mk s k) = some (G s r)
  | [], k, s, hd, hk, hi => by
    have : k = l.length := by
      have := congrArg List.length hd
      simp only [List.length_drop, List.length_nil] at this; omega
    subst this
    exact cV (he s hi)
  | a :: r, k, s, hd, hk, hi => by
    obtain ⟨h1, h2⟩ := drop_cons hd
    have hlt : k < l.length := (List.getElem?_eq_some_iff.1 h1).1
    rcases hn k a r s h1 hi with ⟨s', hb, hi', hg⟩ | hb
    · rw [gE hb, SN mk G Inv hn he r (k + 1) s' h2 (by omega) hi', hg]
    · exact cV hb

theorem FZ {α S st R : Type} {body : S → Option (S ⊕ R)} {l : List α} (mk : st → Int → S) (G : st → List α → R) (Inv : st → List α → Prop) (s : st)
    (hn : ∀ (i : Nat) a r s, l[i]? = some a → Inv s (a :: r) → (∃ s', body (mk s i) = some (.inl (mk s' ((i + 1 : Nat) : Int))) ∧ Inv s' r ∧ G s' r = G s (a :: r)) ∨ body (mk s i) = some (.inr (G s (a :: r))))
    (he : ∀ s, Inv s [] → body (mk s (l.length : Nat)) = some (.inr (G s []))) (hi : Inv s l) : lp body (mk s 0) = some (G s l) :=
  SN mk G Inv hn he l 0 s rfl (Nat.zero_le _) hi

end Go.Abs
namespace Go.Abs
open Go
variable {α : Type} [Inhabited α]
structure Cmp {β : Type} (ok : β → Prop) (le : β → β → Prop) (cmp : β → β → Option Int) : Prop where
  ans : ∀ x y, ok x → ok y → ∃ v, cmp x y = some v ∧ (v < 0 ↔ ¬ le y x)
  trans : ∀ x y z, ok x → ok y → ok z → le x y → le y z → le x z
  total : ∀ x y, ok x → ok y → le x y ∨ le y x

abbrev Srt {β : Type} (le : β → β → Prop) (l : List β) : Prop := l.Pairwise le

abbrev Oks {β : Type} (ok : β → Prop) (l : List β) : Prop := ∀ x ∈ l, ok x

section ins
variable {ok : α → Prop} {le : α → α → Prop} {cmp : α → α → Option Int}
end ins
end Go.Abs
namespace Go.Abs
open Go
variable {α : Type} [Inhabited α]
section sym
variable {ok : α → Prop} {le : α → α → Prop} {cmp : α → α → Option Int}
theorem Cmp.refl {β : Type} {ok : β → Prop} {le : β → β → Prop} {cmp : β → β → Option Int} (C : Cmp ok le cmp) {x : β} (h : ok x) : le x x := by rcases C.total x x h h with h | h <;> exact h

end sym
end Go.Abs
namespace Go.Abs
open Go
variable {α : Type} [Inhabited α] {ok : α → Prop} {le : α → α → Prop} {cmp : α → α → Option Int}
inductive FQ {β : Type} (le : β → β → Prop) (n : Nat) : List β → Prop
  | last {l : List β} : l.length ≤ n → Srt le l → FQ le n l
  | cons {x l : List β} : x.length = n → Srt le x → FQ le n l → FQ le n (x ++ l)

theorem FQ.split {β : Type} {le : β → β → Prop} {n : Nat} {l : List β} (h : FQ le n l) (hl : n < l.length) : ∃ x r, l = x ++ r ∧ x.length = n ∧ Srt le x ∧ FQ le n r := by
  cases h with
  | last h' _ => omega
  | cons hx hs hr => exact ⟨_, _, rfl, hx, hs, hr⟩

theorem Oks.perm {β : Type} {ok : β → Prop} {l l' : List β} (h : Oks ok l) (hp : l'.Perm l) : Oks ok l' := fun x hx => h x (hp.mem_iff.1 hx)

end Go.Abs
namespace Go.Abs
open Go
structure ZT where
  Row : (List aD)
  Span : bB
  deriving Inhabited, DecidableEq

structure ZY where
  Kind : Int
  Input : Int
  Edges : (List bE)
  At : Int
  deriving Inhabited, DecidableEq

structure ZS where
  row : (List aD)
  jumps : (List aF)
  deriving Inhabited, DecidableEq

structure ZJ where
  Kind : Int
  Size : Int
  Hop : Int
  deriving Inhabited, DecidableEq

end Go.Abs
namespace Go.Abs
open Go
def IE (n : Int) : Bool := decide (n ≤ 1048576) && decide (-1048576 ≤ n)

theorem XA (n : Int) : uE n = some (IE n) := rfl

def CQ (last : Int) (j : aF) : Bool := decide (j.At ≤ last) || decide (1125899906842624 ≤ j.At) || decide (j.Net = 0) || !IE j.Net

def chk (last : Int) : List aF → Bool
  | [] => true
  | j :: r => !CQ last j && chk j.At r

def jQ (f : List aF) : Bool := decide (f.length ≤ 1024) && chk (-2) f

theorem LI {f : List aF} {i : Nat} {a : aF} {last : Int} (ha : f[i]? = some a) (hl : f.length < 4611686018427387904) :
    kY f (f.length : Nat) last i = some (if CQ last a then .inr (.inr false) else .inl (a.At, ((i + 1 : Nat) : Int))) := by
  obtain ⟨d1, d2, d3, d4⟩ := idx ha hl
  simp only [kY, d1, cond_true, aO d2, d3, d4, XA]
  unfold CQ
  cases h : (decide (a.At ≤ last) || decide (1125899906842624 ≤ a.At) || decide (a.Net = 0)) <;> cases h2 : IE a.Net <;> simp [dR]

theorem JI : ∀ (f : List aF) (last : Int), qJ (fun last (j : aF) => some (if CQ last j then .inr (.inr false) else .inl j.At)) (fun _ => (.inl () : Unit ⊕ Bool)) last f = some (if chk last f then .inl () else .inr false)
  | [], last => by simp [qJ, chk]
  | j :: r, last => by
    cases h : CQ last j
    · rw [EO (s' := j.At) (by simp [h])]
      rw [JI r j.At]
      simp [chk, h]
    · rw [EM (x := .inr false) (by simp [h])]
      simp [chk, h]

theorem DG (f : List aF) : mR f = some (jQ f) := by
  unfold mR jQ
  by_cases hl : f.length ≤ 1024
  · have h1 : decide ((1024 : Int) < ((f.length : Nat) : Int)) = false := by simp; omega
    rw [h1, cond_false]
    unfold tY
    have key := LH (l := f) (body := fun s : Int × Int => kY f (f.length : Nat) s.1 s.2) (fun last i => (last, i)) _ _
      (fun i a s ha => by
        constructor
        · intro s' hs
          show kY f (f.length : Nat) s i = _
          rw [LI ha (by omega)]
          split at hs <;> simp_all
        · intro x hs
          show kY f (f.length : Nat) s i = _
          rw [LI ha (by omega)]
          split at hs <;> simp_all)
      (fun s => by show kY f (f.length : Nat) s (f.length : Nat) = _; simp only [kY, oK, cond_false]) (JI f (-2))
    rw [key]
    cases h : chk (-2) f <;> simp [sC, hl]
  · have h1 : decide ((1024 : Int) < ((f.length : Nat) : Int)) = true := by simp; omega
    rw [h1, cond_true]
    simp [hl]

theorem NW {last : Int} {j : aF} : CQ last j = false ↔ last < j.At ∧ j.At < 1125899906842624 ∧ j.Net ≠ 0 ∧ j.Net ≤ 1048576 ∧ -1048576 ≤ j.Net := by
  simp [CQ, IE]
  omega

def oX (last : Int) : List aF → Prop
  | [] => True
  | j :: r => (last < j.At ∧ j.At < 1125899906842624 ∧ j.Net ≠ 0 ∧ j.Net ≤ 1048576 ∧ -1048576 ≤ j.Net) ∧ oX j.At r

theorem MZ : ∀ {f : List aF} {last : Int}, chk last f = true ↔ oX last f
  | [], last => by simp [chk, oX]
  | j :: r, last => by simp [chk, oX, NW, MZ]

theorem pU {f : List aF} : jQ f = true ↔ f.length ≤ 1024 ∧ oX (-2) f := by simp [jQ, MZ]

theorem oX.above : ∀ {f : List aF} {last : Int}, oX last f → ∀ j ∈ f, last < j.At ∧ j.At < 1125899906842624 ∧ j.Net ≠ 0 ∧ j.Net ≤ 1048576 ∧ -1048576 ≤ j.Net
  | [], _, _, j, hj => by simp at hj
  | a :: r, last, h, j, hj => by
    rcases List.mem_cons.1 hj with rfl | hj
    · exact h.1
    · have := h.2.above j hj
      have h1 := h.1.1
      exact ⟨by omega, this.2⟩

def val (f : List aF) (t : Int) : Int := (f.map fun j => if j.At ≤ t then j.Net else 0).sum

theorem BB (t : Int) : val [] t = 0 := rfl

theorem gK (j : aF) (r : List aF) (t : Int) : val (j :: r) t = (if j.At ≤ t then j.Net else 0) + val r t := by simp [val]

theorem GJ : ∀ {f : List aF} {b : Int} (t : Int), 0 ≤ b → (∀ j ∈ f, j.Net ≤ b ∧ -b ≤ j.Net) → val f t ≤ b * f.length ∧ -(b * f.length) ≤ val f t
  | [], b, t, _, _ => by simp [val]
  | j :: r, b, t, hb, h => by
    obtain ⟨h1, h2⟩ := GJ t hb (fun k hk => h k (List.mem_cons_of_mem _ hk))
    have h3 := h j (List.mem_cons_self ..)
    rw [gK]
    simp only [List.length_cons, Int.natCast_add, Int.natCast_one, Int.mul_add, Int.mul_one]
    split <;> omega

theorem qP {f : List aF} {t : Int} (h : ∀ j ∈ f, t < j.At) : val f t = 0 := by
  induction f with
  | nil => rfl
  | cons j r ih =>
    rw [gK, ih (fun k hk => h k (List.mem_cons_of_mem _ hk))]
    have := h j (List.mem_cons_self ..)
    rw [if_neg (by omega)]; rfl

theorem MY {f : List aF} {i : Nat} {a : aF} {t v : Int} (ha : f[i]? = some a) (hl : f.length < 4611686018427387904) :
    lV t f (f.length : Nat) v i = some (if t < a.At then .inr v else .inl (IntKind.i64.wrap (v + a.Net), ((i + 1 : Nat) : Int))) := by
  obtain ⟨d1, d2, d3, d4⟩ := idx ha hl
  simp only [lV, d1, cond_true, aO d2, d3, d4]
  by_cases h : t < a.At <;> simp [h]

theorem WS {t : Int} (f : List aF) : ∀ (last v : Int), oX last f → v ≤ 1048576 * (2048 - f.length) → -(1048576 * (2048 - f.length)) ≤ v → f.length ≤ 1024 →
    qJ (fun v (j : aF) => some (if t < j.At then .inr v else .inl (IntKind.i64.wrap (v + j.Net)))) (fun v => (v : Int)) v f = some (v + val f t) := by
  induction f with
  | nil => intro last v _ _ _ _; simp [qJ, val]
  | cons j r ih =>
    intro last v h h1 h2 hl
    simp only [List.length_cons] at h1 h2 hl
    by_cases hj : t < j.At
    · rw [EM (x := v) (by simp [hj])]
      rw [qP (fun k hk => by
        rcases List.mem_cons.1 hk with rfl | hk
        · exact hj
        · have := (h.2.above k hk).1; omega)]
      simp
    · have hj1 := h.1
      have hw : IntKind.i64.wrap (v + j.Net) = v + j.Net := dY (by omega) (by omega)
      rw [EO (s' := v + j.Net) (by simp [hj, hw])]
      rw [ih j.At (v + j.Net) h.2 (by omega) (by omega) (by omega), gK, if_pos (by omega)]
      congr 1
      omega

theorem ZE (f : List aF) (t : Int) : uK f t = some (if jQ f then val f t else 0) := by
  unfold uK
  rw [DG]
  simp only [Option.bind_some]
  cases h : jQ f
  · simp
  · obtain ⟨hl, hr⟩ := pU.1 h
    simp only [Bool.not_true, cond_false, if_true]
    unfold uX
    have key := LH (l := f) (body := fun s : Int × Int => lV t f (f.length : Nat) s.1 s.2) (fun v i => (v, i)) _ _
      (fun i a s ha => by
        constructor
        · intro s' hs
          show lV t f (f.length : Nat) s i = _
          rw [MY ha (by omega)]
          split at hs <;> simp_all
        · intro x hs
          show lV t f (f.length : Nat) s i = _
          rw [MY ha (by omega)]
          split at hs <;> simp_all)
      (fun s => by show lV t f (f.length : Nat) s (f.length : Nat) = _; simp only [lV, oK, cond_false]) (WS (t := t) f (-2) 0 hr (by omega) (by omega) hl)
    rw [key]
    simp [rO]

end Go.Abs
namespace Go.Abs
open Go
section both
variable {op : Int → Int → Option Int} {f g r : List aF} {out : List aF} {a b was t : Int} {j : aF}
end both
def emit (p v was : Int) : List aF := if v = was then [] else [⟨p, v - was⟩]

def VS (was : Int) : List (Int × Int) → List aF
  | [] => []
  | x :: r => emit x.1 x.2 was ++ VS x.2 r

def merge (f g : List aF) (a b : Int) : List (Int × Int × Int) :=
  match f, g with
  | [], [] => []
  | j :: f, [] => (j.At, a + j.Net, b) :: merge f [] (a + j.Net) b
  | [], k :: g => (k.At, a, b + k.Net) :: merge [] g a (b + k.Net)
  | j :: f, k :: g =>
    if j.At < k.At then (j.At, a + j.Net, b) :: merge f (k :: g) (a + j.Net) b
    else if k.At < j.At then (k.At, a, b + k.Net) :: merge (j :: f) g a (b + k.Net)
    else (j.At, a + j.Net, b + k.Net) :: merge f g (a + j.Net) (b + k.Net)

termination_by f.length + g.length
end Go.Abs
namespace Go.Abs
open Go
def comb (OP : Int → Int → Int) (f g : List aF) : List aF := VS 0 ((merge f g 0 0).map fun x => (x.1, OP x.2.1 x.2.2))

def told (f : List aF) : List aF × Int := if jQ f then (f, 0) else ([], 7)

def two (OP : Int → Int → Int) (f g : List aF) : List aF × Int := if jQ f && jQ g then told (comb OP f g) else ([], 2)

end Go.Abs
namespace Go.Abs
open Go
theorem oX.wF {l t : Int} {f : List aF} (h : oX l f) (ht : t ≤ l) : val f t = 0 := qP fun j hj => by have := (h.above j hj).1; omega

end Go.Abs
namespace Go.Abs
open Go
def YK (f : List aF) : Int := (f.map aF.Net).sum

def UC (t : Int) : List aF → List aF
  | [] => []
  | j :: r => if t ≤ j.At then [] else j :: UC t r

def aft (t : Int) : List aF → List aF
  | [] => []
  | j :: r => if t ≤ j.At then j :: r else aft t r

end Go.Abs
namespace Go.Abs
open Go
def ZF (t : Int) (f : List aF) : List aF := (if YK (UC t f) = 0 then [] else [⟨-1, YK (UC t f)⟩]) ++ aft t f

def rest (f : List aF) (t : Int) : List aF × Int :=
  if jQ f then (if 1125899906842624 ≤ t then ([], 0) else if t ≤ -1 then (f, 0) else told (ZF t f)) else ([], 2)

end Go.Abs
namespace Go.Abs
open Go
def Up (last : Int) : List aF → Prop
  | [] => True
  | j :: r => (last < j.At ∧ j.At < 1125899906842624 ∧ j.Net ≠ 0) ∧ Up j.At r

theorem Up.above : ∀ {f : List aF} {last : Int}, Up last f → ∀ j ∈ f, last < j.At ∧ j.At < 1125899906842624 ∧ j.Net ≠ 0
  | [], _, _, j, hj => by simp at hj
  | a :: r, last, h, j, hj => by
    rcases List.mem_cons.1 hj with rfl | hj
    · exact h.1
    · have := h.2.above j hj
      have h1 := h.1.1
      exact ⟨by omega, this.2⟩

theorem Up.wF {l t : Int} {f : List aF} (h : Up l f) (ht : t ≤ l) : val f t = 0 := qP fun j hj => by have := (h.above j hj).1; omega

theorem Up.weaken {a b : Int} {f : List aF} (h : Up b f) (hab : a ≤ b) : Up a f := by
  cases f with
  | nil => trivial
  | cons j r => exact ⟨⟨by have := h.1.1; omega, h.1.2⟩, h.2⟩

theorem oX.up : ∀ {f : List aF} {last : Int}, oX last f → Up last f
  | [], _, _ => trivial
  | _ :: _, _, h => ⟨⟨h.1.1, h.1.2.1, h.1.2.2.1⟩, h.2.up⟩

theorem Up.ext : ∀ {f g : List aF} {last : Int}, Up last f → Up last g → (∀ t, last < t → t < 1125899906842624 → val f t = val g t) → f = g
  | [], [], _, _, _, _ => rfl
  | j :: r, [], last, hf, _, h => by
    have := h j.At hf.1.1 hf.1.2.1
    rw [gK, if_pos (Int.le_refl _), hf.2.wF (Int.le_refl _), BB] at this
    exact absurd (by omega) hf.1.2.2
  | [], k :: s, last, _, hg, h => by
    have := h k.At hg.1.1 hg.1.2.1
    rw [gK, if_pos (Int.le_refl _), hg.2.wF (Int.le_refl _), BB] at this
    exact absurd (by omega) hg.1.2.2
  | j :: r, k :: s, last, hf, hg, h => by
    have h1 := h j.At hf.1.1 hf.1.2.1
    have h2 := h k.At hg.1.1 hg.1.2.1
    rw [gK, if_pos (Int.le_refl _), hf.2.wF (Int.le_refl _), gK] at h1
    rw [gK, gK k, if_pos (Int.le_refl _), hg.2.wF (Int.le_refl _)] at h2
    have n1 := hf.1.2.2
    have n2 := hg.1.2.2
    have he : j.At = k.At := by
      rcases Int.lt_trichotomy j.At k.At with h3 | h3 | h3
      · rw [if_neg (by omega), hg.2.wF (by omega)] at h1; omega
      · exact h3
      · rw [if_neg (by omega), hf.2.wF (by omega)] at h2; omega
    rw [if_pos (by omega), hg.2.wF (by omega)] at h1
    have hj : j = k := by
      obtain ⟨a, b⟩ := j; obtain ⟨c, d⟩ := k
      simp only at he h1
      simp only [Int.add_zero] at h1
      rw [he, h1]
    subst hj
    rw [hf.2.ext hg.2 (fun t ht ht' => by
      have := h t (by have := hf.1.1; omega) ht'
      rw [gK, gK] at this; omega)]

def Inc (last : Int) : List Int → Prop
  | [] => True
  | p :: r => (last < p ∧ p < 1125899906842624) ∧ Inc p r

theorem Inc.above : ∀ {ps : List Int} {last : Int}, Inc last ps → ∀ p ∈ ps, last < p ∧ p < 1125899906842624
  | [], _, _, j, hj => by simp at hj
  | a :: r, last, h, j, hj => by
    rcases List.mem_cons.1 hj with rfl | hj
    · exact h.1
    · have := h.2.above j hj
      have h1 := h.1.1
      exact ⟨by omega, this.2⟩

end Go.Abs
namespace Go.Abs
open Go
theorem UY {f : List aF} (h : jQ f = true) : ∀ j ∈ f, j.Net ≤ 1048576 ∧ -1048576 ≤ j.Net := fun j hj => by have := (pU.1 h).2.above j hj; omega

def mA (t : Int) : List Int → List Int
  | [] => [t]
  | p :: r => if p = t then p :: r else if t < p then t :: p :: r else p :: mA t r

theorem GW {t x : Int} : ∀ {ps : List Int}, x ∈ mA t ps ↔ x = t ∨ x ∈ ps
  | [] => by simp [mA]
  | p :: r => by
    unfold mA
    split
    · rename_i h; subst h; simp
    · split
      · simp
      · simp only [List.mem_cons, GW (ps := r)]; constructor <;> (intro h; rcases h with h | h | h <;> simp [h])

theorem AQ {t : Int} : ∀ {ps : List Int} {last : Int}, Inc last ps → last < t → t < 1125899906842624 → Inc last (mA t ps)
  | [], last, _, h1, h2 => ⟨⟨h1, h2⟩, trivial⟩
  | p :: r, last, h, h1, h2 => by
    unfold mA
    split
    · exact h
    · split
      · rename_i h3 h4
        exact ⟨⟨h1, h2⟩, ⟨h4, h.1.2⟩, h.2⟩
      · exact ⟨h.1, AQ h.2 (by omega) h2⟩

theorem EH {t : Int} : ∀ {ps : List Int} {last : Int}, Inc last ps → t ∈ ps → mA t ps = ps
  | [], _, _, h => by simp at h
  | p :: r, last, hi, h => by
    unfold mA
    split
    · rfl
    · rename_i hp
      rcases List.mem_cons.1 h with h | h
      · exact absurd h.symm hp
      · have := (hi.2.above t h).1
        rw [if_neg (by omega), EH hi.2 h]

end Go.Abs
namespace Go.Abs
open Go
def mn (a b : Int) : Int := if b < a then b else a

def parts (v : Int) : List aF → List Int
  | [] => []
  | j :: r => (v + j.Net) :: parts (v + j.Net) r

def xR (f : List aF) : Int := (f.map fun j => val f j.At).foldl mn (val f (-1))

theorem parts_eq : ∀ {f : List aF} {l v : Int}, oX l f → parts v f = f.map fun j => v + val f j.At
  | [], _, _, _ => rfl
  | j :: r, l, v, h => by
    simp only [parts, List.map_cons]
    rw [parts_eq h.2, gK, if_pos (Int.le_refl _), h.2.wF (Int.le_refl _), Int.add_zero]
    congr 1
    apply List.map_congr_left
    intro k hk
    have := (h.2.above k hk).1
    rw [gK, if_pos (by omega)]; omega

theorem QK {j : aF} {r : List aF} (h : oX (-2) (j :: r)) : val (j :: r) (-1) = if j.At = -1 then j.Net else 0 := by
  have := h.1.1
  by_cases e : j.At = -1
  · rw [if_pos e, gK, if_pos (by omega), h.2.wF (by omega)]; omega
  · rw [if_neg e, qP]
    intro k hk
    rcases List.mem_cons.1 hk with rfl | hk
    · omega
    · have := (h.2.above k hk).1; omega

theorem EV {f : List aF} (hf : jQ f = true) (m : Int) (hm : -1125899906842624 ≤ m ∧ m ≤ 1125899906842624) : pL 0 m f (f.length : Nat) 0 = some ((f.map fun j => val f j.At).foldl mn m) := by
  obtain ⟨hl, hr⟩ := pU.1 hf
  unfold pL
  rw [FZ (l := f) (body := fun s : Int × Int × Int => lG f (f.length : Nat) s.1 s.2.1 s.2.2) (fun (s : Int × Int) i => (s.1, s.2, i)) (fun s r => (parts s.1 r).foldl mn s.2)
    (fun s r => (∀ j ∈ r, j.Net ≤ 1048576 ∧ -1048576 ≤ j.Net) ∧ r.length ≤ 1024 ∧ s.1 ≤ 1048576 * (1024 - r.length) ∧ -(1048576 * (1024 - r.length)) ≤ s.1) (0, m) ?_ ?_ ?_]
  · simp only [Option.bind_some, pO, parts_eq hr, Int.zero_add]
  · rintro i a r ⟨v, m⟩ ha ⟨h1, h2, h3, h4⟩
    obtain ⟨d1, d2, d3, d4⟩ := idx ha (by omega)
    have hj := h1 a (List.mem_cons_self ..)
    simp only [List.length_cons] at h2 h3 h4
    have hw : IntKind.i64.wrap (v + a.Net) = v + a.Net := dY (by omega) (by omega)
    left
    refine ⟨(v + a.Net, mn m (v + a.Net)), ?_, ⟨fun j hj => h1 j (List.mem_cons_of_mem _ hj), by omega, by simp only; omega, by simp only; omega⟩, rfl⟩
    show lG f (f.length : Nat) v m i = _
    simp only [lG, d1, cond_true, aO d2, d3, d4, hw, mn]
  · rintro ⟨v, m⟩ _
    show lG f (f.length : Nat) v m (f.length : Nat) = _
    simp only [lG, oK, cond_false, parts, List.foldl_nil]
  · exact ⟨UY hf, hl, by simp only; omega, by simp only; omega⟩

theorem TF (f : List aF) : qU f = some (if jQ f then xR f else 0) := by
  unfold qU
  rw [DG]
  cases h : jQ f
  · simp
  · cases f with
    | nil => simp [xR, val]
    | cons j r =>
      obtain ⟨hl, hr⟩ := pU.1 h
      have hne : decide (((List.length (j :: r) : Nat) : Int) = 0) = false := by simp; omega
      simp only [Option.bind_some, Bool.not_true, Bool.false_or, hne, cond_false, aO ZX, YY, if_true]
      have hj := hr.1
      unfold xR
      rw [QK hr]
      by_cases e : j.At = -1
      · simp only [e, decide_true, cond_true, if_true, nH]
        exact EV h j.Net (by omega)
      · simp only [e, decide_false, cond_false, if_false, nH]
        exact EV h 0 (by omega)

end Go.Abs
namespace Go.Abs
open Go
theorem w1 : IntKind.i64.wrap (0 + 1) = 1 := by rw [dY] <;> omega

theorem w2 : IntKind.i64.wrap (1 + 1) = 2 := by rw [dY] <;> omega

theorem w3 : IntKind.i64.wrap (1 - 1) = 0 := by rw [dY] <;> omega

theorem v0 : IntKind.i64.wrap 0 = 0 := by rw [dY] <;> omega

theorem v1 : IntKind.i64.wrap 1 = 1 := by rw [dY] <;> omega

theorem v2 : IntKind.i64.wrap 2 = 2 := by rw [dY] <;> omega

theorem v3 : IntKind.i64.wrap (-1) = -1 := by rw [dY] <;> omega

end Go.Abs
namespace Go.Abs
open Go
variable {α : Type} [Inhabited α]
noncomputable def mU (f1 : α → Option Bool) (s0 : (List α)) (t7 : Int) (t8 : Int) : Option ((Int) ⊕ (Unit ⊕ Int)) :=
  cond (decide (t8 < t7))
  (bF (0 ≤ t8 ∧ t8 < ((List.length s0 : Nat) : Int)) <|
  (f1 (List.getD s0 (Int.toNat t8) default)).bind fun x2 =>
  cond x2
  (some (.inr (.inr t8)))
  (some (.inl (IntKind.i64.wrap (t8 + (1 : Int))))))
  (some (.inr (.inl ())))

theorem LD {l : List α} {f : α → Option Bool} {g : α → Bool} (hl : l.length ≤ 1099511627776) (hf : ∀ x ∈ l, f x = some (g x)) : ∀ (r : List α) (k : Nat), l.drop k = r → k ≤ l.length →
    ∃ x, lp (fun s => mU f l (l.length : Nat) s) (k : Int) = some x ∧ ((x = .inl () ∧ r.any g = false) ∨ (∃ i : Nat, x = .inr (i : Int) ∧ k ≤ i ∧ i < l.length ∧ r.any g = true ∧ g (l.getD i default) = true ∧ ∀ j, k ≤ j → j < i → g (l.getD j default) = false))
  | [], k, hd, hk => by
    have : k = l.length := by
      have := congrArg List.length hd
      simp only [List.length_drop, List.length_nil] at this; omega
    subst this
    refine ⟨.inl (), cV ?_, Or.inl ⟨rfl, rfl⟩⟩
    show mU f l _ _ = _
    simp only [mU, oK, cond_false]
  | a :: r, k, hd, hk => by
    obtain ⟨h1, h2⟩ := drop_cons hd
    have hlt : k < l.length := (List.getElem?_eq_some_iff.1 h1).1
    obtain ⟨d1, d2, d3, d4⟩ := idx h1 (by omega)
    have hga : l.getD k default = a := by rw [Int.toNat_natCast] at d3; exact d3
    have hb : (fun s => mU f l (l.length : Nat) s) (k : Int) = some (if g a then .inr (.inr (k : Int)) else .inl ((k + 1 : Nat) : Int)) := by
      show mU f l _ _ = _
      simp only [mU, d1, cond_true, aO d2, d3, d4, hf a (List.mem_of_getElem? h1), Option.bind_some]
      cases g a <;> simp
    cases hg : g a
    · rw [hg] at hb
      obtain ⟨x, e, hx⟩ := LD hl hf r (k + 1) h2 (by omega)
      refine ⟨x, by rw [gE hb]; exact e, ?_⟩
      rcases hx with ⟨rfl, h⟩ | ⟨i, rfl, h3, h4, h5, h6, h7⟩
      · exact Or.inl ⟨rfl, by simp [hg, h]⟩
      · refine Or.inr ⟨i, rfl, by omega, h4, by simp [h5], h6, fun j hj hj' => ?_⟩
        by_cases e : j = k
        · subst e; rw [hga, hg]
        · exact h7 j (by omega) hj'
    · rw [hg] at hb
      exact ⟨.inr (k : Int), cV hb, Or.inr ⟨k, rfl, Nat.le_refl _, hlt, by simp [hg], by rw [hga, hg], fun j h h' => by omega⟩⟩

end Go.Abs
namespace Go.Abs
open Go
theorem HD (x y : ByteArray) : nK x y = decide (x = y) := by
  unfold nK
  rw [ByteArray.toList_eq, ByteArray.toList_eq]
  by_cases h : x = y
  · simp [h]
  · have : x.data.toList ≠ y.data.toList := by
      intro he
      apply h
      cases x; cases y
      congr 1
      exact Array.toList_inj.1 he
    have h2 : (x.data.toList == y.data.toList) = false := by simpa using this
    rw [h2]; simp [h]

theorem veq (a b : aD) : ((decide (a.Kind = b.Kind)) && ((decide (a.Num = b.Num)) && ((nK a.Text b.Text) && true))) = decide (a = b) := by
  rw [HD]
  obtain ⟨a1, a2, a3⟩ := a
  obtain ⟨b1, b2, b3⟩ := b
  by_cases h1 : a1 = b1 <;> by_cases h2 : a2 = b2 <;> by_cases h3 : a3 = b3 <;> simp [h1, h2, h3]

def xV (v : aD) : Bool := decide (v.Kind = 1) && nK v.Text (⟨#[]⟩ : ByteArray)

def yQ (v : aD) : Bool := ((decide (v.Kind = 2)) && (decide (v.Num = 0))) && (decide (((ByteArray.size v.Text : Nat) : Int) ≤ 64))

def yY (v : aD) : Bool := xV v || yQ v

def rT (r : List aD) : Bool := decide (r.length ≤ 8) && r.all yY

theorem of_eq (v : aD) : kQ v = some (if xV v then (.k_number v.Num, true) else if yQ v then (.k_words v.Text, true) else (.none_, false)) := by
  unfold kQ xV yQ
  cases (decide (v.Kind = 1) && nK v.Text (⟨#[]⟩ : ByteArray)) <;> cases (((decide (v.Kind = 2)) && (decide (v.Num = 0))) && (decide (((ByteArray.size v.Text : Nat) : Int) ≤ 64))) <;> rfl

theorem VW (v : aD) : sG v = some (yY v) := by
  unfold sG yY
  rw [of_eq]
  cases xV v <;> cases yQ v <;> rfl

theorem LK {l : List aD} {f : aD → Option Bool} {g : aD → Bool} (hl : l.length ≤ 1099511627776) (hf : ∀ x ∈ l, f x = some (g x)) : eN l f = some (l.any g) := by
  unfold eN iA gS
  obtain ⟨x, e, hx⟩ := LD hl hf l 0 rfl (Nat.zero_le _)
  have e' : lp (fun s => gT f l (l.length : Nat) s) 0 = some x := e
  rw [e']
  rcases hx with ⟨rfl, h⟩ | ⟨i, rfl, _, _, h, _⟩
  · simp [eW, h]
  · simp [h]

theorem FU (r : List aD) : qO r = some (rT r) := by
  unfold qO rT
  by_cases h : r.length ≤ 8
  · have h1 : decide ((8 : Int) < ((r.length : Nat) : Int)) = false := by simp; omega
    rw [h1, cond_false, LK (g := fun v => !yY v) (by omega) (fun x _ => by simp [sA, VW])]
    simp only [Option.bind_some, h, decide_true, Bool.true_and]
    congr 1
    rw [List.all_eq_not_any_not]
  · have h1 : decide ((8 : Int) < ((r.length : Nat) : Int)) = true := by simp; omega
    rw [h1, cond_true]
    simp [h]

theorem VJ {α : Type} [DecidableEq α] {f g : List α} {body : Int → Option (Int ⊕ (Unit ⊕ Bool))} (he : f.length = g.length)
    (hb : ∀ (i : Nat) a b, f[i]? = some a → g[i]? = some b → body i = some (if a = b then .inl ((i + 1 : Nat) : Int) else .inr (.inr false)))
    (hend : body (f.length : Nat) = some (.inr (.inl ()))) : ∀ (m k : Nat), f.length - k = m → k ≤ f.length → lp body (k : Int) = some (if f.drop k = g.drop k then .inl () else .inr false)
  | 0, k, hm, hk => by
    have : k = f.length := by omega
    subst this
    rw [List.drop_length, he, List.drop_length, if_pos rfl]
    rw [← he]
    exact cV hend
  | m + 1, k, hm, hk => by
    have h1 : k < f.length := by omega
    have h2 : k < g.length := by omega
    have hbk := hb k _ _ (List.getElem?_eq_getElem h1) (List.getElem?_eq_getElem h2)
    have e1 : f.drop k = f[k] :: f.drop (k + 1) := List.drop_eq_getElem_cons h1
    have e2 : g.drop k = g[k] :: g.drop (k + 1) := List.drop_eq_getElem_cons h2
    have hiff : (f.drop k = g.drop k) ↔ (f[k] = g[k] ∧ f.drop (k + 1) = g.drop (k + 1)) := by rw [e1, e2, List.cons.injEq]
    by_cases h : f[k] = g[k]
    · rw [if_pos h] at hbk
      rw [gE hbk, VJ he hb hend m (k + 1) (by omega) (by omega)]
      simp only [hiff, h, true_and]
    · rw [if_neg h] at hbk
      rw [cV hbk]
      simp only [hiff, h, false_and, if_false]

theorem XX {α : Type} {f g : List α} (h : f.length ≠ g.length) : (!decide (((f.length : Nat) : Int) = ((g.length : Nat) : Int))) = true := by simp; omega

theorem YP {α : Type} {f g : List α} (h : f.length = g.length) : (!decide (((f.length : Nat) : Int) = ((g.length : Nat) : Int))) = false := by simp [h]

theorem ED (a b : List aD) (hl : a.length ≤ 17592186044416) : oW a b = some (decide (a = b)) := by
  unfold oW iZ
  by_cases he : a.length = b.length
  · rw [YP he, cond_false]
    unfold iV
    have := VJ (f := a) (g := b) (body := fun s => eR a b (a.length : Nat) s) he ?_ ?_ a.length 0 rfl (Nat.zero_le _)
    · simp only [Int.natCast_zero, List.drop_zero] at this
      rw [this]
      by_cases h : a = b <;> simp [h, fS]
    · intro i x y hx hy
      obtain ⟨d1, d2, d3, d4⟩ := idx hx (by omega)
      obtain ⟨_, e2, e3, _⟩ := idx hy (by omega)
      simp only [eR, d1, cond_true, aO d2, aO e2, d3, e3, d4, veq]
      by_cases h : x = y <;> simp [h]
    · simp only [eR, oK, cond_false]
  · rw [XX he, cond_true]
    have : a ≠ b := fun h => he (by rw [h])
    simp [this]

structure zH {α : Type} (c : α → α → Int) : Prop where
  eq : ∀ a b, c a b = 0 ↔ a = b
  anti : ∀ a b, c a b < 0 ↔ 0 < c b a
  trans : ∀ a b d, c a b < 0 → c b d < 0 → c a d < 0

def oT (x y : Int) : Int := if x < y then -1 else if y < x then 1 else 0

theorem vN : zH oT where
  eq a b := by unfold oT; (repeat' split) <;> omega
  anti a b := by unfold oT; (repeat' split) <;> omega
  trans a b d := by unfold oT; (repeat' split) <;> omega

def kL {α : Type} [DecidableEq α] (c : α → α → Int) : List α → List α → Int
  | [], [] => 0
  | [], _ :: _ => -1
  | _ :: _, [] => 1
  | a :: r, b :: s => if a = b then kL c r s else c a b

theorem zH.list {α : Type} [DecidableEq α] {c : α → α → Int} (h : zH c) : zH (kL c) where
  eq := by
    intro a
    induction a with
    | nil => intro b; cases b <;> simp [kL]
    | cons x r ih =>
      intro b
      cases b with
      | nil => simp [kL]
      | cons y s =>
        unfold kL
        split
        · rename_i e; subst e; rw [ih]; simp
        · rename_i e
          have := h.eq x y
          constructor
          · intro h0; exact absurd (this.1 h0) e
          · intro h0; cases h0; exact absurd rfl e
  anti := by
    intro a
    induction a with
    | nil => intro b; cases b <;> simp [kL]
    | cons x r ih =>
      intro b
      cases b with
      | nil => simp [kL]
      | cons y s =>
        unfold kL
        by_cases e : x = y
        · subst e; simp only [if_true]; exact ih s
        · rw [if_neg e, if_neg (fun e' => e e'.symm)]; exact h.anti x y
  trans := by
    intro a
    induction a with
    | nil =>
      intro b d
      cases b <;> cases d <;> simp [kL]
    | cons x r ih =>
      intro b d
      cases b with
      | nil => simp [kL]
      | cons y s =>
        cases d with
        | nil => simp [kL]
        | cons z t =>
          unfold kL
          by_cases e1 : x = y
          · subst e1
            rw [if_pos rfl]
            by_cases e2 : x = z
            · subst e2; rw [if_pos rfl, if_pos rfl]; exact ih s t
            · rw [if_neg e2, if_neg e2]; exact fun _ h => h
          · rw [if_neg e1]
            by_cases e2 : y = z
            · have hz : ¬ x = z := fun e => e1 (e.trans e2.symm)
              intro h _
              rw [if_neg hz, ← e2]; exact h
            · rw [if_neg e2]
              intro h1 h2
              by_cases e3 : x = z
              · subst e3
                have h3 := (h.anti x y).1 h1
                omega
              · rw [if_neg e3]; exact h.trans x y z h1 h2

def CX (a b : UInt8) : Int := if a < b then -1 else if b < a then 1 else 0

theorem CO : zH CX where
  eq a b := by
    unfold CX
    constructor
    · intro h
      split at h
      · cases h
      · split at h
        · cases h
        · rename_i h1 h2
          rw [UInt8.lt_iff_toNat_lt] at h1 h2
          exact UInt8.toNat_inj.1 (by omega)
    · rintro rfl
      have : ¬ a < a := by rw [UInt8.lt_iff_toNat_lt]; omega
      simp [this]
  anti a b := by
    unfold CX
    simp only [UInt8.lt_iff_toNat_lt]
    (repeat' split) <;> omega
  trans a b d := by
    unfold CX
    simp only [UInt8.lt_iff_toNat_lt]
    (repeat' split) <;> omega

theorem wL : ∀ (a b : List UInt8), Go.Lib.compareBytes a b = kL CX a b
  | [], [] => rfl
  | [], _ :: _ => rfl
  | _ :: _, [] => rfl
  | a :: r, b :: s => by
    unfold Go.Lib.compareBytes kL
    rw [wL r s]
    by_cases e : a = b
    · subst e
      have : ¬ a < a := by rw [UInt8.lt_iff_toNat_lt]; omega
      simp [this]
    · rw [if_neg e]
      unfold CX
      have : ¬ (¬ a < b ∧ ¬ b < a) := by
        rintro ⟨h1, h2⟩
        rw [UInt8.lt_iff_toNat_lt] at h1 h2
        exact e (UInt8.toNat_inj.1 (by omega))
      by_cases h1 : a < b
      · simp [h1]
      · have h2 : b < a := Classical.byContradiction fun h2 => this ⟨h1, h2⟩
        simp [h1, h2]

def IZ (a b : ByteArray) : Int := kL CX a.data.toList b.data.toList

theorem XI (a b : ByteArray) : GA a b = IZ a b := wL _ _

theorem data_inj {x y : ByteArray} (h : x.data.toList = y.data.toList) : x = y := by
  cases x; cases y
  congr 1
  exact Array.toList_inj.1 h

theorem yD : zH IZ where
  eq a b := by unfold IZ; rw [(CO.list).eq]; exact ⟨data_inj, fun h => by rw [h]⟩
  anti a b := (CO.list).anti _ _
  trans a b d := (CO.list).trans _ _ _

def vK (a b : aD) : Int := if a.Kind = b.Kind then (if a.Num = b.Num then IZ a.Text b.Text else oT a.Num b.Num) else oT a.Kind b.Kind

theorem TC : zH vK where
  eq a b := by
    obtain ⟨a1, a2, a3⟩ := a
    obtain ⟨b1, b2, b3⟩ := b
    unfold vK
    simp only [aD.mk.injEq]
    by_cases h1 : a1 = b1
    · by_cases h2 : a2 = b2
      · simp [h1, h2, yD.eq]
      · simp [h1, h2, vN.eq]
    · simp [h1, vN.eq]
  anti a b := by
    unfold vK
    by_cases h1 : a.Kind = b.Kind
    · rw [if_pos h1, if_pos h1.symm]
      by_cases h2 : a.Num = b.Num
      · rw [if_pos h2, if_pos h2.symm]; exact yD.anti _ _
      · rw [if_neg h2, if_neg (fun h => h2 h.symm)]; exact vN.anti _ _
    · rw [if_neg h1, if_neg (fun h => h1 h.symm)]; exact vN.anti _ _
  trans a b d := by
    unfold vK
    intro h1 h2
    have lt : ∀ {x y : Int}, oT x y < 0 → x < y := fun {x y} h => by unfold oT at h; split at h <;> (try split at h) <;> omega
    have mk : ∀ {x y : Int}, x < y → oT x y < 0 := fun {x y} h => by unfold oT; rw [if_pos h]; omega
    by_cases e1 : a.Kind = b.Kind
    · rw [if_pos e1] at h1
      by_cases e2 : b.Kind = d.Kind
      · rw [if_pos e2] at h2
        rw [if_pos (e1.trans e2)]
        by_cases f1 : a.Num = b.Num
        · rw [if_pos f1] at h1
          by_cases f2 : b.Num = d.Num
          · rw [if_pos f2] at h2
            rw [if_pos (f1.trans f2)]
            exact yD.trans _ _ _ h1 h2
          · rw [if_neg f2] at h2
            rw [f1, if_neg f2]; exact h2
        · rw [if_neg f1] at h1
          have g1 := lt h1
          by_cases f2 : b.Num = d.Num
          · rw [← f2, if_neg f1]; exact h1
          · rw [if_neg f2] at h2
            have g2 := lt h2
            rw [if_neg (by omega)]
            exact mk (by omega)
      · rw [if_neg e2] at h2
        rw [e1, if_neg e2]; exact h2
    · rw [if_neg e1] at h1
      have g1 := lt h1
      by_cases e2 : b.Kind = d.Kind
      · rw [← e2, if_neg e1]; exact h1
      · rw [if_neg e2] at h2
        have g2 := lt h2
        rw [if_neg (by omega)]
        exact mk (by omega)

def rV (a b : List aD) : Int := kL vK a b

theorem KL : zH rV := TC.list

end Go.Abs
namespace Go.Abs
open Go
theorem SJ (x y : Int) : mJ x y = some (oT x y) := by
  unfold mJ kK oT
  by_cases h1 : x < y
  · simp [h1]
  · by_cases h2 : y < x <;> simp [h1, h2]

theorem RM (x y : Int) : fH x y = some (oT x y) := by
  unfold fH jX oT
  by_cases h1 : x < y
  · simp [h1]
  · by_cases h2 : y < x <;> simp [h1, h2]

theorem BF {v : aD} (h : xV v = true) : v.Kind = 1 ∧ v.Text = (⟨#[]⟩ : ByteArray) := by
  simp only [xV, HD, Bool.and_eq_true, decide_eq_true_eq] at h; exact h

theorem yP {v : aD} (h : yQ v = true) : v.Kind = 2 ∧ v.Num = 0 ∧ v.Text.size ≤ 64 := by
  simp only [yQ, Bool.and_eq_true, decide_eq_true_eq] at h; exact ⟨h.1.1, h.1.2, by omega⟩

theorem NQ {v : aD} (h : yY v = true) : xV v = true ∨ (xV v = false ∧ yQ v = true) := by
  unfold yY at h
  cases hn : xV v
  · rw [hn] at h; exact .inr ⟨rfl, by simpa using h⟩
  · exact .inl rfl

theorem SO (a : ByteArray) : IZ a a = 0 := (yD.eq a a).2 rfl

theorem zF (a : Int) : oT a a = 0 := (vN.eq a a).2 rfl

theorem QL {a b : aD} (ha : yY a = true) (hb : yY b = true) : nN a b = some (vK a b) := by
  unfold nN
  simp only [of_eq, Option.bind_some]
  rcases NQ ha with h1 | ⟨h1, h1'⟩ <;> rcases NQ hb with h2 | ⟨h2, h2'⟩
  · obtain ⟨k1, t1⟩ := BF h1
    obtain ⟨k2, t2⟩ := BF h2
    simp only [h1, h2, if_true, Bool.not_true, Bool.or_self, cond_false, RM, Option.bind_some]
    unfold vK
    rw [k1, k2, t1, t2, if_pos rfl, SO]
    by_cases hn : a.Num = b.Num
    · rw [if_pos hn, hn, zF]
    · rw [if_neg hn]
  · obtain ⟨k1, t1⟩ := BF h1
    obtain ⟨k2, n2, _⟩ := yP h2'
    simp only [h1, h2, h2', if_true, Bool.false_eq_true, if_false, Bool.not_true, Bool.or_self, cond_false]
    unfold vK
    rw [k1, k2]; rfl
  · obtain ⟨k1, n1, _⟩ := yP h1'
    obtain ⟨k2, t2⟩ := BF h2
    simp only [h1, h1', h2, if_true, Bool.false_eq_true, if_false, Bool.not_true, Bool.or_self, cond_false]
    unfold vK
    rw [k1, k2]; rfl
  · obtain ⟨k1, n1, _⟩ := yP h1'
    obtain ⟨k2, n2, _⟩ := yP h2'
    simp only [h1, h1', h2, h2', if_true, Bool.false_eq_true, if_false, Bool.not_true, Bool.or_self, cond_false]
    unfold vK lE jB
    rw [k1, k2, n1, n2, if_pos rfl, if_pos rfl]
    simp [XI]

theorem NK {r : List aD} (h : rT r = true) : r.length ≤ 8 ∧ ∀ v ∈ r, yY v = true := by
  simp only [rT, Bool.and_eq_true, decide_eq_true_eq, List.all_eq_true] at h; exact h

theorem UF {a b : List aD} {k : Nat} (hk : k = a.length ∨ k = b.length) (h1 : k ≤ a.length) (h2 : k ≤ b.length) : rV (a.drop k) (b.drop k) = oT a.length b.length := by
  rcases hk with rfl | rfl
  · rw [List.drop_length]
    by_cases h : a.length = b.length
    · rw [h, List.drop_length, zF]; rfl
    · rw [List.drop_eq_getElem_cons (by omega)]
      show (-1 : Int) = _
      unfold oT; rw [if_pos (by omega)]
  · rw [List.drop_length]
    by_cases h : a.length = b.length
    · rw [← h, List.drop_length, zF]; rfl
    · rw [List.drop_eq_getElem_cons (by omega)]
      show (1 : Int) = _
      unfold oT; rw [if_neg (by omega), if_pos (by omega)]

theorem NJ {a b : List aD} (hl : a.length ≤ 8) (hlb : b.length ≤ 8) (n : Nat) (hn : n = min a.length b.length) : ∀ (m k : Nat), n - k = m → k ≤ n →
    ∃ x, lp (fun s : Int × Int => bZ (fun st y0 => (jI y0 st b).bind fun o => some (o.2, o.1)) (a.take n) (n : Nat) s.1 s.2) ((k : Int) - 1, (k : Int)) = some x ∧
      ((∃ sg, x = .inl sg ∧ rV (a.drop k) (b.drop k) = oT a.length b.length) ∨
        (∃ i : Nat, x = .inr ((i : Int), (i : Int)) ∧ i < a.length ∧ i < b.length ∧ rV (a.drop k) (b.drop k) = vK (a.getD i default) (b.getD i default)))
  | 0, k, hm, hk => by
    have : k = n := by omega
    subst this
    refine ⟨.inl ((k : Int) - 1), cV ?_, .inl ⟨_, rfl, UF (by omega) (by omega) (by omega)⟩⟩
    show bZ _ _ _ _ _ = _
    simp only [bZ, oK, cond_false]
  | m + 1, k, hm, hk => by
    have h1 : k < a.length := by omega
    have h2 : k < b.length := by omega
    have ht : (a.take n)[k]? = some a[k] := by
      rw [List.getElem?_take_of_lt (by omega)]; exact List.getElem?_eq_getElem h1
    obtain ⟨d1, d2, d3, d4⟩ := idx ht (by simp; omega)
    have hlt : (a.take n).length = n := by simp; omega
    rw [hlt] at d1 d2
    obtain ⟨_, e2, e3, _⟩ := idx (List.getElem?_eq_getElem h2) (by omega)
    have hw : IntKind.i64.wrap ((k : Int) - 1 + 1) = (k : Int) := by rw [dY (by omega) (by omega)]; omega
    have hb : (fun s : Int × Int => bZ (fun st y0 => (jI y0 st b).bind fun o => some (o.2, o.1)) (a.take n) (n : Nat) s.1 s.2) ((k : Int) - 1, (k : Int)) =
        some (if a[k] = b[k] then .inl ((k : Int), ((k + 1 : Nat) : Int)) else .inr (.inr ((k : Int), (k : Int)))) := by
      show bZ _ _ _ _ _ = _
      simp only [bZ, d1, cond_true, hlt, aO d2, d3, d4, jI, hw, aO e2, e3, veq, Option.bind_some]
      by_cases h : a[k] = b[k] <;> simp [h]
    have ea : a.drop k = a[k] :: a.drop (k + 1) := List.drop_eq_getElem_cons h1
    have eb : b.drop k = b[k] :: b.drop (k + 1) := List.drop_eq_getElem_cons h2
    by_cases h : a[k] = b[k]
    · rw [if_pos h] at hb
      obtain ⟨x, e, hx⟩ := NJ hl hlb n hn m (k + 1) (by omega) (by omega)
      have hc : rV (a.drop k) (b.drop k) = rV (a.drop (k + 1)) (b.drop (k + 1)) := by
        rw [ea, eb]; unfold rV; rw [kL, if_pos h]
      refine ⟨x, ?_, by rw [hc]; exact hx⟩
      rw [gE hb]
      rw [show ((k + 1 : Nat) : Int) - 1 = (k : Int) by omega] at e
      exact e
    · rw [if_neg h] at hb
      refine ⟨_, cV hb, .inr ⟨k, rfl, h1, h2, ?_⟩⟩
      rw [ea, eb]; unfold rV; rw [kL, if_neg h]
      simp [List.getD_eq_getElem?_getD, h1, h2]

theorem SF (a b : List aD) : pM a b = some (if rT a && rT b then rV a b else 0) := by
  unfold pM
  rw [FU]
  simp only [Option.bind_some]
  cases ha : rT a
  · simp [dR]
  · simp only [Bool.not_true, Bool.not_false, dR, cond_true, FU, Option.bind_some, Bool.false_or]
    cases hb : rT b
    · simp
    · obtain ⟨la, ma⟩ := NK ha
      obtain ⟨lb, mb⟩ := NK hb
      have hif : (if ((List.length b : Nat) : Int) < ((List.length a : Nat) : Int) then ((List.length b : Nat) : Int) else ((List.length a : Nat) : Int)) = ((min a.length b.length : Nat) : Int) := by split <;> omega
      have hlt : (a.take (min a.length b.length)).length = min a.length b.length := by rw [List.length_take]; omega
      simp only [Bool.not_true, cond_false, hif, Int.toNat_natCast, qE, Option.bind_some, gL, gH, hlt, Bool.and_self, if_true]
      rw [aO ⟨by omega, by omega⟩]
      obtain ⟨x, e, hx⟩ := NJ (a := a) (b := b) la lb _ rfl _ 0 rfl (Nat.zero_le _)
      have e' : lp (fun s : Int × Int => bZ (fun st y0 => (jI y0 st b).bind fun o => some (o.2, o.1)) (a.take (min a.length b.length)) (min a.length b.length : Nat) s.1 s.2) ((-1 : Int), (0 : Int)) = some x := e
      rw [e']
      simp only [List.drop_zero] at hx
      rcases hx with ⟨sg, rfl, h⟩ | ⟨i, rfl, h1, h2, h⟩
      · simp [eO, SJ, h]
      · have hi : decide ((i : Int) < 0) = false := by simp
        simp only [Option.bind_some, Sum.elim_inr, hi, cond_false, Int.toNat_natCast]
        rw [aO ⟨by omega, by omega⟩, aO ⟨by omega, by omega⟩]
        have g1 : a.getD i default ∈ a := by simp [List.getD_eq_getElem?_getD, h1]
        have g2 : b.getD i default ∈ b := by simp [List.getD_eq_getElem?_getD, h2]
        rw [QL (ma _ g1) (mb _ g2), h]
        simp only [Option.bind_some]

end Go.Abs
namespace Go.Abs
open Go
def jE (e : bE) : aF := ⟨e.At, e.Net⟩

def gA (r : List aD) (f : List aF) : List bE → List (List aD × List aF)
  | [] => [(r, f)]
  | e :: l => if e.Row = r then gA r (f ++ [jE e]) l else (r, f) :: gA e.Row [jE e] l

def groups : List bE → List (List aD × List aF)
  | [] => []
  | e :: l => gA e.Row [jE e] l

def itG {σ : Type} (y : σ → List aD → List aF → Option (σ × Bool)) : List (List aD × List aF) → σ → Option σ
  | [], s => some s
  | g :: gs, s => (y s g.1 g.2).bind fun x => if x.2 then itG y gs x.1 else some x.1

def okL (l : List bE) : Prop := l.length ≤ 3518437208783 ∧ ∀ e ∈ l, e.Row.length ≤ 4398046510976

theorem yC {r : List aD} (h : r.length ≤ 4398046510976) : rS r = some r := by
  unfold rS
  rw [aO ⟨by omega, by omega, by omega⟩, aO (by simp only [List.length_nil, Nat.zero_add]; omega)]
  rfl

theorem EY {σ : Type} {y : σ → List aD → List aF → Option (σ × Bool)} {l : List bE} (hl : okL l) (row : List aD) (sg : σ) : ∀ (r : List bE) (k : Nat) (f : List aF), l.drop k = r → k ≤ l.length → f.length ≤ k →
    ∃ k' f', k ≤ k' ∧ k' ≤ l.length ∧ f'.length ≤ k' ∧ lp (fun s : σ × Int × List aF => jC y l row s.1 s.2.1 s.2.2) (sg, (k : Int), f) = some (sg, ((k' : Nat) : Int), f') ∧
      gA row f r = (row, f') :: groups (l.drop k') ∧ (∀ e r', r = e :: r' → e.Row = row → k < k')
  | [], k, f, hd, hk, hf => by
    have : k = l.length := by
      have := congrArg List.length hd
      simp only [List.length_drop, List.length_nil] at this; omega
    subst this
    refine ⟨l.length, f, Nat.le_refl _, Nat.le_refl _, hf, cV ?_, by simp [gA, groups], fun e r' h => by cases h⟩
    show jC _ _ _ _ _ _ = _
    simp only [jC, oK, dR, cond_false, Option.bind_some, Bool.false_and]
    exact aO (fun h => by cases h)
  | a :: r, k, f, hd, hk, hf => by
    obtain ⟨h1, h2⟩ := drop_cons hd
    have hlt : k < l.length := (List.getElem?_eq_some_iff.1 h1).1
    obtain ⟨hll, hlr⟩ := hl
    obtain ⟨d1, d2, d3, d4⟩ := idx h1 (by omega)
    have har := hlr a (List.mem_of_getElem? h1)
    have hb : (fun s : σ × Int × List aF => jC y l row s.1 s.2.1 s.2.2) (sg, (k : Int), f) = some (if a.Row = row then .inl (sg, ((k + 1 : Nat) : Int), f ++ [jE a]) else .inr (sg, (k : Int), f)) := by
      show jC _ _ _ _ _ _ = _
      simp only [jC, d1, d3, d4, dR, cond_true, ED a.Row row (by omega), Option.bind_some, Bool.true_and]
      rw [aO (fun _ => d2)]
      by_cases e : a.Row = row
      · simp only [e, decide_true, cond_true, if_true]
        rw [aO d2, aO d2, aO (by simp only [List.length_cons, List.length_nil]; omega)]
        rfl
      · simp [e]
    by_cases e : a.Row = row
    · rw [if_pos e] at hb
      obtain ⟨k', f', g1, g2, g3, g4, g5, _⟩ := EY ⟨hll, hlr⟩ row sg r (k + 1) (f ++ [jE a]) h2 (by omega) (by simp; omega) (y := y)
      refine ⟨k', f', by omega, g2, g3, by rw [gE hb]; exact g4, by simp [gA, e, g5], fun _ _ _ _ => by omega⟩
    · rw [if_neg e] at hb
      refine ⟨k, f, Nat.le_refl _, hk, hf, cV hb, ?_, fun b r' h hr => by cases h; exact absurd hr e⟩
      rw [hd]; simp [gA, e, groups]

theorem OZ {σ : Type} {y : σ → List aD → List aF → Option (σ × Bool)} {l : List bE} (hl : okL l) : ∀ (m k : Nat) (sg s' : σ), l.length - k ≤ m → k ≤ l.length → itG y (groups (l.drop k)) sg = some s' →
    ∃ x, lp (fun s : σ × Int => iE y l s.1 s.2) (sg, (k : Int)) = some x ∧ Sum.elim id id x = s' := by
  have stop : ∀ (sg s' : σ), itG y (groups (l.drop l.length)) sg = some s' → ∃ x, lp (fun s : σ × Int => iE y l s.1 s.2) (sg, ((l.length : Nat) : Int)) = some x ∧ Sum.elim id id x = s' := by
    intro sg s' h
    rw [List.drop_length] at h
    simp only [groups, itG, Option.some.injEq] at h
    refine ⟨.inl sg, cV ?_, h⟩
    show iE _ _ _ _ = _
    simp only [iE, oK, cond_false]
  intro m
  induction m with
  | zero =>
    intro k sg s' hm hk h
    have : k = l.length := by omega
    subst this; exact stop sg s' h
  | succ m ih =>
    intro k sg s' hm hk h
    by_cases he : k = l.length
    · subst he; exact stop sg s' h
    · have hlt : k < l.length := by omega
      have hd : l.drop k = l[k] :: l.drop (k + 1) := List.drop_eq_getElem_cons hlt
      obtain ⟨d1, d2, d3, d4⟩ := idx (List.getElem?_eq_getElem hlt) (by have := hl.1; omega)
      obtain ⟨k', f', g1, g2, g3, g4, g5, g6⟩ := EY hl l[k].Row sg (l.drop k) k [] rfl hk (by simp) (y := y)
      have hk' := g6 _ _ hd rfl
      have hg : groups (l.drop k) = (l[k].Row, f') :: groups (l.drop k') := by
        rw [← g5, hd]; simp [groups, gA]
      rw [hg] at h
      simp only [itG] at h
      obtain ⟨x, hx, h⟩ := aT h
      have hrow := hl.2 _ (List.getElem_mem hlt)
      have hb : (fun s : σ × Int => iE y l s.1 s.2) (sg, (k : Int)) = some (if x.2 then .inl (x.1, ((k' : Nat) : Int)) else .inr (.inr x.1)) := by
        show iE _ _ _ _ = _
        simp only [iE, d1, cond_true, aO d2, d3, oS, g4, Option.bind_some, mX, yC hrow, hx]
        cases x.2 <;> simp
      cases hx2 : x.2
      · rw [hx2] at hb h
        simp only [Bool.false_eq_true, if_false, Option.some.injEq] at hb h
        exact ⟨_, cV hb, h⟩
      · rw [hx2] at hb h
        simp only [if_true] at hb h
        obtain ⟨z, hz1, hz2⟩ := ih k' x.1 s' (by omega) g2 h
        exact ⟨z, by rw [gE hb]; exact hz1, hz2⟩

theorem NB {σ : Type} {y : σ → List aD → List aF → Option (σ × Bool)} {l : List bE} (hl : okL l) {s s' : σ} (h : itG y (groups l) s = some s') : mC y l s = some s' := by
  unfold mC oV
  obtain ⟨x, h1, h2⟩ := OZ hl l.length 0 s s' (by omega) (Nat.zero_le _) (by simpa using h)
  simp only [Int.natCast_zero] at h1
  rw [h1]
  cases x <;> simpa using h2

def ahd (last : Option (List aD)) (r : List aD) : Bool := match last with
  | none => true
  | some q => decide (rV q r < 0)

def sN (p : List aF → Bool) : Option (List aD) → List (List aD × List aF) → Bool
  | _, [] => true
  | last, g :: gs => (rT g.1 && ahd last g.1 && p g.2) && sN p (some g.1) gs

theorem ND {holds : List aF → Option Bool} {p : List aF → Bool} (hp : ∀ f, holds f = some (p f)) (c : List bE) (t : Bool) : ∀ (gs : List (List aD × List aF)) (last : List aD) (b : Bool), (b = true → rT last = true) →
    ∃ x, itG (fun st r f => rnd (fun (s : Bool × (List aD) × Bool) => mW holds c s.1 s.2.1 s.2.2 r f) st) gs (.inl (t, last, b)) = some x ∧
      (if sN p (if b then some last else none) gs then ∃ u, x = .inl (t, u) else ∃ u, x = .inr (false, u))
  | [], last, b, _ => ⟨_, rfl, by simp [sN]⟩
  | g :: gs, last, b, hb => by
    have hy : mW holds c t last b g.1 g.2 = some (if rT g.1 && ahd (if b then some last else none) g.1 && p g.2 then .inl (t, g.1, true) else .inr (false, last, b)) := by
      unfold mW
      simp only [FU, Option.bind_some, SF, hp]
      cases hm : rT g.1
      · simp [dR]
      · cases b
        · cases h2 : p g.2 <;> simp [dR, ahd, h2]
        · have hl := hb rfl
          by_cases h1 : rV last g.1 < 0
          · have h1' : ¬ (0 ≤ rV last g.1) := by omega
            cases h2 : p g.2 <;> simp [dR, ahd, h2, hl, h1, h1']
          · have h1' : 0 ≤ rV last g.1 := by omega
            simp [dR, ahd, hl, h1, h1']
    cases hc : (rT g.1 && ahd (if b then some last else none) g.1 && p g.2)
    · rw [hc] at hy
      simp only [itG, rnd, hy, Option.bind_some, sN, hc]
      exact ⟨.inr (false, last, b), by simp, by simp⟩
    · rw [hc] at hy
      simp only [itG, rnd, hy, Option.bind_some, sN, hc]
      have hm : rT g.1 = true := by simp only [Bool.and_eq_true] at hc; exact hc.1.1
      obtain ⟨x, h1, h2⟩ := ND hp c t gs g.1 true (fun _ => hm)
      refine ⟨x, ?_, ?_⟩
      · simpa [rnd] using h1
      · simpa using h2

theorem MR {l : List bE} (hl : okL l) {holds : List aF → Option Bool} {p : List aF → Bool} (hp : ∀ f, holds f = some (p f)) : pS l holds = some (decide (l.length ≤ 4096) && sN p none (groups l)) := by
  unfold pS
  by_cases h : l.length ≤ 4096
  · have h1 : decide ((4096 : Int) < ((l.length : Nat) : Int)) = false := by simp; omega
    rw [h1, cond_false]
    simp only [pR, Option.bind_some, tG]
    obtain ⟨x, e1, e2⟩ := ND hp l false (groups l) [] false (fun h => by cases h)
    rw [NB hl e1]
    simp only [Bool.false_eq_true, if_false] at e2
    simp only [h, decide_true, Bool.true_and]
    cases hc : sN p none (groups l)
    · rw [hc] at e2
      simp only [Bool.false_eq_true, if_false] at e2
      obtain ⟨u, rfl⟩ := e2
      rfl
    · rw [hc] at e2
      simp only [if_true] at e2
      obtain ⟨u, rfl⟩ := e2
      rfl
  · have h1 : decide ((4096 : Int) < ((l.length : Nat) : Int)) = true := by simp; omega
    rw [h1, cond_true]
    simp [h]

def xG (l : List bE) : Bool := decide (l.length ≤ 4096) && sN jQ none (groups l)

theorem NA {l : List bE} (hl : okL l) : rM l = some (xG l) := by
  unfold rM
  rw [MR hl (p := jQ) (fun f => DG f)]; rfl

def GG (f : List aF) : Bool := jQ f && decide (0 ≤ xR f)

def xP (l : List bE) : Bool := decide (l.length ≤ 4096) && sN GG none (groups l)

theorem RI {l : List bE} (hl : okL l) : rB l = some (xP l) := by
  unfold rB
  rw [MR hl (p := GG) (fun f => by
    unfold nW GG
    rw [DG]
    cases h : jQ f <;> simp [dR, TF, h])]
  rfl

def uF (r : List aD) (f : List aF) : List bE := f.map fun j => ⟨r, j.At, j.Net⟩

def flat (gs : List (List aD × List aF)) : List bE := gs.flatMap fun g => uF g.1 g.2

theorem FO : ∀ (l : List bE) (r : List aD) (f : List aF), flat (gA r f l) = uF r f ++ l
  | [], r, f => by simp [gA, flat]
  | e :: l, r, f => by
    unfold gA
    split
    · rename_i h
      rw [FO l r]
      simp [uF, jE, ← h]
    · have := FO l e.Row [jE e]
      simp only [flat, List.flatMap_cons] at this ⊢
      rw [this]
      simp [uF, jE]

theorem MF (l : List bE) : flat (groups l) = l := by
  cases l with
  | nil => rfl
  | cons e l => unfold groups; rw [FO]; simp [uF, jE]

theorem JO {r : List aD} : ∀ {l : List bE} {f : List aF} {g : List aD × List aF}, g ∈ gA r f l → f ≠ [] → g.2 ≠ [] ∧ (g.1 = r ∨ ∃ e ∈ l, g.1 = e.Row)
  | [], f, g, h, hf => by simp only [gA, List.mem_singleton] at h; subst h; exact ⟨hf, .inl rfl⟩
  | e :: l, f, g, h, hf => by
    unfold gA at h
    split at h
    · obtain ⟨h1, h2⟩ := JO h (by simp)
      exact ⟨h1, h2.imp id fun ⟨x, hx, hx'⟩ => ⟨x, by simp [hx], hx'⟩⟩
    · rcases List.mem_cons.1 h with rfl | h
      · exact ⟨hf, .inl rfl⟩
      · obtain ⟨h1, h2⟩ := JO (r := e.Row) h (by simp)
        refine ⟨h1, .inr ?_⟩
        rcases h2 with h2 | ⟨x, hx, hx'⟩
        · exact ⟨e, by simp, h2⟩
        · exact ⟨x, by simp [hx], hx'⟩

theorem OX {l : List bE} {g : List aD × List aF} (h : g ∈ groups l) : g.2 ≠ [] ∧ ∃ e ∈ l, g.1 = e.Row := by
  cases l with
  | nil => simp [groups] at h
  | cons e l =>
    obtain ⟨h1, h2⟩ := JO h (by simp)
    refine ⟨h1, ?_⟩
    rcases h2 with h2 | ⟨x, hx, hx'⟩
    · exact ⟨e, by simp, h2⟩
    · exact ⟨x, by simp [hx], hx'⟩

end Go.Abs
namespace Go.Abs
open Go
def oH (l : List bE) (r : List aD) : List aF := (l.filter fun e => decide (e.Row = r)).map jE

theorem xM (a b : List bE) (r : List aD) : oH (a ++ b) r = oH a r ++ oH b r := by simp [oH]

theorem HU (q : List aD) (f : List aF) (r : List aD) : oH (uF q f) r = if q = r then f else [] := by
  induction f with
  | nil => simp [oH, uF]
  | cons j f ih =>
    have h1 : uF q (j :: f) = [⟨q, j.At, j.Net⟩] ++ uF q f := rfl
    rw [h1, xM, ih]
    by_cases h : q = r <;> simp [oH, jE, h]

def look : List (List aD × List aF) → List aD → List aF
  | [], _ => []
  | g :: gs, r => if g.1 = r then g.2 else look gs r

theorem wT (g : List aD × List aF) (gs : List (List aD × List aF)) (r : List aD) : look (g :: gs) r = if g.1 = r then g.2 else look gs r := rfl

abbrev ltG (a b : List aD × List aF) : Prop := rV a.1 b.1 < 0

abbrev zL (gs : List (List aD × List aF)) : Prop := gs.Pairwise ltG

theorem yA {a : List aD} : ¬ rV a a < 0 := by rw [(KL.eq a a).2 rfl]; omega

theorem HR : ∀ {gs : List (List aD × List aF)} {r : List aD}, (∀ g ∈ gs, g.1 ≠ r) → look gs r = []
  | [], _, _ => rfl
  | g :: gs, r, h => by
    rw [wT]
    rw [if_neg (h g (by simp))]
    exact HR fun q hq => h q (by simp [hq])

theorem PG (gs : List (List aD × List aF)) (r : List aD) : (look gs r = [] ∧ ∀ g ∈ gs, g.1 ≠ r) ∨ ∃ g ∈ gs, g.1 = r ∧ look gs r = g.2 := by
  induction gs with
  | nil => exact .inl ⟨rfl, by simp⟩
  | cons g gs ih =>
    rw [wT]
    by_cases h : g.1 = r
    · rw [if_pos h]; exact .inr ⟨g, by simp, h, rfl⟩
    · rw [if_neg h]
      rcases ih with ⟨h1, h2⟩ | ⟨q, hq, h1, h2⟩
      · refine .inl ⟨h1, fun q hq => ?_⟩
        rcases List.mem_cons.1 hq with rfl | hq
        · exact h
        · exact h2 q hq
      · exact .inr ⟨q, by simp [hq], h1, h2⟩

theorem KS {gs : List (List aD × List aF)} (hs : zL gs) {g : List aD × List aF} (hg : g ∈ gs) : look gs g.1 = g.2 := by
  induction gs with
  | nil => simp at hg
  | cons q gs ih =>
    have hs' := List.pairwise_cons.1 hs
    rw [wT]
    rcases List.mem_cons.1 hg with rfl | hg
    · rw [if_pos rfl]
    · rw [if_neg (fun e => by have := hs'.1 g hg; simp only [ltG, e] at this; exact yA this)]
      exact ih hs'.2 hg

theorem SK (g : List aD × List aF) (gs : List (List aD × List aF)) : flat (g :: gs) = uF g.1 g.2 ++ flat gs := rfl

theorem zG : ∀ {gs : List (List aD × List aF)}, zL gs → ∀ r, oH (flat gs) r = look gs r
  | [], _, r => rfl
  | g :: gs, hs, r => by
    have hs' := List.pairwise_cons.1 hs
    rw [SK, xM, HU, zG hs'.2, wT]
    by_cases h : g.1 = r
    · rw [if_pos h, if_pos h, HR, List.append_nil]
      intro q hq e
      have := hs'.1 q hq
      simp only [ltG, h, e] at this; exact yA this
    · rw [if_neg h, if_neg h]; rfl

theorem uI {p : List aF → Bool} : ∀ {gs : List (List aD × List aF)} {last : Option (List aD)}, sN p last gs = true ↔ (∀ g ∈ gs, rT g.1 = true ∧ p g.2 = true) ∧ zL gs ∧ (∀ q, last = some q → ∀ g ∈ gs, rV q g.1 < 0)
  | [], last => by simp [sN]
  | g :: gs, last => by
    unfold sN
    simp only [Bool.and_eq_true, uI (gs := gs), List.mem_cons, List.pairwise_cons]
    constructor
    · rintro ⟨⟨⟨h1, h2⟩, h3⟩, h4, h5, h6⟩
      refine ⟨?_, ⟨fun q hq => h6 _ rfl q hq, h5⟩, ?_⟩
      · rintro q (rfl | hq)
        · exact ⟨h1, h3⟩
        · exact h4 q hq
      · rintro q rfl x (rfl | hx)
        · simpa [ahd] using h2
        · simp only [ahd, decide_eq_true_eq] at h2
          exact KL.trans _ _ _ h2 (h6 _ rfl x hx)
    · rintro ⟨h1, ⟨h2, h3⟩, h4⟩
      refine ⟨⟨⟨(h1 g (.inl rfl)).1, ?_⟩, (h1 g (.inl rfl)).2⟩, fun q hq => h1 q (.inr hq), h3, ?_⟩
      · unfold ahd
        split
        · rfl
        · exact decide_eq_true (h4 _ rfl g (.inl rfl))
      · rintro q hq x hx
        cases hq
        exact h2 x hx

theorem NH {l : List bE} (h : xG l = true) : l.length ≤ 4096 ∧ (∀ g ∈ groups l, rT g.1 = true ∧ jQ g.2 = true) ∧ zL (groups l) := by
  simp only [xG, Bool.and_eq_true, decide_eq_true_eq] at h
  obtain ⟨h1, h2, _⟩ := uI.1 h.2
  exact ⟨h.1, h1, h2⟩

theorem yO {l : List bE} (h : zL (groups l)) (r : List aD) : look (groups l) r = oH l r := by
  rw [← zG h, MF]

theorem WC (r : List aD) (f : List aF) (e : bE) (l : List bE) : gA r f (e :: l) = if e.Row = r then gA r (f ++ [jE e]) l else (r, f) :: gA e.Row [jE e] l := rfl

theorem PW {l : List bE} (hl : okL l) {g : List aD × List aF} (hg : g ∈ groups l) : g.1.length ≤ 4398046510976 := by
  obtain ⟨_, e, he, h⟩ := OX hg
  rw [h]; exact hl.2 e he

theorem uR : ∀ (l : List bE) (r : List aD) (f : List aF), (gA r f l).length ≤ l.length + 1
  | [], _, _ => by simp [gA]
  | e :: l, r, f => by
    rw [WC]
    split
    · have := uR l r (f ++ [jE e]); simp only [List.length_cons]; omega
    · have := uR l e.Row [jE e]; simp only [List.length_cons]; omega

theorem OV (l : List bE) : (groups l).length ≤ l.length := by
  cases l with
  | nil => simp [groups]
  | cons e l => exact uR l e.Row [jE e]

end Go.Abs
namespace Go.Abs
open Go
def vL : aD := ⟨1, 1, ByteArray.empty⟩

end Go.Abs
namespace Go.Abs
open Go
theorem CB {σ : Type} {y : σ → List aD → List aF → Option (σ × Bool)} (c : List bE) : ∀ (gs : List (List aD × List aF)) (s s' : σ), itG y gs s = some s' →
    ∃ x, itG (fun st t10 t11 => rnd (fun (s : σ) => kA y c s t10 t11) st) gs (.inl s) = some x ∧ Sum.elim id id x = s'
  | [], s, s', h => by simp only [itG, Option.some.injEq] at h; exact ⟨_, rfl, h⟩
  | g :: gs, s, s', h => by
    simp only [itG] at h
    obtain ⟨z, hz, h⟩ := aT h
    have hl : kA y c s g.1 g.2 = some (if z.2 then .inl z.1 else .inr z.1) := by
      unfold kA
      rw [hz]
      obtain ⟨z1, z2⟩ := z
      cases z2 <;> rfl
    cases h2 : z.2
    · rw [h2] at h hl
      simp only [Bool.false_eq_true, if_false, Option.some.injEq] at h hl
      refine ⟨.inr z.1, ?_, h⟩
      simp [itG, rnd, hl]
    · rw [h2] at h hl
      simp only [if_true] at h hl
      obtain ⟨x, h3, h4⟩ := CB c gs z.1 s' h
      refine ⟨x, ?_, h4⟩
      simp only [itG, rnd, hl, Option.bind_some, Sum.isLeft_inl, if_true]
      exact h3

theorem OK {σ : Type} {y : σ → List aD → List aF → Option (σ × Bool)} {l : List bE} (hl : okL l) {s s' : σ} (h : itG y (if xG l then groups l else []) s = some s') : mL y l s = some s' := by
  unfold mL
  rw [NA hl]
  cases hm : xG l
  · rw [hm] at h
    simp only [Bool.false_eq_true, if_false, itG] at h
    simpa using h
  · rw [hm] at h
    simp only [if_true] at h
    simp only [Option.bind_some, Bool.not_true, cond_false, pR, nM]
    obtain ⟨x, h1, h2⟩ := CB l (groups l) s s' h
    rw [NB hl h1]
    cases x <;> simpa using h2

end Go.Abs
namespace Go.Abs
open Go
theorem NS {c : Int} : ∀ {l : List Int} {m : Int}, c ≤ l.foldl mn m ↔ c ≤ m ∧ ∀ x ∈ l, c ≤ x
  | [], m => by simp
  | a :: l, m => by
    rw [List.foldl_cons, NS]
    unfold mn
    constructor
    · rintro ⟨h1, h2⟩
      have h3 : c ≤ m ∧ c ≤ a := by split at h1 <;> omega
      refine ⟨h3.1, fun x hx => ?_⟩
      rcases List.mem_cons.1 hx with rfl | hx
      · exact h3.2
      · exact h2 x hx
    · rintro ⟨h1, h2⟩
      have := h2 a (by simp)
      exact ⟨by split <;> omega, fun x hx => h2 x (by simp [hx])⟩

theorem HM {t : Int} : ∀ {f : List aF} {l v : Int}, oX l f → v + val f t = v ∨ v + val f t ∈ parts v f
  | [], l, v, _ => .inl (by simp [val])
  | j :: r, l, v, h => by
    unfold parts
    rw [gK]
    by_cases e : j.At ≤ t
    · rw [if_pos e]
      right
      rcases HM (t := t) (v := v + j.Net) h.2 with h1 | h1
      · rw [show v + (j.Net + val r t) = v + j.Net by omega]; simp
      · rw [show v + (j.Net + val r t) = v + j.Net + val r t by omega]; exact List.mem_cons_of_mem _ h1
    · left
      rw [if_neg e, h.2.wF (by omega)]; omega

theorem HO {f : List aF} (hf : jQ f = true) : 0 ≤ xR f ↔ ∀ t, 0 ≤ val f t := by
  have hr := (pU.1 hf).2
  unfold xR
  rw [NS]
  constructor
  · rintro ⟨_, h2⟩ t
    rcases HM (t := t) (v := 0) hr with h | h
    · omega
    · rw [parts_eq hr] at h
      obtain ⟨j, hj, h⟩ := List.mem_map.1 h
      have := h2 _ (List.mem_map.2 ⟨j, hj, rfl⟩)
      omega
  · intro h
    refine ⟨h _, fun x hx => ?_⟩
    obtain ⟨j, _, rfl⟩ := List.mem_map.1 hx
    exact h _

theorem OI {l : List bE} : xP l = true ↔ xG l = true ∧ ∀ r t, 0 ≤ val (oH l r) t := by
  constructor
  · intro h
    unfold xP at h
    rw [Bool.and_eq_true, uI] at h
    obtain ⟨h1, h2, h3, _⟩ := h
    have hm : xG l = true := by
      unfold xG
      rw [Bool.and_eq_true]
      exact ⟨h1, uI.2 ⟨fun g hg => ⟨(h2 g hg).1, by have := (h2 g hg).2; unfold GG at this; rw [Bool.and_eq_true] at this; exact this.1⟩, h3, fun q hq => by cases hq⟩⟩
    refine ⟨hm, fun r => ?_⟩
    rw [← yO h3]
    rcases PG (groups l) r with ⟨e, _⟩ | ⟨g, hg, _, e⟩
    · rw [e]; intro t; simp [val]
    · rw [e]
      have := (h2 g hg).2
      unfold GG at this
      rw [Bool.and_eq_true, decide_eq_true_eq] at this
      exact (HO this.1).1 this.2
  · rintro ⟨hm, h⟩
    obtain ⟨h1, h2, h3⟩ := NH hm
    unfold xP
    rw [Bool.and_eq_true]
    refine ⟨by simpa using h1, uI.2 ⟨fun g hg => ⟨(h2 g hg).1, ?_⟩, h3, fun q hq => by cases hq⟩⟩
    unfold GG
    rw [Bool.and_eq_true, decide_eq_true_eq]
    refine ⟨(h2 g hg).2, (HO (h2 g hg).2).2 ?_⟩
    have : g.2 = oH l g.1 := by rw [← yO h3, KS h3 hg]
    rw [this]; exact h g.1

end Go.Abs
namespace Go.Abs
open Go
abbrev gN (d : List Int) (i : Nat) : Int := d.getD i default

def swp (d : List Int) (i j : Nat) : List Int := (d.set i (gN d j)).set j (gN d i)

theorem RN {d : List Int} {i k : Nat} {x : Int} (h : i < d.length) : gN (d.set i x) k = if k = i then x else gN d k := by
  simp only [gN, List.getD_eq_getElem?_getD, List.getElem?_set]
  by_cases e : i = k
  · subst e; simp [h]
  · rw [if_neg e, if_neg (fun h => e h.symm)]

theorem fZ (d : List Int) (i j : Nat) : (swp d i j).length = d.length := by simp [swp]

theorem pQ {d : List Int} {i j : Nat} (hi : i < d.length) (hj : j < d.length) (k : Nat) : gN (swp d i j) k = if k = j then gN d i else if k = i then gN d j else gN d k := by
  unfold swp
  rw [RN (by simpa using hj), RN hi]

theorem VA {d : List Int} {i j : Nat} (hi : i < d.length) (hj : j < d.length) : (swp d i j).Perm d := by
  have h1 : gN d i = d[i] := by simp [gN, List.getD_eq_getElem?_getD, List.getElem?_eq_getElem hi]
  have h2 : gN d j = d[j] := by simp [gN, List.getD_eq_getElem?_getD, List.getElem?_eq_getElem hj]
  unfold swp
  rw [h1, h2]
  exact List.set_set_perm hi hj

structure Rel (a b : Nat) (d d' : List Int) : Prop where
  len : d'.length = d.length
  perm : d'.Perm d
  out : ∀ k, k < a ∨ b ≤ k → gN d' k = gN d k
  src : ∀ k, a ≤ k → k < b → ∃ k', a ≤ k' ∧ k' < b ∧ gN d' k = gN d k'

theorem Rel.refl (a b : Nat) (d : List Int) : Rel a b d d := ⟨rfl, .refl _, fun _ _ => rfl, fun k h1 h2 => ⟨k, h1, h2, rfl⟩⟩

theorem Rel.trans {a b : Nat} {d d' d'' : List Int} (h : Rel a b d d') (h' : Rel a b d' d'') : Rel a b d d'' :=
  ⟨h'.len.trans h.len, h'.perm.trans h.perm, fun k hk => (h'.out k hk).trans (h.out k hk), fun k h1 h2 => by
    obtain ⟨k1, a1, a2, a3⟩ := h'.src k h1 h2
    obtain ⟨k2, b1, b2, b3⟩ := h.src k1 a1 a2
    exact ⟨k2, b1, b2, a3.trans b3⟩⟩

theorem Rel.mono {a b a' b' : Nat} {d d' : List Int} (h : Rel a b d d') (h1 : a' ≤ a) (h2 : b ≤ b') : Rel a' b' d d' :=
  ⟨h.len, h.perm, fun k hk => h.out k (by omega), fun k k1 k2 => by
    by_cases hk : a ≤ k ∧ k < b
    · obtain ⟨k', c1, c2, c3⟩ := h.src k hk.1 hk.2
      exact ⟨k', by omega, by omega, c3⟩
    · exact ⟨k, k1, k2, h.out k (by omega)⟩⟩

theorem Rel.swp {a b : Nat} {d : List Int} {i j : Nat} (hi : i < d.length) (hj : j < d.length) (h1 : a ≤ i ∧ i < b) (h2 : a ≤ j ∧ j < b) : Rel a b d (swp d i j) :=
  ⟨fZ .., VA hi hj, fun k hk => by rw [pQ hi hj, if_neg (by omega), if_neg (by omega)], fun k k1 k2 => by
    rw [pQ hi hj]
    split
    · exact ⟨i, h1.1, h1.2, rfl⟩
    · split
      · exact ⟨j, h2.1, h2.2, rfl⟩
      · exact ⟨k, k1, k2, rfl⟩⟩

theorem Rel.all {a b : Nat} {d d' : List Int} (h : Rel a b d d') {p : Int → Prop} (hp : ∀ k, a ≤ k → k < b → p (gN d k)) : ∀ k, a ≤ k → k < b → p (gN d' k) := fun k k1 k2 => by
  obtain ⟨k', c1, c2, c3⟩ := h.src k k1 k2
  rw [c3]; exact hp k' c1 c2

def nD (a b : Nat) (d : List Int) : Prop := ∀ p q, a ≤ p → p ≤ q → q < b → gN d p ≤ gN d q

theorem oN (a b : Int) : cU a b = some (decide (a < b)) := by simp [cU, kK, dR]

theorem wrN {x : Int} {n : Nat} (h : x = (n : Int)) (hn : n ≤ 9000000000000000000) : IntKind.i64.wrap x = (n : Int) := by
  rw [dY (by omega) (by omega), h]

theorem asN {i n : Nat} (h : i < n) : 0 ≤ (i : Int) ∧ (i : Int) < ((n : Nat) : Int) := by omega

theorem KM {a b i : Int} {d : List Int} {lo j : Nat} (ha : a = (lo : Nat)) (h1 : lo ≤ j) (hj : j < d.length) (hl : d.length < 4611686018427387904) :
    eK a b i d (j : Nat) = if lo < j ∧ gN d j < gN d (j - 1) then some (.inl (swp d j (j - 1), ((j - 1 : Nat) : Int))) else some (.inr d) := by
  subst ha
  unfold eK
  by_cases h : lo < j
  · have e1 : IntKind.i64.wrap ((j : Int) - 1) = ((j - 1 : Nat) : Int) := wrN (by omega) (by omega)
    have d1 : decide (((lo : Nat) : Int) < ((j : Nat) : Int)) = true := by simp; omega
    rw [e1, d1]
    simp only [true_and, Int.toNat_natCast, oN, dR, cond_true, Option.bind_some, Bool.true_and]
    rw [aO fun _ => asN hj, aO fun _ => asN (by omega)]
    by_cases h2 : gN d j < gN d (j - 1)
    · rw [if_pos ⟨h, h2⟩]
      simp only [gN] at h2
      simp only [h2, decide_true, cond_true]
      rw [aO (asN (by omega)), aO (asN hj), aO (asN hj), aO (asN (by omega))]
      rfl
    · rw [if_neg (fun hh => h2 hh.2)]
      simp only [gN] at h2
      simp only [h2, decide_false, cond_false]
  · have d1 : decide (((lo : Nat) : Int) < ((j : Nat) : Int)) = false := by simp; omega
    rw [if_neg (fun hh => h hh.1), d1]
    simp only [Bool.false_eq_true, false_implies, dR, cond_false, Option.bind_some, Bool.false_and]
    rw [aO trivial, aO trivial]

structure AG (a j i : Nat) (d : List Int) : Prop where
  oth : ∀ p q, a ≤ p → p ≤ q → q ≤ i → p ≠ j → q ≠ j → gN d p ≤ gN d q
  up : ∀ q, j < q → q ≤ i → gN d j ≤ gN d q

theorem AG.done {a j i : Nat} {d : List Int} (h : AG a j i d) (hj : a ≤ j) (hn : ¬ (a < j ∧ gN d j < gN d (j - 1))) : nD a (i + 1) d := by
  intro p q h1 h2 h3
  by_cases hp : p = j
  · by_cases hq : q = j
    · subst hp; subst hq; exact Int.le_refl _
    · subst hp; exact h.up q (by omega) (by omega)
  · by_cases hq : q = j
    · subst hq
      have h4 : ¬ gN d q < gN d (q - 1) := fun hh => hn ⟨by omega, hh⟩
      have := h.oth p (q - 1) h1 (by omega) (by omega) hp (by omega)
      omega
    · exact h.oth p q h1 h2 (by omega) hp hq

theorem AG.next {a j i : Nat} {d : List Int} (h : AG a j i d) (hj : a < j) (hji : j ≤ i) (hi : i < d.length) (hlt : gN d j < gN d (j - 1)) : AG a (j - 1) i (swp d j (j - 1)) := by
  have g := pQ (d := d) (i := j) (j := j - 1) (by omega) (by omega)
  refine ⟨fun p q h1 h2 h3 hp hq => ?_, fun q h1 h2 => ?_⟩
  · rw [g, g, if_neg hp, if_neg hq]
    by_cases hpj : p = j
    · rw [if_pos hpj]
      by_cases hqj : q = j
      · rw [if_pos hqj]; exact Int.le_refl _
      · rw [if_neg hqj]; exact h.oth (j - 1) q (by omega) (by omega) h3 (by omega) hqj
    · rw [if_neg hpj]
      by_cases hqj : q = j
      · rw [if_pos hqj]; exact h.oth p (j - 1) h1 (by omega) (by omega) hpj (by omega)
      · rw [if_neg hqj]; exact h.oth p q h1 h2 h3 hpj hqj
  · rw [g, g, if_pos rfl, if_neg (by omega)]
    by_cases hqj : q = j
    · rw [if_pos hqj]; omega
    · rw [if_neg hqj]; exact h.up q (by omega) h2

theorem YQ {a b i : Int} {lo hi : Nat} (ha : a = (lo : Nat)) : ∀ (j : Nat) (d : List Int), lo ≤ j → j ≤ hi → hi < d.length → d.length < 4611686018427387904 → AG lo j hi d →
    ∃ d', lp (fun s : List Int × Int => eK a b i s.1 s.2) (d, (j : Int)) = some d' ∧ Rel lo (hi + 1) d d' ∧ nD lo (hi + 1) d' := by
  intro j
  induction j with
  | zero =>
    intro d h1 h2 h3 h4 h5
    have hs := KM (a := a) (b := b) (i := i) ha h1 (by omega) h4 (d := d)
    rw [if_neg (by omega)] at hs
    exact ⟨d, cV hs, Rel.refl .., h5.done h1 (by omega)⟩
  | succ j ih =>
    intro d h1 h2 h3 h4 h5
    have hs := KM (a := a) (b := b) (i := i) ha h1 (by omega) h4 (d := d)
    by_cases h : lo < j + 1 ∧ gN d (j + 1) < gN d (j + 1 - 1)
    · rw [if_pos h] at hs
      obtain ⟨d', e, r, s⟩ := ih (swp d (j + 1) (j + 1 - 1)) (by omega) (by omega) (by rw [fZ]; omega) (by rw [fZ]; omega) (h5.next h.1 h2 h3 h.2)
      exact ⟨d', (gE hs).trans e, (Rel.swp (by omega) (by omega) (by omega) (by omega)).trans r, s⟩
    · rw [if_neg h] at hs
      exact ⟨d, cV hs, Rel.refl .., h5.done h1 h⟩

theorem MP {a b : Int} {lo hi : Nat} (ha : a = (lo : Nat)) (hb : b = (hi : Nat)) : ∀ (n i : Nat) (d : List Int), hi - i = n → lo < i → hi ≤ d.length → d.length < 4611686018427387904 → nD lo i d → (i ≤ hi ∨ hi ≤ i) →
    ∃ d', lp (fun s : List Int × Int => cX a b s.1 s.2) (d, (i : Int)) = some d' ∧ Rel lo hi d d' ∧ nD lo hi d' := by
  intro n
  induction n with
  | zero =>
    intro i d h1 h2 h3 h4 h5 _
    refine ⟨d, cV ?_, Rel.refl .., fun p q p1 p2 p3 => h5 p q p1 p2 (by omega)⟩
    show cX _ _ _ _ = _
    have : decide (((i : Nat) : Int) < b) = false := by simp; omega
    simp only [cX, this, cond_false]
  | succ n ih =>
    intro i d h1 h2 h3 h4 h5 _
    obtain ⟨d1, e, r, s⟩ := YQ (a := a) (b := b) (i := (i : Int)) (hi := i) ha i d (by omega) (Nat.le_refl _) (by omega) h4 ⟨fun p q p1 p2 p3 p4 p5 => h5 p q p1 p2 (by omega), fun q q1 q2 => by omega⟩
    obtain ⟨d2, e2, r2, s2⟩ := ih (i + 1) d1 (by omega) (by omega) (by rw [r.len]; exact h3) (by rw [r.len]; exact h4) s (by omega)
    refine ⟨d2, ?_, (r.mono (Nat.le_refl _) (by omega)).trans r2, s2⟩
    rw [gE (s' := (d1, ((i + 1 : Nat) : Int))) ?_, e2]
    show cX _ _ _ _ = _
    have : decide (((i : Nat) : Int) < b) = true := by simp; omega
    simp only [cX, this, cond_true, iO]
    rw [e]
    simp only [Option.bind_some, fN]
    rw [wrN (n := i + 1) (by omega) (by omega)]

theorem DB (lo : Nat) (d : List Int) : nD lo (lo + 1) d := fun p q p1 p2 p3 => by
  have : p = q := by omega
  subst this
  exact Int.le_refl _

theorem UU {lo hi : Nat} {d : List Int} (h3 : hi ≤ d.length) (h4 : d.length < 4611686018427387904) (h0 : lo ≤ hi) : ∃ d', fT d (lo : Int) (hi : Int) = some d' ∧ Rel lo hi d d' ∧ nD lo hi d' := by
  unfold fT iP
  obtain ⟨d', e, r, s⟩ := MP (a := (lo : Int)) (b := (hi : Int)) (lo := lo) (hi := hi) rfl rfl (hi - (lo + 1)) (lo + 1) d rfl (by omega) h3 h4 (DB lo d) (by omega)
  rw [wrN (n := lo + 1) (by omega) (by omega), e]
  exact ⟨d', rfl, r, s⟩

theorem XN {lo hi : Nat} : ∀ (n i j : Nat) (d : List Int), j + 1 - i = n → lo ≤ i → j + 1 ≤ hi ∨ j ≤ i → hi ≤ d.length → d.length < 4611686018427387904 → i < 4611686018427387904 → j < 4611686018427387904 →
    ∃ d', lp (fun s : List Int × Int × Int => cZ s.1 s.2.1 s.2.2) (d, (i : Int), (j : Int)) = some d' ∧ Rel lo hi d d' := by
  intro n
  induction n using Nat.strongRecOn with
  | ind n ih =>
    intro i j d h1 h2 h3 h4 h5 h6 h7
    by_cases h : i < j
    · obtain ⟨d', e, r⟩ := ih (j - 1 + 1 - (i + 1)) (by omega) (i + 1) (j - 1) (swp d i j) rfl (by omega) (by omega) (by rw [fZ]; exact h4) (by rw [fZ]; exact h5) (by omega) (by omega)
      refine ⟨d', ?_, (Rel.swp (by omega) (by omega) (by omega) (by omega)).trans r⟩
      rw [gE (s' := (swp d i j, ((i + 1 : Nat) : Int), ((j - 1 : Nat) : Int))) ?_, e]
      show cZ _ _ _ = _
      have : decide (((i : Nat) : Int) < ((j : Nat) : Int)) = true := by simp; omega
      simp only [cZ, this, cond_true, Int.toNat_natCast]
      rw [aO (asN (by omega)), aO (asN (by omega)), aO (asN (by omega)), aO (asN (by omega)), wrN (n := i + 1) (by omega) (by omega), wrN (n := j - 1) (by omega) (by omega)]
      rfl
    · refine ⟨d, cV ?_, Rel.refl ..⟩
      show cZ _ _ _ = _
      have : decide (((i : Nat) : Int) < ((j : Nat) : Int)) = false := by simp; omega
      simp only [cZ, this, cond_false]

theorem RE {lo hi : Nat} {d : List Int} (h0 : lo < hi) (h3 : hi ≤ d.length) (h4 : d.length < 4611686018427387904) : ∃ d', gI d (lo : Int) (hi : Int) = some d' ∧ Rel lo hi d d' := by
  unfold gI iW
  obtain ⟨d', e, r⟩ := XN (lo := lo) (hi := hi) (hi - 1 + 1 - lo) lo (hi - 1) d rfl (Nat.le_refl _) (by omega) h3 h4 (by omega) (by omega)
  rw [wrN (n := hi - 1) (by omega) (by omega), e]
  exact ⟨d', rfl, r⟩

end Go.Abs
namespace Go.Abs
open Go
def sY (f hi : Nat) (d : List Int) (r : Nat) : Nat := if 2 * r + 2 < hi ∧ gN d (f + (2 * r + 1)) < gN d (f + (2 * r + 2)) then 2 * r + 2 else 2 * r + 1

theorem FV {f hi r c : Nat} {d : List Int} (hf : f + hi ≤ d.length) (hr : r < hi) (hc : c < hi) (hl : d.length < 2305843009213693951) :
    fP d (hi : Nat) (f : Nat) (r : Nat) (c : Nat) = if gN d (f + r) < gN d (f + c) then some (.inl (swp d (f + r) (f + c), (c : Int))) else some (.inr (.inr d)) := by
  unfold fP
  have e1 : IntKind.i64.wrap ((f : Int) + (r : Int)) = ((f + r : Nat) : Int) := wrN (by omega) (by omega)
  have e2 : IntKind.i64.wrap ((f : Int) + (c : Int)) = ((f + c : Nat) : Int) := wrN (by omega) (by omega)
  rw [e1, e2]
  simp only [Int.toNat_natCast, oN, Option.bind_some]
  rw [aO (asN (by omega)), aO (asN (by omega))]
  by_cases h : gN d (f + r) < gN d (f + c)
  · rw [if_pos h]
    simp only [gN] at h
    simp only [h, decide_true, Bool.not_true, cond_false]
    rw [aO (asN (by omega)), aO (asN (by omega)), aO (asN (by omega)), aO (asN (by omega))]
    rfl
  · rw [if_neg h]
    simp only [gN] at h
    simp only [h, decide_false, Bool.not_false, cond_true]

theorem QN {f hi r : Nat} {d : List Int} (hf : f + hi ≤ d.length) (hr : r < hi) (hl : d.length < 2305843009213693951) :
    cT (hi : Nat) (f : Nat) d (r : Nat) = if hi ≤ 2 * r + 1 then some (.inr (.inl d)) else if gN d (f + r) < gN d (f + sY f hi d r) then some (.inl (swp d (f + r) (f + sY f hi d r), (sY f hi d r : Int))) else some (.inr (.inr d)) := by
  unfold cT
  have e1 : IntKind.i64.wrap (IntKind.i64.wrap ((2 : Int) * (r : Int)) + 1) = ((2 * r + 1 : Nat) : Int) := by
    rw [wrN (x := (2 : Int) * (r : Int)) (n := 2 * r) (by omega) (by omega)]; exact wrN (by omega) (by omega)
  have e2 : IntKind.i64.wrap (((2 * r + 1 : Nat) : Int) + 1) = ((2 * r + 2 : Nat) : Int) := wrN (by omega) (by omega)
  simp only [e1, e2]
  by_cases h : hi ≤ 2 * r + 1
  · rw [if_pos h]
    have : decide (((hi : Nat) : Int) ≤ ((2 * r + 1 : Nat) : Int)) = true := by simp; omega
    rw [this, cond_true]
  · rw [if_neg h]
    have d1 : decide (((hi : Nat) : Int) ≤ ((2 * r + 1 : Nat) : Int)) = false := by simp; omega
    rw [d1, cond_false]
    by_cases h2 : 2 * r + 2 < hi
    · have d2 : decide (((2 * r + 2 : Nat) : Int) < ((hi : Nat) : Int)) = true := by simp; omega
      have e3 : IntKind.i64.wrap ((f : Int) + ((2 * r + 1 : Nat) : Int)) = ((f + (2 * r + 1) : Nat) : Int) := wrN (by omega) (by omega)
      have e4 : IntKind.i64.wrap (((f + (2 * r + 1) : Nat) : Int) + 1) = ((f + (2 * r + 2) : Nat) : Int) := wrN (by omega) (by omega)
      simp only [d2, e3, e4, Int.toNat_natCast, oN, dR, cond_true, Option.bind_some, Bool.true_and]
      rw [aO fun _ => asN (by omega), aO fun _ => asN (by omega)]
      by_cases h3 : gN d (f + (2 * r + 1)) < gN d (f + (2 * r + 2))
      · have hb : sY f hi d r = 2 * r + 2 := if_pos ⟨h2, h3⟩
        simp only [gN] at h3
        simp only [h3, decide_true, cond_true]
        rw [FV hf hr h2 hl, hb]
      · have hb : sY f hi d r = 2 * r + 1 := if_neg fun hh => h3 hh.2
        simp only [gN] at h3
        simp only [h3, decide_false, cond_false]
        rw [FV hf hr (by omega) hl, hb]
    · have d2 : decide (((2 * r + 2 : Nat) : Int) < ((hi : Nat) : Int)) = false := by simp; omega
      have hb : sY f hi d r = 2 * r + 1 := if_neg fun hh => h2 hh.1
      simp only [d2, Bool.false_eq_true, false_implies, dR, cond_false, Option.bind_some, Bool.false_and]
      rw [aO trivial, aO trivial, FV hf hr (by omega) hl, hb]

def chd (c p : Nat) : Prop := c = 2 * p + 1 ∨ c = 2 * p + 2

def Hp (f lo hi : Nat) (d : List Int) : Prop := ∀ i c, lo ≤ i → chd c i → c < hi → gN d (f + c) ≤ gN d (f + i)

structure HpX (f lo hi r : Nat) (d : List Int) : Prop where
  oth : ∀ i c, lo ≤ i → i ≠ r → chd c i → c < hi → gN d (f + c) ≤ gN d (f + i)
  up : ∀ p c, lo ≤ p → chd r p → chd c r → c < hi → gN d (f + c) ≤ gN d (f + p)

theorem RF {f hi r : Nat} {d : List Int} (h : ¬ hi ≤ 2 * r + 1) : chd (sY f hi d r) r ∧ sY f hi d r < hi ∧ ∀ c, chd c r → c < hi → gN d (f + c) ≤ gN d (f + sY f hi d r) := by
  unfold sY
  split
  · rename_i h1
    refine ⟨.inr rfl, h1.1, fun c hc hlt => ?_⟩
    rcases hc with rfl | rfl
    · omega
    · exact Int.le_refl _
  · rename_i h1
    refine ⟨.inl rfl, by omega, fun c hc hlt => ?_⟩
    rcases hc with rfl | rfl
    · exact Int.le_refl _
    · have : ¬ gN d (f + (2 * r + 1)) < gN d (f + (2 * r + 2)) := fun hh => h1 ⟨hlt, hh⟩
      omega

theorem HpX.done {f lo hi r : Nat} {d : List Int} (h : HpX f lo hi r d) (hr : ∀ c, chd c r → c < hi → gN d (f + c) ≤ gN d (f + r)) : Hp f lo hi d := by
  intro i c h1 h2 h3
  by_cases e : i = r
  · subst e; exact hr c h2 h3
  · exact h.oth i c h1 e h2 h3

theorem HpX.next {f lo hi r c : Nat} {d : List Int} (h : HpX f lo hi r d) (hf : f + hi ≤ d.length) (hlo : lo ≤ r) (hrh : r < hi) (hc : chd c r) (hch : c < hi) (hbig : ∀ k, chd k r → k < hi → gN d (f + k) ≤ gN d (f + c)) (hlt : gN d (f + r) < gN d (f + c)) : HpX f lo hi c (swp d (f + r) (f + c)) := by
  have g := pQ (d := d) (i := f + r) (j := f + c) (by omega) (by omega)
  have hcr : r < c := by unfold chd at hc; omega
  refine ⟨fun i k h1 h2 h3 h4 => ?_, fun p k h1 h2 h3 h4 => ?_⟩
  · rw [g, g, if_neg (show ¬ f + i = f + c by omega)]
    by_cases hir : i = r
    · subst hir
      rw [if_pos (show f + i = f + i from rfl)]
      by_cases hkc : k = c
      · subst hkc; rw [if_pos rfl]; omega
      · rw [if_neg (by omega), if_neg (by unfold chd at h3; omega)]
        exact hbig k h3 h4
    · rw [if_neg (show ¬ f + i = f + r by omega)]
      have hkc : k ≠ c := by intro e; subst e; unfold chd at h3 hc; omega
      rw [if_neg (by omega)]
      by_cases hkr : k = r
      · subst hkr
        rw [if_pos rfl]
        exact h.up i c h1 h3 hc hch
      · rw [if_neg (by omega)]
        exact h.oth i k h1 hir h3 h4
  · have hp : p = r := by unfold chd at h2 hc; omega
    subst hp
    have hk : c < k := by unfold chd at h3; omega
    rw [g, g, if_neg (by omega), if_neg (by omega), if_neg (by omega), if_pos rfl]
    exact h.oth c k (by omega) (by omega) h3 h4

theorem XC {f lo hi : Nat} : ∀ (n r : Nat) (d : List Int), hi - r = n → f + hi ≤ d.length → lo ≤ r → r < hi → d.length < 2305843009213693951 → HpX f lo hi r d →
    ∃ d', (lp (fun s : List Int × Int => cT (hi : Nat) (f : Nat) s.1 s.2) (d, (r : Int)) = some (.inl d') ∨ lp (fun s : List Int × Int => cT (hi : Nat) (f : Nat) s.1 s.2) (d, (r : Int)) = some (.inr d')) ∧ Rel f (f + hi) d d' ∧ Hp f lo hi d' := by
  intro n
  induction n using Nat.strongRecOn with
  | ind n ih =>
    intro r d h1 h2 h3 h4 h5 h6
    have hs := QN h2 h4 h5
    by_cases h : hi ≤ 2 * r + 1
    · rw [if_pos h] at hs
      exact ⟨d, .inl (cV hs), Rel.refl .., h6.done fun c hc hlt => by unfold chd at hc; omega⟩
    · rw [if_neg h] at hs
      obtain ⟨b1, b2, b3⟩ := RF (f := f) (d := d) h
      by_cases hlt : gN d (f + r) < gN d (f + sY f hi d r)
      · rw [if_pos hlt] at hs
        have hb : r < sY f hi d r := by unfold chd at b1; omega
        obtain ⟨d', e, rl, hp⟩ := ih (hi - sY f hi d r) (by omega) (sY f hi d r) _ rfl (by rw [fZ]; exact h2) (by omega) b2 (by rw [fZ]; exact h5) (h6.next h2 h3 h4 b1 b2 b3 hlt)
        exact ⟨d', e.imp (fun e => (gE hs).trans e) (fun e => (gE hs).trans e), (Rel.swp (by omega) (by omega) (by omega) (by omega)).trans rl, hp⟩
      · rw [if_neg hlt] at hs
        exact ⟨d, .inr (cV hs), Rel.refl .., h6.done fun c hc hc2 => by have := b3 c hc hc2; omega⟩

theorem NI {f lo hi : Nat} {d : List Int} (h2 : f + hi ≤ d.length) (h5 : d.length < 2305843009213693951) (hlo : lo < 2305843009213693951) (h6 : HpX f lo hi lo d) :
    ∃ d', eU d (lo : Nat) (hi : Nat) (f : Nat) = some d' ∧ Rel f (f + hi) d d' ∧ Hp f lo hi d' := by
  unfold eU jT
  by_cases h : lo < hi
  · obtain ⟨d', e, r, p⟩ := XC (hi - lo) lo d rfl h2 (Nat.le_refl _) h h5 h6
    rcases e with e | e <;> rw [e] <;> exact ⟨d', rfl, r, p⟩
  · refine ⟨d, ?_, Rel.refl .., fun i c h1 hc hlt => by unfold chd at hc; omega⟩
    have hs : cT (hi : Nat) (f : Nat) d (lo : Nat) = some (.inr (.inl d)) := by
      unfold cT
      have e1 : IntKind.i64.wrap (IntKind.i64.wrap ((2 : Int) * (lo : Int)) + 1) = ((2 * lo + 1 : Nat) : Int) := by
        rw [wrN (x := (2 : Int) * (lo : Int)) (n := 2 * lo) (by omega) (by omega)]; exact wrN (by omega) (by omega)
      have : decide (((hi : Nat) : Int) ≤ ((2 * lo + 1 : Nat) : Int)) = true := by simp; omega
      simp only [e1, this, cond_true]
    rw [cV (show (fun s : List Int × Int => cT (hi : Nat) (f : Nat) s.1 s.2) (d, (lo : Int)) = _ from hs)]
    rfl

theorem QD {f k : Nat} {d : List Int} (h : Hp f 0 k d) : ∀ i, i < k → gN d (f + i) ≤ gN d f := by
  intro i
  induction i using Nat.strongRecOn with
  | ind i ih =>
    intro hi
    by_cases h0 : i = 0
    · subst h0; exact Int.le_refl _
    · have h1 := h ((i - 1) / 2) i (Nat.zero_le _) (by unfold chd; omega) hi
      have h2 := ih ((i - 1) / 2) (by omega) (by omega)
      omega

theorem NN {f hi : Nat} : ∀ (k : Nat) (d : List Int), f + hi ≤ d.length → k < 2305843009213693951 → d.length < 2305843009213693951 → Hp f k hi d →
    ∃ d', lp (fun s : List Int × Int => dO (f : Nat) 0 (hi : Nat) s.1 s.2) (d, (k : Int) - 1) = some d' ∧ Rel f (f + hi) d d' ∧ Hp f 0 hi d'
  | 0, d, _, _, _, h => by
    refine ⟨d, cV ?_, Rel.refl .., h⟩
    show dO _ _ _ _ _ = _
    have : decide ((0 : Int) ≤ ((0 : Nat) : Int) - 1) = false := by simp
    simp only [dO, this, cond_false]
  | k + 1, d, h1, h2, h3, h => by
    obtain ⟨d1, e, r, p⟩ := NI (f := f) (lo := k) (hi := hi) h1 h3 (by omega) ⟨fun i c a1 a2 a3 a4 => h i c (by omega) a3 a4, fun p c a1 a2 => by unfold chd at a2; omega⟩
    obtain ⟨d2, e2, r2, p2⟩ := NN (f := f) (hi := hi) k d1 (by rw [r.len]; exact h1) (by omega) (by rw [r.len]; exact h3) p
    refine ⟨d2, ?_, r.trans r2, p2⟩
    rw [gE (s' := (d1, (k : Int) - 1)) ?_, e2]
    show dO _ _ _ _ _ = _
    have g1 : (((k + 1 : Nat) : Int) - 1) = (k : Int) := by omega
    have g2 : decide ((0 : Int) ≤ (k : Int)) = true := by simp
    simp only [dO, g1, g2, cond_true, e, Option.bind_some]
    rw [dY (by omega) (by omega)]

theorem RY {f n : Nat} : ∀ (k : Nat) (d : List Int), k ≤ n → f + n ≤ d.length → d.length < 2305843009213693951 → Hp f 0 k d → nD (f + k) (f + n) d → (∀ p q, f ≤ p → p < f + k → f + k ≤ q → q < f + n → gN d p ≤ gN d q) →
    ∃ d', lp (fun s : List Int × Int => dN (f : Nat) 0 s.1 s.2) (d, (k : Int) - 1) = some d' ∧ Rel f (f + n) d d' ∧ nD f (f + n) d'
  | 0, d, _, _, _, _, hs, _ => by
    refine ⟨d, cV ?_, Rel.refl .., hs⟩
    show dN _ _ _ _ = _
    have : decide ((0 : Int) ≤ ((0 : Nat) : Int) - 1) = false := by simp
    simp only [dN, this, cond_false]
  | k + 1, d, h1, h2, h3, h, hs, hb => by
    have g := pQ (d := d) (i := f) (j := f + k) (by omega) (by omega)
    have hroot := QD h
    obtain ⟨d1, e, r, p⟩ := NI (f := f) (lo := 0) (hi := k) (d := swp d f (f + k)) (by rw [fZ]; omega) (by rw [fZ]; exact h3) (by omega) ⟨fun i c a1 a2 a3 a4 => by
      rw [g, g, if_neg (by unfold chd at a3; omega), if_neg (by unfold chd at a3; omega), if_neg (by unfold chd at a3; omega), if_neg (by omega)]
      exact h i c (by omega) a3 (by omega), fun p c a1 a2 => by unfold chd at a2; omega⟩
    have rs : Rel f (f + n) d (swp d f (f + k)) := Rel.swp (i := f) (j := f + k) (by omega) (by omega) (by omega) (by omega)
    have top : gN d1 (f + k) = gN d f := by rw [r.out _ (by omega), g, if_pos rfl]
    have tail : ∀ q, f + k < q → gN d1 q = gN d q := fun q hq => by rw [r.out _ (by omega), g, if_neg (by omega), if_neg (by omega)]
    have low : ∀ p, f ≤ p → p < f + k → ∃ p', f ≤ p' ∧ p' < f + (k + 1) ∧ gN d1 p = gN d p' := fun p p1 p2 => by
      obtain ⟨p', a1, a2, a3⟩ := r.src p p1 p2
      rw [g, if_neg (by omega)] at a3
      by_cases hp : p' = f
      · rw [if_pos hp] at a3; exact ⟨f + k, by omega, by omega, a3⟩
      · rw [if_neg hp] at a3; exact ⟨p', a1, by omega, a3⟩
    obtain ⟨d2, e2, r2, s2⟩ := RY (f := f) (n := n) k d1 (by omega) (by rw [r.len, fZ]; exact h2) (by rw [r.len, fZ]; exact h3) p (fun p q p1 p2 p3 => by
      by_cases hq : q = f + k
      · have : p = f + k := by omega
        rw [hq, this]; exact Int.le_refl _
      · rw [tail q (by omega)]
        by_cases hp : p = f + k
        · rw [hp, top]; exact hb f q (Nat.le_refl _) (by omega) (by omega) p3
        · rw [tail p (by omega)]; exact hs p q (by omega) p2 p3) (fun p q p1 p2 p3 p4 => by
      obtain ⟨p', a1, a2, a3⟩ := low p p1 p2
      rw [a3]
      by_cases hq : q = f + k
      · rw [hq, top]
        have := hroot (p' - f) (by omega)
        rw [show f + (p' - f) = p' by omega] at this
        exact this
      · rw [tail q (by omega)]; exact hb p' q a1 a2 (by omega) p4)
    refine ⟨d2, ?_, (rs.trans (r.mono (Nat.le_refl _) (by omega))).trans r2, s2⟩
    rw [gE (s' := (d1, (k : Int) - 1)) ?_, e2]
    show dN _ _ _ _ = _
    have g1 : (((k + 1 : Nat) : Int) - 1) = (k : Int) := by omega
    have g2 : decide ((0 : Int) ≤ (k : Int)) = true := by simp
    have g3 : IntKind.i64.wrap ((f : Int) + (k : Int)) = ((f + k : Nat) : Int) := wrN (by omega) (by omega)
    simp only [dN, g1, g2, g3, cond_true, Int.toNat_natCast]
    rw [aO (asN (by omega)), aO (asN (by omega)), aO (asN (by omega)), aO (asN (by omega))]
    have e' : eU (List.set (List.set d f (List.getD d (f + k) default)) (f + k) (List.getD d f default)) 0 (k : Int) (f : Int) = some d1 := e
    rw [e']
    simp only [Option.bind_some]
    rw [dY (by omega) (by omega)]

theorem RO {lo hi : Nat} {d : List Int} (h0 : lo < hi) (h1 : hi ≤ d.length) (h3 : d.length < 2305843009213693951) : ∃ d', iS d (lo : Int) (hi : Int) = some d' ∧ Rel lo hi d d' ∧ nD lo hi d' := by
  unfold iS
  rw [aO (by decide)]
  have e1 : IntKind.i64.wrap ((hi : Int) - (lo : Int)) = ((hi - lo : Nat) : Int) := wrN (by omega) (by omega)
  have e2 : IntKind.i64.wrap (((hi - lo : Nat) : Int) - 1) = ((hi - lo - 1 : Nat) : Int) := wrN (by omega) (by omega)
  have e3 : IntKind.i64.wrap (Int.tdiv ((hi - lo - 1 : Nat) : Int) 2) = (((hi - lo - 1) / 2 + 1 : Nat) : Int) - 1 := by
    have : Int.tdiv ((hi - lo - 1 : Nat) : Int) 2 = (((hi - lo - 1) / 2 : Nat) : Int) := by rw [Int.tdiv_eq_ediv_of_nonneg (by omega)]; omega
    rw [this, wrN (n := (hi - lo - 1) / 2) rfl (by omega)]; omega
  rw [e1, e2, e3]
  unfold jV
  obtain ⟨d1, a1, r1, p1⟩ := NN (f := lo) (hi := hi - lo) ((hi - lo - 1) / 2 + 1) d (by omega) (by omega) h3 (fun i c b1 b2 b3 => by unfold chd at b2; omega)
  rw [a1]
  simp only [Option.bind_some, iK, jU]
  obtain ⟨d2, a2, r2, s2⟩ := RY (f := lo) (n := hi - lo) (hi - lo) d1 (Nat.le_refl _) (by rw [r1.len]; omega) (by rw [r1.len]; exact h3) p1 (fun p q b1 b2 b3 => by omega) (fun p q b1 b2 b3 b4 => by omega)
  have e4 : IntKind.i64.wrap (((hi - lo : Nat) : Int) - 1) = ((hi - lo : Nat) : Int) - 1 := dY (by omega) (by omega)
  rw [e4, a2]
  have : lo + (hi - lo) = hi := by omega
  rw [this] at r1 r2 s2
  exact ⟨d2, rfl, r1.trans r2, s2⟩

end Go.Abs
namespace Go.Abs
open Go
def CE : ByteArray := ⟨#[0, 1, 2, 2, 3, 3, 3, 3, 4, 4, 4, 4, 4, 4, 4, 4, 5, 5, 5, 5, 5, 5, 5, 5, 5, 5, 5, 5, 5, 5, 5, 5, 6, 6, 6, 6, 6, 6, 6, 6, 6, 6, 6, 6, 6, 6, 6, 6, 6, 6, 6, 6, 6, 6, 6, 6, 6, 6, 6, 6, 6, 6, 6, 6, 7, 7, 7, 7, 7, 7, 7, 7, 7, 7, 7, 7, 7, 7, 7, 7, 7, 7, 7, 7, 7, 7, 7, 7, 7, 7, 7, 7, 7, 7, 7, 7, 7, 7, 7, 7, 7, 7, 7, 7, 7, 7, 7, 7, 7, 7, 7, 7, 7, 7, 7, 7, 7, 7, 7, 7, 7, 7, 7, 7, 7, 7, 7, 7, 8, 8, 8, 8, 8, 8, 8, 8, 8, 8, 8, 8, 8, 8, 8, 8, 8, 8, 8, 8, 8, 8, 8, 8, 8, 8, 8, 8, 8, 8, 8, 8, 8, 8, 8, 8, 8, 8, 8, 8, 8, 8, 8, 8, 8, 8, 8, 8, 8, 8, 8, 8, 8, 8, 8, 8, 8, 8, 8, 8, 8, 8, 8, 8, 8, 8, 8, 8, 8, 8, 8, 8, 8, 8, 8, 8, 8, 8, 8, 8, 8, 8, 8, 8, 8, 8, 8, 8, 8, 8, 8, 8, 8, 8, 8, 8, 8, 8, 8, 8, 8, 8, 8, 8, 8, 8, 8, 8, 8, 8, 8, 8, 8, 8, 8, 8, 8, 8, 8, 8, 8, 8, 8, 8, 8, 8, 8, 8]⟩

theorem QI : ∀ i : Fin 256, i.val ≠ 0 → ∃ k : Fin 8, bt CE (i.val : Int) = (k.val : Int) + 1 ∧ 2 ^ k.val ≤ i.val := by decide +kernel

theorem HC : ByteArray.size CE = 256 := by decide +kernel

theorem VN {x : Int} (h : 0 ≤ x) (h2 : x ≤ 255) : IntKind.u8.wrap x = x := by
  simp only [IntKind.wrap, IntKind.bits, IntKind.signed]
  simp
  omega

theorem zP {x : Int} (h : 0 ≤ x) (h2 : x ≤ 9223372036854775807) : IntKind.u64.wrap x = x := by
  simp only [IntKind.wrap, IntKind.bits, IntKind.signed]
  simp
  omega

end Go.Abs
