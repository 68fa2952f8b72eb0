/- What the law HopStarts stands on: the framework, the given functions as plain functions, their walks, and the plain laws; part 4. -/
import Derived.Test.YteecjdpicjpnfaaHopStartsZ3
set_option linter.unusedSimpArgs false
set_option linter.unusedVariables false
namespace Go.Abs
open Go Go.RowKit Go.Proofs
theorem pP (lo0p : Nat) (aA : (List Int)) (a1 : Int) (b2 : Int) (r : (Bool × List Int)) (h0 : eK aA a1 b2 = some r) : lZ Try.prog 83 lo0p 1 (List.map (eI) aA) (List.map (eI) r.2) [(.msl 1 lo0p 0 (List.length aA)), (eI a1), (eI b2)] (aB r.1) := by
  intro H0 hl0
  refine dQ Try.func83 ?_
  have hO := aJ.rN hl0
  clear hl0
  obtain ⟨N0, hN0⟩ : ∃ n, n = List.length aA := ⟨_, rfl⟩
  have hN : List.length aA = N0 := hN0.symm
  unfold eK at h0
  refine aS aC 1 [] [] ?_
  refine aS aC 3 [] [(7, (eI (wR (a1 + (1 : Int)))))] ?_
  refine iR (fun T H => ∃ aA : List Int, Has T [(0, (.msl 1 lo0p 0 (List.length aA)))] ∧ aJ ⟨H0, [lo0p], []⟩ H [(lo0p, 1, List.map (eI) aA)] ∧ List.length aA = N0 ∧ eD aA = some r) ?_ ?_
  · clear hO hN h0
    rintro T H ⟨aA, hT, hO, hN, h0⟩
    refine bM hT ?_
    clear hT
    unfold eD at h0
    refine aS aC 1 [] [(6, (aB false))] ?_
    refine bL ?_
    obtain rfl := oI h0
    exact aD (lG (x := (aB false)) (by kernel_rfl) (aL.refl _) ⟨rfl, hO.ext, hO.at 0 (by kernel_rfl), by first | rfl | (simp only [List.length_map]; exact hN.trans hN0)⟩)
  refine aS aC 1 [] [(8, (eI (0 : Int)))] ?_
  refine cI 0 ?_
  refine iA [(0, (.msl 1 lo0p 0 (List.length aA))), (1, (eI a1)), (2, (eI b2)), (7, (eI (wR (a1 + (1 : Int))))), (8, (eI (0 : Int)))] ?_
  refine gY (fun T H => ∃ aA : List Int, ∃ i7 : Int, ∃ j8 : Int, Has T [(0, (.msl 1 lo0p 0 (List.length aA))), (1, (eI a1)), (2, (eI b2)), (7, (eI i7)), (8, (eI j8))] ∧ aJ ⟨H0, [lo0p], []⟩ H [(lo0p, 1, List.map (eI) aA)] ∧ List.length aA = N0 ∧ fQ aA a1 b2 i7 j8 = some r) ?_ ⟨aA, wR (a1 + (1 : Int)), (0 : Int), .eq (by kernel_rfl), hO, hN, h0⟩
  clear hO hN h0
  rintro T H ⟨aA, i7, j8, hT, hO, hN, h0⟩
  refine bM hT ?_
  clear hT
  unfold fQ at h0
  obtain ⟨rr0, hl0, h0⟩ := aT h0
  refine eE (by kernel_rfl) (fun (s : List Int × Int × Int) T H => Has T [(0, (.msl 1 lo0p 0 (List.length s.1))), (1, (eI a1)), (2, (eI b2)), (7, (eI s.2.1)), (8, (eI s.2.2))] ∧ aJ ⟨H0, [lo0p], []⟩ H [(lo0p, 1, List.map (eI) s.1)] ∧ List.length s.1 = N0) hl0 ⟨.eq (by kernel_rfl), hO, hN⟩ ?_
  clear hO hN
  rintro k0 s out1 T H ⟨hT, hO, hN⟩ h1 ho0
  obtain ⟨aA, i7, j8⟩ := s
  replace h1 : bU a1 b2 aA i7 j8 = some out1 := h1
  try dsimp only at hT
  refine bM hT ?_
  clear hT
  unfold bU at h1
  refine aM ?_
  refine aS aC 2 [] [(14, (aB (decide (j8 < (5 : Int)))))] ?_
  refine bP h1 (fun h1 => ?_) (fun h1 => ?_)
  · refine bQ ?_
    refine bE [(0, (.msl 1 lo0p 0 (List.length aA))), (1, (eI a1)), (2, (eI b2)), (7, (eI i7)), (8, (eI j8))] ?_
    refine iR (fun T H => ∃ aA : List Int, ∃ i7 : Int, Has T [(0, (.msl 1 lo0p 0 (List.length aA))), (1, (eI a1)), (2, (eI b2)), (7, (eI i7)), (8, (eI j8))] ∧ aJ ⟨H0, [lo0p], []⟩ H [(lo0p, 1, List.map (eI) aA)] ∧ List.length aA = N0 ∧ dH aA a1 b2 i7 j8 = some out1) ?_ ?_
    · clear hO hN h1
      rintro T H ⟨aA, i7, hT, hO, hN, h1⟩
      refine bM hT ?_
      clear hT
      unfold dH at h1
      refine aQ aC 3 ?_
      refine bC ?_
      exact aD (aF (⟨rfl, _, (oI h1).symm, .eq (by kernel_rfl), hO, hN⟩))
    refine cI 1 ?_
    refine iR (fun T H => ∃ aA : List Int, ∃ i7 : Int, Has T [(0, (.msl 1 lo0p 0 (List.length aA))), (1, (eI a1)), (2, (eI b2)), (7, (eI i7)), (8, (eI j8))] ∧ aJ ⟨H0, [lo0p], []⟩ H [(lo0p, 1, List.map (eI) aA)] ∧ List.length aA = N0 ∧ eC aA a1 b2 i7 j8 = some out1) ?_ ?_
    · clear hO hN h1
      rintro T H ⟨aA, i7, hT, hO, hN, h1⟩
      refine bM hT ?_
      clear hT
      unfold eC at h1
      refine aM ?_
      refine aS aC 3 [] [(37, (aB (decide (i7 = b2))))] ?_
      refine bP h1 (fun h1 => ?_) (fun h1 => ?_)
      · refine aS aC 1 [1, 2, 7, 8, 37] [(6, (aB true))] ?_
        refine bL ?_
        obtain rfl := oI h1
        obtain rfl : _ = rr0 := ho0
        replace h0 : some (true, aA) = some r := h0
        obtain rfl := oI h0
        exact aD (aP (bG (aP (aP (bG (aP (lG (x := (aB true)) (by kernel_rfl) (aL.refl _) ⟨rfl, hO.ext, hO.at 0 (by kernel_rfl), by first | rfl | (simp only [List.length_map]; exact hN.trans hN0)⟩)))))))
      refine bQ ?_
      refine bE [(0, (.msl 1 lo0p 0 (List.length aA))), (1, (eI a1)), (2, (eI b2)), (7, (eI i7)), (8, (eI j8))] ?_
      refine aM ?_
      refine aS aC 4 [] [(41, (aB (decide ((wR (b2 - a1)) < (50 : Int)))))] ?_
      refine bP h1 (fun h1 => ?_) (fun h1 => ?_)
      · refine aS aC 1 [1, 2, 7, 8, 41] [(6, (aB false))] ?_
        refine bL ?_
        obtain rfl := oI h1
        obtain rfl : _ = rr0 := ho0
        replace h0 : some (false, aA) = some r := h0
        obtain rfl := oI h0
        exact aD (aP (bG (aP (aP (bG (aP (lG (x := (aB false)) (by kernel_rfl) (aL.refl _) ⟨rfl, hO.ext, hO.at 0 (by kernel_rfl), by first | rfl | (simp only [List.length_map]; exact hN.trans hN0)⟩)))))))
      refine bQ ?_
      refine bE [(0, (.msl 1 lo0p 0 (List.length aA))), (1, (eI a1)), (2, (eI b2)), (7, (eI i7)), (8, (eI j8))] ?_
      refine aM ?_
      refine gQ (gM []) aC 18 ?_
      obtain ⟨c4, h1⟩ := aY h1
      refine cJ 9 [0 ≤ (wR (i7 - (1 : Int))) ∧ (wR (i7 - (1 : Int))) < (lN aA)] ⟨c4, trivial⟩ ?_
      refine gO 0 lo0p 1 (0 + Int.toNat (wR (i7 - (1 : Int)))) (eI (gD aA (wR (i7 - (1 : Int))))) (eI (gD aA (wR (i7 - (1 : Int))))) (List.map (eI) aA) hO (bX c4) ?_
      obtain ⟨c5, h1⟩ := aY h1
      refine cJ 13 [0 ≤ i7 ∧ i7 < (lN aA)] ⟨c5, trivial⟩ ?_
      refine gO 0 lo0p 1 (0 + Int.toNat i7) (eI (gD aA i7)) (eI (gD aA i7)) (List.map (eI) aA) hO (bX c5) ?_
      obtain ⟨c6, h1⟩ := aY h1
      refine cJ 15 [0 ≤ i7 ∧ i7 < (lN aA)] ⟨c6, trivial⟩ ?_
      refine kH 0 lo0p 1 (0 + Int.toNat i7) (eI (gD aA i7)) (eI (gD aA (wR (i7 - (1 : Int))))) (List.map (eI) aA) [(lo0p, 1, List.map (eI) (List.set aA (Int.toNat i7) (gD aA (wR (i7 - (1 : Int))))))] hO (bX c6) (by simp only [List.set, gV]) ?_
      intro H hO
      replace hN : List.length (List.set aA (Int.toNat i7) (gD aA (wR (i7 - (1 : Int))))) = N0 := by simpa using hN
      obtain ⟨c7, h1⟩ := aY h1
      refine cJ 17 [0 ≤ (wR (i7 - (1 : Int))) ∧ (wR (i7 - (1 : Int))) < (lN aA)] ⟨c7, trivial⟩ ?_
      refine kH 0 lo0p 1 (0 + Int.toNat (wR (i7 - (1 : Int)))) (eI (gD (List.set aA (Int.toNat i7) (gD aA (wR (i7 - (1 : Int))))) (wR (i7 - (1 : Int))))) (eI (gD aA i7)) (List.map (eI) (List.set aA (Int.toNat i7) (gD aA (wR (i7 - (1 : Int)))))) [(lo0p, 1, List.map (eI) (List.set (List.set aA (Int.toNat i7) (gD aA (wR (i7 - (1 : Int))))) (Int.toNat (wR (i7 - (1 : Int)))) (gD aA i7)))] hO (lV c7 (by simp [])) (by simp only [List.set, gV]) ?_
      intro H hO
      replace hN : List.length (List.set (List.set aA (Int.toNat i7) (gD aA (wR (i7 - (1 : Int))))) (Int.toNat (wR (i7 - (1 : Int)))) (gD aA i7)) = N0 := by simpa using hN
      refine mK (by kernel_rfl) ?_
      refine eF (l := [(0, (.msl 1 lo0p 0 (List.length (List.set (List.set aA (Int.toNat i7) (gD aA (wR (i7 - (1 : Int))))) (Int.toNat (wR (i7 - (1 : Int)))) (gD aA i7))))), (1, (eI a1)), (2, (eI b2)), (7, (eI i7)), (8, (eI j8))]) ⟨[(0, (.msl 1 lo0p 0 (List.length aA))), (1, (eI a1)), (2, (eI b2)), (7, (eI i7)), (8, (eI j8))], by kernel_rfl, rfl, ⟨aL.eq (by simp []), aL.refl _, aL.refl _, aL.refl _, aL.refl _, trivial⟩⟩ ?_
      refine aD (aF (?_))
      refine iR (fun T H => ∃ aA : List Int, Has T [(0, (.msl 1 lo0p 0 (List.length aA))), (1, (eI a1)), (2, (eI b2)), (7, (eI i7)), (8, (eI j8))] ∧ aJ ⟨H0, [lo0p], []⟩ H [(lo0p, 1, List.map (eI) aA)] ∧ List.length aA = N0 ∧ cF aA a1 b2 i7 j8 = some out1) ?_ ?_
      · clear hO hN h1
        rintro T H ⟨aA, hT, hO, hN, h1⟩
        refine bM hT ?_
        clear hT
        unfold cF at h1
        refine aS aC 4 [] [(98, (aB (decide ((2 : Int) ≤ (wR (b2 - i7))))))] ?_
        refine bP h1 (fun h1 => ?_) (fun h1 => ?_)
        · refine aS aC 3 [98] [(10, (eI (wR (i7 + (1 : Int)))))] ?_
          refine cI 6 ?_
          refine iA [(0, (.msl 1 lo0p 0 (List.length aA))), (1, (eI a1)), (2, (eI b2)), (7, (eI i7)), (8, (eI j8)), (10, (eI (wR (i7 + (1 : Int)))))] ?_
          refine gY (fun T H => ∃ aA : List Int, ∃ j10 : Int, Has T [(0, (.msl 1 lo0p 0 (List.length aA))), (1, (eI a1)), (2, (eI b2)), (7, (eI i7)), (8, (eI j8)), (10, (eI j10))] ∧ aJ ⟨H0, [lo0p], []⟩ H [(lo0p, 1, List.map (eI) aA)] ∧ List.length aA = N0 ∧ fO aA a1 b2 i7 j8 j10 = some out1) ?_ ⟨aA, wR (i7 + (1 : Int)), .eq (by kernel_rfl), hO, hN, h1⟩
          clear hO hN h1
          rintro T H ⟨aA, j10, hT, hO, hN, h1⟩
          refine bM hT ?_
          clear hT
          unfold fO at h1
          obtain ⟨rr1, hl1, h1⟩ := aT h1
          refine eE (by kernel_rfl) (fun (s : List Int × Int) T H => Has T [(0, (.msl 1 lo0p 0 (List.length s.1))), (1, (eI a1)), (2, (eI b2)), (7, (eI i7)), (8, (eI j8)), (10, (eI s.2))] ∧ aJ ⟨H0, [lo0p], []⟩ H [(lo0p, 1, List.map (eI) s.1)] ∧ List.length s.1 = N0) hl1 ⟨.eq (by kernel_rfl), hO, hN⟩ ?_
          clear hO hN
          rintro k1 s out2 T H ⟨hT, hO, hN⟩ h2 ho1
          obtain ⟨aA, j10⟩ := s
          replace h2 : cM a1 b2 i7 j8 aA j10 = some out2 := h2
          try dsimp only at hT
          refine bM hT ?_
          clear hT
          unfold cM at h2
          refine aM ?_
          refine aS aC 3 [] [(103, (aB (decide (j10 < b2))))] ?_
          refine bP h2 (fun h2 => ?_) (fun h2 => ?_)
          · refine bQ ?_
            refine bE [(0, (.msl 1 lo0p 0 (List.length aA))), (1, (eI a1)), (2, (eI b2)), (7, (eI i7)), (8, (eI j8)), (10, (eI j10))] ?_
            refine aM ?_
            refine cI 7 ?_
            refine aM ?_
            refine aM ?_
            refine gQ (gM [115]) aC 11 ?_
            obtain ⟨c10, h2⟩ := aY h2
            refine cJ 3 [0 ≤ j10 ∧ j10 < (lN aA)] ⟨c10, trivial⟩ ?_
            refine gO 0 lo0p 1 (0 + Int.toNat j10) (eI (gD aA j10)) (eI (gD aA j10)) (List.map (eI) aA) hO (bX c10) ?_
            obtain ⟨c11, h2⟩ := aY h2
            refine cJ 8 [0 ≤ (wR (j10 - (1 : Int))) ∧ (wR (j10 - (1 : Int))) < (lN aA)] ⟨c11, trivial⟩ ?_
            refine gO 0 lo0p 1 (0 + Int.toNat (wR (j10 - (1 : Int)))) (eI (gD aA (wR (j10 - (1 : Int))))) (eI (gD aA (wR (j10 - (1 : Int))))) (List.map (eI) aA) hO (bX c11) ?_
            obtain ⟨x12, hx13, h2⟩ := aT h2
            refine xT (fF (gD aA j10) (gD aA (wR (j10 - (1 : Int)))) _ hx13) hO ?_
            intro H hO
            refine kT ?_
            refine cC [] [(116, (aB (!x12)))] ?_
            refine bP h2 (fun h2 => ?_) (fun h2 => ?_)
            · refine jI 6 ?_
              obtain rfl := oI h2
              obtain rfl : _ = rr1 := ho1
              replace h1 : dH aA a1 b2 i7 j8 = some out1 := h1
              exact aD (aV (qJ (by kernel_rfl) (aV (aV (cH (aU (aF (⟨rfl, _, _, .eq (by kernel_rfl), hO, hN, h1⟩))))))))
            refine bQ ?_
            refine bE [(0, (.msl 1 lo0p 0 (List.length aA))), (1, (eI a1)), (2, (eI b2)), (7, (eI i7)), (8, (eI j8)), (10, (eI j10))] ?_
            refine gQ (gM []) aC 18 ?_
            obtain ⟨c16, h2⟩ := aY h2
            refine cJ 9 [0 ≤ (wR (j10 - (1 : Int))) ∧ (wR (j10 - (1 : Int))) < (lN aA)] ⟨c16, trivial⟩ ?_
            refine gO 0 lo0p 1 (0 + Int.toNat (wR (j10 - (1 : Int)))) (eI (gD aA (wR (j10 - (1 : Int))))) (eI (gD aA (wR (j10 - (1 : Int))))) (List.map (eI) aA) hO (bX c16) ?_
            obtain ⟨c17, h2⟩ := aY h2
            refine cJ 13 [0 ≤ j10 ∧ j10 < (lN aA)] ⟨c17, trivial⟩ ?_
            refine gO 0 lo0p 1 (0 + Int.toNat j10) (eI (gD aA j10)) (eI (gD aA j10)) (List.map (eI) aA) hO (bX c17) ?_
            obtain ⟨c18, h2⟩ := aY h2
            refine cJ 15 [0 ≤ j10 ∧ j10 < (lN aA)] ⟨c18, trivial⟩ ?_
            refine kH 0 lo0p 1 (0 + Int.toNat j10) (eI (gD aA j10)) (eI (gD aA (wR (j10 - (1 : Int))))) (List.map (eI) aA) [(lo0p, 1, List.map (eI) (List.set aA (Int.toNat j10) (gD aA (wR (j10 - (1 : Int))))))] hO (bX c18) (by simp only [List.set, gV]) ?_
            intro H hO
            replace hN : List.length (List.set aA (Int.toNat j10) (gD aA (wR (j10 - (1 : Int))))) = N0 := by simpa using hN
            obtain ⟨c19, h2⟩ := aY h2
            refine cJ 17 [0 ≤ (wR (j10 - (1 : Int))) ∧ (wR (j10 - (1 : Int))) < (lN aA)] ⟨c19, trivial⟩ ?_
            refine kH 0 lo0p 1 (0 + Int.toNat (wR (j10 - (1 : Int)))) (eI (gD (List.set aA (Int.toNat j10) (gD aA (wR (j10 - (1 : Int))))) (wR (j10 - (1 : Int))))) (eI (gD aA j10)) (List.map (eI) (List.set aA (Int.toNat j10) (gD aA (wR (j10 - (1 : Int)))))) [(lo0p, 1, List.map (eI) (List.set (List.set aA (Int.toNat j10) (gD aA (wR (j10 - (1 : Int))))) (Int.toNat (wR (j10 - (1 : Int)))) (gD aA j10)))] hO (lV c19 (by simp [])) (by simp only [List.set, gV]) ?_
            intro H hO
            replace hN : List.length (List.set (List.set aA (Int.toNat j10) (gD aA (wR (j10 - (1 : Int))))) (Int.toNat (wR (j10 - (1 : Int)))) (gD aA j10)) = N0 := by simpa using hN
            refine mK (by kernel_rfl) ?_
            refine eF (l := [(0, (.msl 1 lo0p 0 (List.length (List.set (List.set aA (Int.toNat j10) (gD aA (wR (j10 - (1 : Int))))) (Int.toNat (wR (j10 - (1 : Int)))) (gD aA j10))))), (1, (eI a1)), (2, (eI b2)), (7, (eI i7)), (8, (eI j8)), (10, (eI j10))]) ⟨[(0, (.msl 1 lo0p 0 (List.length aA))), (1, (eI a1)), (2, (eI b2)), (7, (eI i7)), (8, (eI j8)), (10, (eI j10))], by kernel_rfl, rfl, ⟨aL.eq (by simp []), aL.refl _, aL.refl _, aL.refl _, aL.refl _, aL.refl _, trivial⟩⟩ ?_
            refine aD (aU (aF (?_)))
            refine aQ aC 3 ?_
            refine bC ?_
            exact aD (aF (⟨rfl, _, (oI h2).symm, .eq (by kernel_rfl), hO, hN⟩))
          refine jI 6 ?_
          obtain rfl := oI h2
          obtain rfl : _ = rr1 := ho1
          replace h1 : dH aA a1 b2 i7 j8 = some out1 := h1
          exact aD (aV (aV (cH (aU (aF (⟨rfl, _, _, .eq (by kernel_rfl), hO, hN, h1⟩))))))
        refine bQ ?_
        exact aD (aU (aF (⟨rfl, _, _, .eq (by kernel_rfl), hO, hN, h1⟩)))
      refine aS aC 4 [] [(61, (aB (decide ((2 : Int) ≤ (wR (i7 - a1))))))] ?_
      refine bP h1 (fun h1 => ?_) (fun h1 => ?_)
      · refine aS aC 3 [61] [(9, (eI (wR (i7 - (1 : Int)))))] ?_
        refine cI 4 ?_
        refine iA [(0, (.msl 1 lo0p 0 (List.length (List.set (List.set aA (Int.toNat i7) (gD aA (wR (i7 - (1 : Int))))) (Int.toNat (wR (i7 - (1 : Int)))) (gD aA i7))))), (1, (eI a1)), (2, (eI b2)), (7, (eI i7)), (8, (eI j8)), (9, (eI (wR (i7 - (1 : Int)))))] ?_
        refine gY (fun T H => ∃ aA : List Int, ∃ j9 : Int, Has T [(0, (.msl 1 lo0p 0 (List.length aA))), (1, (eI a1)), (2, (eI b2)), (7, (eI i7)), (8, (eI j8)), (9, (eI j9))] ∧ aJ ⟨H0, [lo0p], []⟩ H [(lo0p, 1, List.map (eI) aA)] ∧ List.length aA = N0 ∧ fN aA a1 b2 i7 j8 j9 = some out1) ?_ ⟨List.set (List.set aA (Int.toNat i7) (gD aA (wR (i7 - (1 : Int))))) (Int.toNat (wR (i7 - (1 : Int)))) (gD aA i7), wR (i7 - (1 : Int)), .eq (by kernel_rfl), hO, hN, h1⟩
        clear hO hN h1
        rintro T H ⟨aA, j9, hT, hO, hN, h1⟩
        refine bM hT ?_
        clear hT
        unfold fN at h1
        obtain ⟨rr1, hl1, h1⟩ := aT h1
        refine eE (by kernel_rfl) (fun (s : List Int × Int) T H => Has T [(0, (.msl 1 lo0p 0 (List.length s.1))), (1, (eI a1)), (2, (eI b2)), (7, (eI i7)), (8, (eI j8)), (9, (eI s.2))] ∧ aJ ⟨H0, [lo0p], []⟩ H [(lo0p, 1, List.map (eI) s.1)] ∧ List.length s.1 = N0) hl1 ⟨.eq (by kernel_rfl), hO, hN⟩ ?_
        clear hO hN
        rintro k1 s out2 T H ⟨hT, hO, hN⟩ h2 ho1
        obtain ⟨aA, j9⟩ := s
        replace h2 : cE a1 b2 i7 j8 aA j9 = some out2 := h2
        try dsimp only at hT
        refine bM hT ?_
        clear hT
        unfold cE at h2
        refine aM ?_
        refine aS aC 2 [] [(65, (aB (decide ((1 : Int) ≤ j9))))] ?_
        refine bP h2 (fun h2 => ?_) (fun h2 => ?_)
        · refine bQ ?_
          refine bE [(0, (.msl 1 lo0p 0 (List.length aA))), (1, (eI a1)), (2, (eI b2)), (7, (eI i7)), (8, (eI j8)), (9, (eI j9))] ?_
          refine aM ?_
          refine cI 5 ?_
          refine aM ?_
          refine aM ?_
          refine gQ (gM [77]) aC 11 ?_
          obtain ⟨c22, h2⟩ := aY h2
          refine cJ 3 [0 ≤ j9 ∧ j9 < (lN aA)] ⟨c22, trivial⟩ ?_
          refine gO 0 lo0p 1 (0 + Int.toNat j9) (eI (gD aA j9)) (eI (gD aA j9)) (List.map (eI) aA) hO (bX c22) ?_
          obtain ⟨c23, h2⟩ := aY h2
          refine cJ 8 [0 ≤ (wR (j9 - (1 : Int))) ∧ (wR (j9 - (1 : Int))) < (lN aA)] ⟨c23, trivial⟩ ?_
          refine gO 0 lo0p 1 (0 + Int.toNat (wR (j9 - (1 : Int)))) (eI (gD aA (wR (j9 - (1 : Int))))) (eI (gD aA (wR (j9 - (1 : Int))))) (List.map (eI) aA) hO (bX c23) ?_
          obtain ⟨x24, hx25, h2⟩ := aT h2
          refine xT (fF (gD aA j9) (gD aA (wR (j9 - (1 : Int)))) _ hx25) hO ?_
          intro H hO
          refine kT ?_
          refine cC [] [(78, (aB (!x24)))] ?_
          refine bP h2 (fun h2 => ?_) (fun h2 => ?_)
          · refine jI 4 ?_
            obtain rfl := oI h2
            obtain rfl : _ = rr1 := ho1
            replace h1 : cF aA a1 b2 i7 j8 = some out1 := h1
            exact aD (aV (qJ (by kernel_rfl) (aV (aV (cH (aF (⟨rfl, _, .eq (by kernel_rfl), hO, hN, h1⟩)))))))
          refine bQ ?_
          refine bE [(0, (.msl 1 lo0p 0 (List.length aA))), (1, (eI a1)), (2, (eI b2)), (7, (eI i7)), (8, (eI j8)), (9, (eI j9))] ?_
          refine gQ (gM []) aC 18 ?_
          obtain ⟨c28, h2⟩ := aY h2
          refine cJ 9 [0 ≤ (wR (j9 - (1 : Int))) ∧ (wR (j9 - (1 : Int))) < (lN aA)] ⟨c28, trivial⟩ ?_
          refine gO 0 lo0p 1 (0 + Int.toNat (wR (j9 - (1 : Int)))) (eI (gD aA (wR (j9 - (1 : Int))))) (eI (gD aA (wR (j9 - (1 : Int))))) (List.map (eI) aA) hO (bX c28) ?_
          obtain ⟨c29, h2⟩ := aY h2
          refine cJ 13 [0 ≤ j9 ∧ j9 < (lN aA)] ⟨c29, trivial⟩ ?_
          refine gO 0 lo0p 1 (0 + Int.toNat j9) (eI (gD aA j9)) (eI (gD aA j9)) (List.map (eI) aA) hO (bX c29) ?_
          obtain ⟨c30, h2⟩ := aY h2
          refine cJ 15 [0 ≤ j9 ∧ j9 < (lN aA)] ⟨c30, trivial⟩ ?_
          refine kH 0 lo0p 1 (0 + Int.toNat j9) (eI (gD aA j9)) (eI (gD aA (wR (j9 - (1 : Int))))) (List.map (eI) aA) [(lo0p, 1, List.map (eI) (List.set aA (Int.toNat j9) (gD aA (wR (j9 - (1 : Int))))))] hO (bX c30) (by simp only [List.set, gV]) ?_
          intro H hO
          replace hN : List.length (List.set aA (Int.toNat j9) (gD aA (wR (j9 - (1 : Int))))) = N0 := by simpa using hN
          obtain ⟨c31, h2⟩ := aY h2
          refine cJ 17 [0 ≤ (wR (j9 - (1 : Int))) ∧ (wR (j9 - (1 : Int))) < (lN aA)] ⟨c31, trivial⟩ ?_
          refine kH 0 lo0p 1 (0 + Int.toNat (wR (j9 - (1 : Int)))) (eI (gD (List.set aA (Int.toNat j9) (gD aA (wR (j9 - (1 : Int))))) (wR (j9 - (1 : Int))))) (eI (gD aA j9)) (List.map (eI) (List.set aA (Int.toNat j9) (gD aA (wR (j9 - (1 : Int)))))) [(lo0p, 1, List.map (eI) (List.set (List.set aA (Int.toNat j9) (gD aA (wR (j9 - (1 : Int))))) (Int.toNat (wR (j9 - (1 : Int)))) (gD aA j9)))] hO (lV c31 (by simp [])) (by simp only [List.set, gV]) ?_
          intro H hO
          replace hN : List.length (List.set (List.set aA (Int.toNat j9) (gD aA (wR (j9 - (1 : Int))))) (Int.toNat (wR (j9 - (1 : Int)))) (gD aA j9)) = N0 := by simpa using hN
          refine mK (by kernel_rfl) ?_
          refine eF (l := [(0, (.msl 1 lo0p 0 (List.length (List.set (List.set aA (Int.toNat j9) (gD aA (wR (j9 - (1 : Int))))) (Int.toNat (wR (j9 - (1 : Int)))) (gD aA j9))))), (1, (eI a1)), (2, (eI b2)), (7, (eI i7)), (8, (eI j8)), (9, (eI j9))]) ⟨[(0, (.msl 1 lo0p 0 (List.length aA))), (1, (eI a1)), (2, (eI b2)), (7, (eI i7)), (8, (eI j8)), (9, (eI j9))], by kernel_rfl, rfl, ⟨aL.eq (by simp []), aL.refl _, aL.refl _, aL.refl _, aL.refl _, aL.refl _, trivial⟩⟩ ?_
          refine aD (aU (aF (?_)))
          refine aQ aC 3 ?_
          refine bC ?_
          exact aD (aF (⟨rfl, _, (oI h2).symm, .eq (by kernel_rfl), hO, hN⟩))
        refine jI 4 ?_
        obtain rfl := oI h2
        obtain rfl : _ = rr1 := ho1
        replace h1 : cF aA a1 b2 i7 j8 = some out1 := h1
        exact aD (aV (aV (cH (aF (⟨rfl, _, .eq (by kernel_rfl), hO, hN, h1⟩)))))
      refine bQ ?_
      exact aD (aF (⟨rfl, _, .eq (by kernel_rfl), hO, hN, h1⟩))
    refine cI 2 ?_
    refine iA [(0, (.msl 1 lo0p 0 (List.length aA))), (1, (eI a1)), (2, (eI b2)), (7, (eI i7)), (8, (eI j8))] ?_
    refine gY (fun T H => ∃ aA : List Int, ∃ i7 : Int, Has T [(0, (.msl 1 lo0p 0 (List.length aA))), (1, (eI a1)), (2, (eI b2)), (7, (eI i7)), (8, (eI j8))] ∧ aJ ⟨H0, [lo0p], []⟩ H [(lo0p, 1, List.map (eI) aA)] ∧ List.length aA = N0 ∧ cW aA a1 b2 i7 j8 = some out1) ?_ ⟨aA, i7, .eq (by kernel_rfl), hO, hN, h1⟩
    clear hO hN h1
    rintro T H ⟨aA, i7, hT, hO, hN, h1⟩
    refine bM hT ?_
    clear hT
    unfold cW at h1
    obtain ⟨rr1, hl1, h1⟩ := aT h1
    refine eE (by kernel_rfl) (fun (s : List Int × Int) T H => Has T [(0, (.msl 1 lo0p 0 (List.length s.1))), (1, (eI a1)), (2, (eI b2)), (7, (eI s.2)), (8, (eI j8))] ∧ aJ ⟨H0, [lo0p], []⟩ H [(lo0p, 1, List.map (eI) s.1)] ∧ List.length s.1 = N0) hl1 ⟨.eq (by kernel_rfl), hO, hN⟩ ?_
    clear hO hN
    rintro k1 s out2 T H ⟨hT, hO, hN⟩ h2 ho1
    obtain ⟨aA, i7⟩ := s
    replace h2 : cN a1 b2 j8 aA i7 = some out2 := h2
    try dsimp only at hT
    refine bM hT ?_
    clear hT
    unfold cN at h2
    refine aM ?_
    refine aM ?_
    obtain ⟨c32, h2⟩ := aY h2
    obtain ⟨c33, h2⟩ := aY h2
    obtain ⟨x34, hx35, h2⟩ := aT h2
    refine gQ (gM []) aC 16 ?_
    refine oK (K := fun T H => Has (lift T) [(0, (.msl 1 lo0p 0 (List.length aA))), (1, (eI a1)), (2, (eI b2)), (7, (eI i7)), (8, (eI j8)), (32, (aB ((decide (i7 < b2)) && (!x34))))] ∧ aJ ⟨H0, [lo0p], []⟩ H [(lo0p, 1, List.map (eI) aA)]) ?_ ?_
    · refine lC 4 ?_
      refine nQ (t := 20) (e := decide (i7 < b2)) (by kernel_rfl) (fun hg36 => ?_) (fun hg36 => ?_)
      · refine cJ 7 [0 ≤ i7 ∧ i7 < (lN aA)] ⟨(c32 hg36), trivial⟩ ?_
        refine jC 0 lo0p 1 (0 + Int.toNat i7) (eI (gD aA i7)) (eI (gD aA i7)) (List.map (eI) aA) (by kernel_rfl) (by kernel_rfl) (by kernel_rfl) hO (by kernel_rfl) (bX (c32 hg36)) ?_
        refine cJ 12 [0 ≤ (wR (i7 - (1 : Int))) ∧ (wR (i7 - (1 : Int))) < (lN aA)] ⟨(c33 hg36), trivial⟩ ?_
        refine jC 0 lo0p 1 (0 + Int.toNat (wR (i7 - (1 : Int)))) (eI (gD aA (wR (i7 - (1 : Int))))) (eI (gD aA (wR (i7 - (1 : Int))))) (List.map (eI) aA) (by kernel_rfl) (by kernel_rfl) (by kernel_rfl) hO (by kernel_rfl) (bX (c33 hg36)) ?_
        refine nP 84 [(eI (gD aA i7)), (eI (gD aA (wR (i7 - (1 : Int)))))] (aB x34) (by kernel_rfl) (by kernel_rfl) (fF (gD aA i7) (gD aA (wR (i7 - (1 : Int)))) _ (jO hx35 hg36)) hO ?_
        intro H hO
        refine kT ?_
        exact ⟨⟨[(0, (.msl 1 lo0p 0 (List.length aA))), (1, (eI a1)), (2, (eI b2)), (7, (eI i7)), (8, (eI j8)), (32, (aB (!x34)))], by kernel_rfl, rfl, ⟨aL.refl _, aL.refl _, aL.refl _, aL.refl _, aL.refl _, aL.eq (congrArg aB (lT hg36 rfl).symm), trivial⟩⟩, hO⟩
      refine kT ?_
      exact ⟨⟨[(0, (.msl 1 lo0p 0 (List.length aA))), (1, (eI a1)), (2, (eI b2)), (7, (eI i7)), (8, (eI j8)), (32, (aB false))], by kernel_rfl, rfl, ⟨aL.refl _, aL.refl _, aL.refl _, aL.refl _, aL.refl _, aL.eq (congrArg aB (lT hg36 rfl).symm), trivial⟩⟩, hO⟩
    · rintro T H ⟨hT, hO⟩
      refine eF hT ?_
      clear hT
      refine aD (aF ?_)
      refine bP h2 (fun h2 => ?_) (fun h2 => ?_)
      · refine bQ ?_
        refine bE [(0, (.msl 1 lo0p 0 (List.length aA))), (1, (eI a1)), (2, (eI b2)), (7, (eI i7)), (8, (eI j8))] ?_
        refine cI 3 ?_
        refine aQ aC 3 ?_
        refine bC ?_
        exact aD (aU (aF (⟨rfl, _, (oI h2).symm, .eq (by kernel_rfl), hO, hN⟩)))
      refine jI 2 ?_
      obtain rfl := oI h2
      obtain rfl : _ = rr1 := ho1
      replace h1 : eC aA a1 b2 i7 j8 = some out1 := h1
      exact aD (aV (aV (cH (aF (⟨rfl, _, _, .eq (by kernel_rfl), hO, hN, h1⟩)))))
  refine jI 0 ?_
  obtain rfl := oI h1
  obtain rfl : _ = rr0 := ho0
  replace h0 : eD aA = some r := h0
  exact aD (aV (aV (cH (aF (⟨rfl, _, .eq (by kernel_rfl), hO, hN, h0⟩)))))

end Go.Abs
namespace Go.Abs
open Go Go.RowKit Go.Proofs
theorem sF (lo0p : Nat) (aA : (List Int)) (a1 : Int) (b2 : Int) (cG : Int) (r : (Int × List Int)) (h0 : eR aA a1 b2 cG = some r) : lZ Try.prog 85 lo0p 1 (List.map (eI) aA) (List.map (eI) r.2) [(.msl 1 lo0p 0 (List.length aA)), (eI a1), (eI b2), (eI cG)] (eI r.1) := by
  intro H0 hl0
  refine dQ Try.func85 ?_
  have hO := aJ.rN hl0
  clear hl0
  obtain ⟨N0, hN0⟩ : ∃ n, n = List.length aA := ⟨_, rfl⟩
  have hN : List.length aA = N0 := hN0.symm
  unfold eR at h0
  refine aS aC 1 [] [] ?_
  refine aM ?_
  refine gQ (gM []) aC 16 ?_
  obtain ⟨c1, h0⟩ := aY h0
  refine cJ 7 [0 ≤ cG ∧ cG < (lN aA)] ⟨c1, trivial⟩ ?_
  refine gO 0 lo0p 1 (0 + Int.toNat cG) (eI (gD aA cG)) (eI (gD aA cG)) (List.map (eI) aA) hO (bX c1) ?_
  obtain ⟨c2, h0⟩ := aY h0
  refine cJ 11 [0 ≤ a1 ∧ a1 < (lN aA)] ⟨c2, trivial⟩ ?_
  refine gO 0 lo0p 1 (0 + Int.toNat a1) (eI (gD aA a1)) (eI (gD aA a1)) (List.map (eI) aA) hO (bX c2) ?_
  obtain ⟨c3, h0⟩ := aY h0
  refine cJ 13 [0 ≤ a1 ∧ a1 < (lN aA)] ⟨c3, trivial⟩ ?_
  refine kH 0 lo0p 1 (0 + Int.toNat a1) (eI (gD aA a1)) (eI (gD aA cG)) (List.map (eI) aA) [(lo0p, 1, List.map (eI) (List.set aA (Int.toNat a1) (gD aA cG)))] hO (bX c3) (by simp only [List.set, gV]) ?_
  intro H hO
  replace hN : List.length (List.set aA (Int.toNat a1) (gD aA cG)) = N0 := by simpa using hN
  obtain ⟨c4, h0⟩ := aY h0
  refine cJ 15 [0 ≤ cG ∧ cG < (lN aA)] ⟨c4, trivial⟩ ?_
  refine kH 0 lo0p 1 (0 + Int.toNat cG) (eI (gD (List.set aA (Int.toNat a1) (gD aA cG)) cG)) (eI (gD aA a1)) (List.map (eI) (List.set aA (Int.toNat a1) (gD aA cG))) [(lo0p, 1, List.map (eI) (List.set (List.set aA (Int.toNat a1) (gD aA cG)) (Int.toNat cG) (gD aA a1)))] hO (lV c4 (by simp [])) (by simp only [List.set, gV]) ?_
  intro H hO
  replace hN : List.length (List.set (List.set aA (Int.toNat a1) (gD aA cG)) (Int.toNat cG) (gD aA a1)) = N0 := by simpa using hN
  refine mK (by kernel_rfl) ?_
  refine eF (l := [(0, (.msl 1 lo0p 0 (List.length (List.set (List.set aA (Int.toNat a1) (gD aA cG)) (Int.toNat cG) (gD aA a1))))), (1, (eI a1)), (2, (eI b2))]) ⟨[(0, (.msl 1 lo0p 0 (List.length aA))), (1, (eI a1)), (2, (eI b2))], by kernel_rfl, rfl, ⟨aL.eq (by simp []), aL.refl _, aL.refl _, trivial⟩⟩ ?_
  refine aD (aF (?_))
  refine aS aC 6 [2] [(9, (eI (wR (a1 + (1 : Int))))), (10, (eI (wR (b2 - (1 : Int)))))] ?_
  refine iR (fun T H => ∃ aA : List Int, ∃ i9 : Int, Has T [(0, (.msl 1 lo0p 0 (List.length aA))), (9, (eI i9))] ∧ aJ ⟨H0, [lo0p], []⟩ H [(lo0p, 1, List.map (eI) aA)] ∧ List.length aA = N0 ∧ iK aA i9 = some r) ?_ ?_
  · clear hO hN h0
    rintro T H ⟨aA, i9, hT, hO, hN, h0⟩
    refine bM hT ?_
    clear hT
    unfold iK at h0
    refine aS aC 2 [9] [(8, (eI i9))] ?_
    refine bL ?_
    obtain rfl := oI h0
    exact aD (lG (x := (eI i9)) (by kernel_rfl) (aL.refl _) ⟨rfl, hO.ext, hO.at 0 (by kernel_rfl), by first | rfl | (simp only [List.length_map]; exact hN.trans hN0)⟩)
  refine cI 0 ?_
  refine iA [(0, (.msl 1 lo0p 0 (List.length (List.set (List.set aA (Int.toNat a1) (gD aA cG)) (Int.toNat cG) (gD aA a1))))), (1, (eI a1)), (9, (eI (wR (a1 + (1 : Int))))), (10, (eI (wR (b2 - (1 : Int)))))] ?_
  refine gY (fun T H => ∃ aA : List Int, ∃ i9 : Int, ∃ j10 : Int, Has T [(0, (.msl 1 lo0p 0 (List.length aA))), (1, (eI a1)), (9, (eI i9)), (10, (eI j10))] ∧ aJ ⟨H0, [lo0p], []⟩ H [(lo0p, 1, List.map (eI) aA)] ∧ List.length aA = N0 ∧ iN aA a1 i9 j10 = some r) ?_ ⟨List.set (List.set aA (Int.toNat a1) (gD aA cG)) (Int.toNat cG) (gD aA a1), wR (a1 + (1 : Int)), wR (b2 - (1 : Int)), .eq (by kernel_rfl), hO, hN, h0⟩
  clear hO hN h0
  rintro T H ⟨aA, i9, j10, hT, hO, hN, h0⟩
  refine bM hT ?_
  clear hT
  unfold iN at h0
  obtain ⟨rr0, hl0, h0⟩ := aT h0
  refine eE (by kernel_rfl) (fun (s : List Int × Int × Int) T H => Has T [(0, (.msl 1 lo0p 0 (List.length s.1))), (1, (eI a1)), (9, (eI s.2.1)), (10, (eI s.2.2))] ∧ aJ ⟨H0, [lo0p], []⟩ H [(lo0p, 1, List.map (eI) s.1)] ∧ List.length s.1 = N0) hl0 ⟨.eq (by kernel_rfl), hO, hN⟩ ?_
  clear hO hN
  rintro k0 s out1 T H ⟨hT, hO, hN⟩ h1 ho0
  obtain ⟨aA, i9, j10⟩ := s
  replace h1 : cQ a1 aA i9 j10 = some out1 := h1
  try dsimp only at hT
  refine bM hT ?_
  clear hT
  unfold cQ at h1
  refine cI 1 ?_
  refine iR (fun T H => ∃ aA : List Int, ∃ i9 : Int, Has T [(0, (.msl 1 lo0p 0 (List.length aA))), (1, (eI a1)), (9, (eI i9)), (10, (eI j10))] ∧ aJ ⟨H0, [lo0p], []⟩ H [(lo0p, 1, List.map (eI) aA)] ∧ List.length aA = N0 ∧ fH aA a1 i9 j10 = some out1) ?_ ?_
  · clear hO hN h1
    rintro T H ⟨aA, i9, hT, hO, hN, h1⟩
    refine bM hT ?_
    clear hT
    unfold fH at h1
    refine iR (fun T H => ∃ aA : List Int, ∃ j10 : Int, Has T [(0, (.msl 1 lo0p 0 (List.length aA))), (1, (eI a1)), (9, (eI i9)), (10, (eI j10))] ∧ aJ ⟨H0, [lo0p], []⟩ H [(lo0p, 1, List.map (eI) aA)] ∧ List.length aA = N0 ∧ dJ aA a1 i9 j10 = some out1) ?_ ?_
    · clear hO hN h1
      rintro T H ⟨aA, j10, hT, hO, hN, h1⟩
      refine bM hT ?_
      clear hT
      unfold dJ at h1
      refine aM ?_
      refine aS aC 3 [] [(64, (aB (decide (j10 < i9))))] ?_
      refine bP h1 (fun h1 => ?_) (fun h1 => ?_)
      · refine jI 0 ?_
        obtain rfl := oI h1
        obtain rfl : _ = rr0 := ho0
        replace h0 : iK aA i9 = some r := h0
        exact aD (aV (qJ (by kernel_rfl) (aV (cH (aF (⟨rfl, _, _, .eq (by kernel_rfl), hO, hN, h0⟩))))))
      refine bQ ?_
      refine bE [(0, (.msl 1 lo0p 0 (List.length aA))), (1, (eI a1)), (9, (eI i9)), (10, (eI j10))] ?_
      refine aM ?_
      refine gQ (gM []) aC 16 ?_
      obtain ⟨c6, h1⟩ := aY h1
      refine cJ 7 [0 ≤ j10 ∧ j10 < (lN aA)] ⟨c6, trivial⟩ ?_
      refine gO 0 lo0p 1 (0 + Int.toNat j10) (eI (gD aA j10)) (eI (gD aA j10)) (List.map (eI) aA) hO (bX c6) ?_
      obtain ⟨c7, h1⟩ := aY h1
      refine cJ 11 [0 ≤ i9 ∧ i9 < (lN aA)] ⟨c7, trivial⟩ ?_
      refine gO 0 lo0p 1 (0 + Int.toNat i9) (eI (gD aA i9)) (eI (gD aA i9)) (List.map (eI) aA) hO (bX c7) ?_
      obtain ⟨c8, h1⟩ := aY h1
      refine cJ 13 [0 ≤ i9 ∧ i9 < (lN aA)] ⟨c8, trivial⟩ ?_
      refine kH 0 lo0p 1 (0 + Int.toNat i9) (eI (gD aA i9)) (eI (gD aA j10)) (List.map (eI) aA) [(lo0p, 1, List.map (eI) (List.set aA (Int.toNat i9) (gD aA j10)))] hO (bX c8) (by simp only [List.set, gV]) ?_
      intro H hO
      replace hN : List.length (List.set aA (Int.toNat i9) (gD aA j10)) = N0 := by simpa using hN
      obtain ⟨c9, h1⟩ := aY h1
      refine cJ 15 [0 ≤ j10 ∧ j10 < (lN aA)] ⟨c9, trivial⟩ ?_
      refine kH 0 lo0p 1 (0 + Int.toNat j10) (eI (gD (List.set aA (Int.toNat i9) (gD aA j10)) j10)) (eI (gD aA i9)) (List.map (eI) (List.set aA (Int.toNat i9) (gD aA j10))) [(lo0p, 1, List.map (eI) (List.set (List.set aA (Int.toNat i9) (gD aA j10)) (Int.toNat j10) (gD aA i9)))] hO (lV c9 (by simp [])) (by simp only [List.set, gV]) ?_
      intro H hO
      replace hN : List.length (List.set (List.set aA (Int.toNat i9) (gD aA j10)) (Int.toNat j10) (gD aA i9)) = N0 := by simpa using hN
      refine mK (by kernel_rfl) ?_
      refine eF (l := [(0, (.msl 1 lo0p 0 (List.length (List.set (List.set aA (Int.toNat i9) (gD aA j10)) (Int.toNat j10) (gD aA i9))))), (1, (eI a1)), (9, (eI i9)), (10, (eI j10))]) ⟨[(0, (.msl 1 lo0p 0 (List.length aA))), (1, (eI a1)), (9, (eI i9)), (10, (eI j10))], by kernel_rfl, rfl, ⟨aL.eq (by simp []), aL.refl _, aL.refl _, aL.refl _, trivial⟩⟩ ?_
      refine aD (aF (?_))
      refine aS aC 3 [9] [(9, (eI (wR (i9 + (1 : Int)))))] ?_
      refine aQ aC 3 ?_
      refine bC ?_
      exact aD (aU (aF (⟨rfl, _, (oI h1).symm, .eq (by kernel_rfl), hO, hN⟩)))
    refine cI 4 ?_
    refine iA [(0, (.msl 1 lo0p 0 (List.length aA))), (1, (eI a1)), (9, (eI i9)), (10, (eI j10))] ?_
    refine gY (fun T H => ∃ aA : List Int, ∃ j10 : Int, Has T [(0, (.msl 1 lo0p 0 (List.length aA))), (1, (eI a1)), (9, (eI i9)), (10, (eI j10))] ∧ aJ ⟨H0, [lo0p], []⟩ H [(lo0p, 1, List.map (eI) aA)] ∧ List.length aA = N0 ∧ iL aA a1 i9 j10 = some out1) ?_ ⟨aA, j10, .eq (by kernel_rfl), hO, hN, h1⟩
    clear hO hN h1
    rintro T H ⟨aA, j10, hT, hO, hN, h1⟩
    refine bM hT ?_
    clear hT
    unfold iL at h1
    obtain ⟨rr1, hl1, h1⟩ := aT h1
    refine eE (by kernel_rfl) (fun (s : List Int × Int) T H => Has T [(0, (.msl 1 lo0p 0 (List.length s.1))), (1, (eI a1)), (9, (eI i9)), (10, (eI s.2))] ∧ aJ ⟨H0, [lo0p], []⟩ H [(lo0p, 1, List.map (eI) s.1)] ∧ List.length s.1 = N0) hl1 ⟨.eq (by kernel_rfl), hO, hN⟩ ?_
    clear hO hN
    rintro k1 s out2 T H ⟨hT, hO, hN⟩ h2 ho1
    obtain ⟨aA, j10⟩ := s
    replace h2 : dL a1 i9 aA j10 = some out2 := h2
    try dsimp only at hT
    refine bM hT ?_
    clear hT
    unfold dL at h2
    refine aM ?_
    refine aM ?_
    obtain ⟨c10, h2⟩ := aY h2
    obtain ⟨c11, h2⟩ := aY h2
    obtain ⟨x12, hx13, h2⟩ := aT h2
    refine gQ (gM []) aC 14 ?_
    refine oK (K := fun T H => Has (lift T) [(0, (.msl 1 lo0p 0 (List.length aA))), (1, (eI a1)), (9, (eI i9)), (10, (eI j10)), (59, (aB ((decide (i9 ≤ j10)) && x12)))] ∧ aJ ⟨H0, [lo0p], []⟩ H [(lo0p, 1, List.map (eI) aA)]) ?_ ?_
    · refine lC 4 ?_
      refine nQ (t := 49) (e := decide (i9 ≤ j10)) (by kernel_rfl) (fun hg14 => ?_) (fun hg14 => ?_)
      · refine cJ 7 [0 ≤ a1 ∧ a1 < (lN aA)] ⟨(c10 hg14), trivial⟩ ?_
        refine jC 0 lo0p 1 (0 + Int.toNat a1) (eI (gD aA a1)) (eI (gD aA a1)) (List.map (eI) aA) (by kernel_rfl) (by kernel_rfl) (by kernel_rfl) hO (by kernel_rfl) (bX (c10 hg14)) ?_
        refine cJ 11 [0 ≤ j10 ∧ j10 < (lN aA)] ⟨(c11 hg14), trivial⟩ ?_
        refine jC 0 lo0p 1 (0 + Int.toNat j10) (eI (gD aA j10)) (eI (gD aA j10)) (List.map (eI) aA) (by kernel_rfl) (by kernel_rfl) (by kernel_rfl) hO (by kernel_rfl) (bX (c11 hg14)) ?_
        refine nP 84 [(eI (gD aA a1)), (eI (gD aA j10))] (aB x12) (by kernel_rfl) (by kernel_rfl) (fF (gD aA a1) (gD aA j10) _ (jO hx13 hg14)) hO ?_
        intro H hO
        refine kT ?_
        exact ⟨⟨[(0, (.msl 1 lo0p 0 (List.length aA))), (1, (eI a1)), (9, (eI i9)), (10, (eI j10)), (59, (aB x12))], by kernel_rfl, rfl, ⟨aL.refl _, aL.refl _, aL.refl _, aL.refl _, aL.eq (congrArg aB (lT hg14 rfl).symm), trivial⟩⟩, hO⟩
      refine kT ?_
      exact ⟨⟨[(0, (.msl 1 lo0p 0 (List.length aA))), (1, (eI a1)), (9, (eI i9)), (10, (eI j10)), (59, (aB false))], by kernel_rfl, rfl, ⟨aL.refl _, aL.refl _, aL.refl _, aL.refl _, aL.eq (congrArg aB (lT hg14 rfl).symm), trivial⟩⟩, hO⟩
    · rintro T H ⟨hT, hO⟩
      refine eF hT ?_
      clear hT
      refine aD (aF ?_)
      refine bP h2 (fun h2 => ?_) (fun h2 => ?_)
      · refine bQ ?_
        refine bE [(0, (.msl 1 lo0p 0 (List.length aA))), (1, (eI a1)), (9, (eI i9)), (10, (eI j10))] ?_
        refine cI 5 ?_
        refine aQ aC 3 ?_
        refine bC ?_
        exact aD (aU (aF (⟨rfl, _, (oI h2).symm, .eq (by kernel_rfl), hO, hN⟩)))
      refine jI 4 ?_
      obtain rfl := oI h2
      obtain rfl : _ = rr1 := ho1
      replace h1 : dJ aA a1 i9 j10 = some out1 := h1
      exact aD (aV (aV (cH (aF (⟨rfl, _, _, .eq (by kernel_rfl), hO, hN, h1⟩)))))
  refine cI 2 ?_
  refine iA [(0, (.msl 1 lo0p 0 (List.length aA))), (1, (eI a1)), (9, (eI i9)), (10, (eI j10))] ?_
  refine gY (fun T H => ∃ aA : List Int, ∃ i9 : Int, Has T [(0, (.msl 1 lo0p 0 (List.length aA))), (1, (eI a1)), (9, (eI i9)), (10, (eI j10))] ∧ aJ ⟨H0, [lo0p], []⟩ H [(lo0p, 1, List.map (eI) aA)] ∧ List.length aA = N0 ∧ iM aA a1 i9 j10 = some out1) ?_ ⟨aA, i9, .eq (by kernel_rfl), hO, hN, h1⟩
  clear hO hN h1
  rintro T H ⟨aA, i9, hT, hO, hN, h1⟩
  refine bM hT ?_
  clear hT
  unfold iM at h1
  obtain ⟨rr1, hl1, h1⟩ := aT h1
  refine eE (by kernel_rfl) (fun (s : List Int × Int) T H => Has T [(0, (.msl 1 lo0p 0 (List.length s.1))), (1, (eI a1)), (9, (eI s.2)), (10, (eI j10))] ∧ aJ ⟨H0, [lo0p], []⟩ H [(lo0p, 1, List.map (eI) s.1)] ∧ List.length s.1 = N0) hl1 ⟨.eq (by kernel_rfl), hO, hN⟩ ?_
  clear hO hN
  rintro k1 s out2 T H ⟨hT, hO, hN⟩ h2 ho1
  obtain ⟨aA, i9⟩ := s
  replace h2 : dN a1 j10 aA i9 = some out2 := h2
  try dsimp only at hT
  refine bM hT ?_
  clear hT
  unfold dN at h2
  refine aM ?_
  refine aM ?_
  obtain ⟨c16, h2⟩ := aY h2
  obtain ⟨c17, h2⟩ := aY h2
  obtain ⟨x18, hx19, h2⟩ := aT h2
  refine gQ (gM []) aC 15 ?_
  refine oK (K := fun T H => Has (lift T) [(0, (.msl 1 lo0p 0 (List.length aA))), (1, (eI a1)), (9, (eI i9)), (10, (eI j10)), (43, (aB ((decide (i9 ≤ j10)) && (!x18))))] ∧ aJ ⟨H0, [lo0p], []⟩ H [(lo0p, 1, List.map (eI) aA)]) ?_ ?_
  · refine lC 4 ?_
    refine nQ (t := 32) (e := decide (i9 ≤ j10)) (by kernel_rfl) (fun hg20 => ?_) (fun hg20 => ?_)
    · refine cJ 7 [0 ≤ a1 ∧ a1 < (lN aA)] ⟨(c16 hg20), trivial⟩ ?_
      refine jC 0 lo0p 1 (0 + Int.toNat a1) (eI (gD aA a1)) (eI (gD aA a1)) (List.map (eI) aA) (by kernel_rfl) (by kernel_rfl) (by kernel_rfl) hO (by kernel_rfl) (bX (c16 hg20)) ?_
      refine cJ 11 [0 ≤ i9 ∧ i9 < (lN aA)] ⟨(c17 hg20), trivial⟩ ?_
      refine jC 0 lo0p 1 (0 + Int.toNat i9) (eI (gD aA i9)) (eI (gD aA i9)) (List.map (eI) aA) (by kernel_rfl) (by kernel_rfl) (by kernel_rfl) hO (by kernel_rfl) (bX (c17 hg20)) ?_
      refine nP 84 [(eI (gD aA a1)), (eI (gD aA i9))] (aB x18) (by kernel_rfl) (by kernel_rfl) (fF (gD aA a1) (gD aA i9) _ (jO hx19 hg20)) hO ?_
      intro H hO
      refine kT ?_
      exact ⟨⟨[(0, (.msl 1 lo0p 0 (List.length aA))), (1, (eI a1)), (9, (eI i9)), (10, (eI j10)), (43, (aB (!x18)))], by kernel_rfl, rfl, ⟨aL.refl _, aL.refl _, aL.refl _, aL.refl _, aL.eq (congrArg aB (lT hg20 rfl).symm), trivial⟩⟩, hO⟩
    refine kT ?_
    exact ⟨⟨[(0, (.msl 1 lo0p 0 (List.length aA))), (1, (eI a1)), (9, (eI i9)), (10, (eI j10)), (43, (aB false))], by kernel_rfl, rfl, ⟨aL.refl _, aL.refl _, aL.refl _, aL.refl _, aL.eq (congrArg aB (lT hg20 rfl).symm), trivial⟩⟩, hO⟩
  · rintro T H ⟨hT, hO⟩
    refine eF hT ?_
    clear hT
    refine aD (aF ?_)
    refine bP h2 (fun h2 => ?_) (fun h2 => ?_)
    · refine bQ ?_
      refine bE [(0, (.msl 1 lo0p 0 (List.length aA))), (1, (eI a1)), (9, (eI i9)), (10, (eI j10))] ?_
      refine cI 3 ?_
      refine aQ aC 3 ?_
      refine bC ?_
      exact aD (aU (aF (⟨rfl, _, (oI h2).symm, .eq (by kernel_rfl), hO, hN⟩)))
    refine jI 2 ?_
    obtain rfl := oI h2
    obtain rfl : _ = rr1 := ho1
    replace h1 : fH aA a1 i9 j10 = some out1 := h1
    exact aD (aV (aV (cH (aF (⟨rfl, _, _, .eq (by kernel_rfl), hO, hN, h1⟩)))))

theorem uC (lo0p : Nat) (aA : (List Int)) (a1 : Int) (b2 : Int) (cG : Int) (r : ((Int × Bool) × List Int)) (h0 : fT aA a1 b2 cG = some r) : lZ Try.prog 86 lo0p 1 (List.map (eI) aA) (List.map (eI) r.2) [(.msl 1 lo0p 0 (List.length aA)), (eI a1), (eI b2), (eI cG)] (.tup [(eI r.1.1), (aB r.1.2)]) := by
  intro H0 hl0
  refine dQ Try.func86 ?_
  have hO := aJ.rN hl0
  clear hl0
  obtain ⟨N0, hN0⟩ : ∃ n, n = List.length aA := ⟨_, rfl⟩
  have hN : List.length aA = N0 := hN0.symm
  unfold fT at h0
  refine aS aC 2 [] [] ?_
  refine aM ?_
  refine gQ (gM []) aC 16 ?_
  obtain ⟨c1, h0⟩ := aY h0
  refine cJ 7 [0 ≤ cG ∧ cG < (lN aA)] ⟨c1, trivial⟩ ?_
  refine gO 0 lo0p 1 (0 + Int.toNat cG) (eI (gD aA cG)) (eI (gD aA cG)) (List.map (eI) aA) hO (bX c1) ?_
  obtain ⟨c2, h0⟩ := aY h0
  refine cJ 11 [0 ≤ a1 ∧ a1 < (lN aA)] ⟨c2, trivial⟩ ?_
  refine gO 0 lo0p 1 (0 + Int.toNat a1) (eI (gD aA a1)) (eI (gD aA a1)) (List.map (eI) aA) hO (bX c2) ?_
  obtain ⟨c3, h0⟩ := aY h0
  refine cJ 13 [0 ≤ a1 ∧ a1 < (lN aA)] ⟨c3, trivial⟩ ?_
  refine kH 0 lo0p 1 (0 + Int.toNat a1) (eI (gD aA a1)) (eI (gD aA cG)) (List.map (eI) aA) [(lo0p, 1, List.map (eI) (List.set aA (Int.toNat a1) (gD aA cG)))] hO (bX c3) (by simp only [List.set, gV]) ?_
  intro H hO
  replace hN : List.length (List.set aA (Int.toNat a1) (gD aA cG)) = N0 := by simpa using hN
  obtain ⟨c4, h0⟩ := aY h0
  refine cJ 15 [0 ≤ cG ∧ cG < (lN aA)] ⟨c4, trivial⟩ ?_
  refine kH 0 lo0p 1 (0 + Int.toNat cG) (eI (gD (List.set aA (Int.toNat a1) (gD aA cG)) cG)) (eI (gD aA a1)) (List.map (eI) (List.set aA (Int.toNat a1) (gD aA cG))) [(lo0p, 1, List.map (eI) (List.set (List.set aA (Int.toNat a1) (gD aA cG)) (Int.toNat cG) (gD aA a1)))] hO (lV c4 (by simp [])) (by simp only [List.set, gV]) ?_
  intro H hO
  replace hN : List.length (List.set (List.set aA (Int.toNat a1) (gD aA cG)) (Int.toNat cG) (gD aA a1)) = N0 := by simpa using hN
  refine mK (by kernel_rfl) ?_
  refine eF (l := [(0, (.msl 1 lo0p 0 (List.length (List.set (List.set aA (Int.toNat a1) (gD aA cG)) (Int.toNat cG) (gD aA a1))))), (1, (eI a1)), (2, (eI b2))]) ⟨[(0, (.msl 1 lo0p 0 (List.length aA))), (1, (eI a1)), (2, (eI b2))], by kernel_rfl, rfl, ⟨aL.eq (by simp []), aL.refl _, aL.refl _, trivial⟩⟩ ?_
  refine aD (aF (?_))
  refine aS aC 6 [2] [(10, (eI (wR (a1 + (1 : Int))))), (11, (eI (wR (b2 - (1 : Int)))))] ?_
  refine iR (fun T H => ∃ aA : List Int, ∃ i10 : Int, ∃ j11 : Int, Has T [(0, (.msl 1 lo0p 0 (List.length aA))), (1, (eI a1)), (10, (eI i10)), (11, (eI j11))] ∧ aJ ⟨H0, [lo0p], []⟩ H [(lo0p, 1, List.map (eI) aA)] ∧ List.length aA = N0 ∧ iG aA a1 i10 j11 = some r) ?_ ?_
  · clear hO hN h0
    rintro T H ⟨aA, i10, j11, hT, hO, hN, h0⟩
    refine bM hT ?_
    clear hT
    unfold iG at h0
    refine iR (fun T H => ∃ aA : List Int, ∃ j11 : Int, Has T [(0, (.msl 1 lo0p 0 (List.length aA))), (1, (eI a1)), (10, (eI i10)), (11, (eI j11))] ∧ aJ ⟨H0, [lo0p], []⟩ H [(lo0p, 1, List.map (eI) aA)] ∧ List.length aA = N0 ∧ eH aA a1 i10 j11 = some r) ?_ ?_
    · clear hO hN h0
      rintro T H ⟨aA, j11, hT, hO, hN, h0⟩
      refine bM hT ?_
      clear hT
      unfold eH at h0
      refine aM ?_
      refine aS aC 3 [] [(65, (aB (decide (j11 < i10))))] ?_
      refine bP h0 (fun h0 => ?_) (fun h0 => ?_)
      · refine aM ?_
        refine gQ (gM []) aC 16 ?_
        obtain ⟨c6, h0⟩ := aY h0
        refine cJ 7 [0 ≤ a1 ∧ a1 < (lN aA)] ⟨c6, trivial⟩ ?_
        refine gO 0 lo0p 1 (0 + Int.toNat a1) (eI (gD aA a1)) (eI (gD aA a1)) (List.map (eI) aA) hO (bX c6) ?_
        obtain ⟨c7, h0⟩ := aY h0
        refine cJ 11 [0 ≤ j11 ∧ j11 < (lN aA)] ⟨c7, trivial⟩ ?_
        refine gO 0 lo0p 1 (0 + Int.toNat j11) (eI (gD aA j11)) (eI (gD aA j11)) (List.map (eI) aA) hO (bX c7) ?_
        obtain ⟨c8, h0⟩ := aY h0
        refine cJ 13 [0 ≤ j11 ∧ j11 < (lN aA)] ⟨c8, trivial⟩ ?_
        refine kH 0 lo0p 1 (0 + Int.toNat j11) (eI (gD aA j11)) (eI (gD aA a1)) (List.map (eI) aA) [(lo0p, 1, List.map (eI) (List.set aA (Int.toNat j11) (gD aA a1)))] hO (bX c8) (by simp only [List.set, gV]) ?_
        intro H hO
        replace hN : List.length (List.set aA (Int.toNat j11) (gD aA a1)) = N0 := by simpa using hN
        obtain ⟨c9, h0⟩ := aY h0
        refine cJ 15 [0 ≤ a1 ∧ a1 < (lN aA)] ⟨c9, trivial⟩ ?_
        refine kH 0 lo0p 1 (0 + Int.toNat a1) (eI (gD (List.set aA (Int.toNat j11) (gD aA a1)) a1)) (eI (gD aA j11)) (List.map (eI) (List.set aA (Int.toNat j11) (gD aA a1))) [(lo0p, 1, List.map (eI) (List.set (List.set aA (Int.toNat j11) (gD aA a1)) (Int.toNat a1) (gD aA j11)))] hO (lV c9 (by simp [])) (by simp only [List.set, gV]) ?_
        intro H hO
        replace hN : List.length (List.set (List.set aA (Int.toNat j11) (gD aA a1)) (Int.toNat a1) (gD aA j11)) = N0 := by simpa using hN
        refine mK (by kernel_rfl) ?_
        refine eF (l := [(0, (.msl 1 lo0p 0 (List.length (List.set (List.set aA (Int.toNat j11) (gD aA a1)) (Int.toNat a1) (gD aA j11))))), (11, (eI j11))]) ⟨[(0, (.msl 1 lo0p 0 (List.length aA))), (11, (eI j11))], by kernel_rfl, rfl, ⟨aL.eq (by simp []), aL.refl _, trivial⟩⟩ ?_
        refine aD (aF (?_))
        refine aS aC 3 [11] [(8, (eI j11)), (9, (aB true))] ?_
        refine bL ?_
        obtain rfl := oI h0
        exact aD (aP (lG (x := (.tup [(eI j11), (aB true)])) (by kernel_rfl) (aL.refl _) ⟨rfl, hO.ext, hO.at 0 (by kernel_rfl), by simp only [List.length_map]; exact hN.trans hN0⟩))
      refine bQ ?_
      refine bE [(0, (.msl 1 lo0p 0 (List.length aA))), (1, (eI a1)), (10, (eI i10)), (11, (eI j11))] ?_
      refine aM ?_
      refine gQ (gM []) aC 16 ?_
      obtain ⟨c10, h0⟩ := aY h0
      refine cJ 7 [0 ≤ j11 ∧ j11 < (lN aA)] ⟨c10, trivial⟩ ?_
      refine gO 0 lo0p 1 (0 + Int.toNat j11) (eI (gD aA j11)) (eI (gD aA j11)) (List.map (eI) aA) hO (bX c10) ?_
      obtain ⟨c11, h0⟩ := aY h0
      refine cJ 11 [0 ≤ i10 ∧ i10 < (lN aA)] ⟨c11, trivial⟩ ?_
      refine gO 0 lo0p 1 (0 + Int.toNat i10) (eI (gD aA i10)) (eI (gD aA i10)) (List.map (eI) aA) hO (bX c11) ?_
      obtain ⟨c12, h0⟩ := aY h0
      refine cJ 13 [0 ≤ i10 ∧ i10 < (lN aA)] ⟨c12, trivial⟩ ?_
      refine kH 0 lo0p 1 (0 + Int.toNat i10) (eI (gD aA i10)) (eI (gD aA j11)) (List.map (eI) aA) [(lo0p, 1, List.map (eI) (List.set aA (Int.toNat i10) (gD aA j11)))] hO (bX c12) (by simp only [List.set, gV]) ?_
      intro H hO
      replace hN : List.length (List.set aA (Int.toNat i10) (gD aA j11)) = N0 := by simpa using hN
      obtain ⟨c13, h0⟩ := aY h0
      refine cJ 15 [0 ≤ j11 ∧ j11 < (lN aA)] ⟨c13, trivial⟩ ?_
      refine kH 0 lo0p 1 (0 + Int.toNat j11) (eI (gD (List.set aA (Int.toNat i10) (gD aA j11)) j11)) (eI (gD aA i10)) (List.map (eI) (List.set aA (Int.toNat i10) (gD aA j11))) [(lo0p, 1, List.map (eI) (List.set (List.set aA (Int.toNat i10) (gD aA j11)) (Int.toNat j11) (gD aA i10)))] hO (lV c13 (by simp [])) (by simp only [List.set, gV]) ?_
      intro H hO
      replace hN : List.length (List.set (List.set aA (Int.toNat i10) (gD aA j11)) (Int.toNat j11) (gD aA i10)) = N0 := by simpa using hN
      refine mK (by kernel_rfl) ?_
      refine eF (l := [(0, (.msl 1 lo0p 0 (List.length (List.set (List.set aA (Int.toNat i10) (gD aA j11)) (Int.toNat j11) (gD aA i10))))), (1, (eI a1)), (10, (eI i10)), (11, (eI j11))]) ⟨[(0, (.msl 1 lo0p 0 (List.length aA))), (1, (eI a1)), (10, (eI i10)), (11, (eI j11))], by kernel_rfl, rfl, ⟨aL.eq (by simp []), aL.refl _, aL.refl _, aL.refl _, trivial⟩⟩ ?_
      refine aD (aF (?_))
      refine aS aC 3 [10] [(10, (eI (wR (i10 + (1 : Int)))))] ?_
      refine aS aC 3 [11] [(11, (eI (wR (j11 - (1 : Int)))))] ?_
      refine iR (fun T H => ∃ aA : List Int, ∃ j11 : Int, Has T [(0, (.msl 1 lo0p 0 (List.length aA))), (1, (eI a1)), (11, (eI j11))] ∧ aJ ⟨H0, [lo0p], []⟩ H [(lo0p, 1, List.map (eI) aA)] ∧ List.length aA = N0 ∧ iF aA a1 j11 = some r) ?_ ?_
      · clear hO hN h0
        rintro T H ⟨aA, j11, hT, hO, hN, h0⟩
        refine bM hT ?_
        clear hT
        unfold iF at h0
        refine aM ?_
        refine gQ (gM []) aC 16 ?_
        obtain ⟨c14, h0⟩ := aY h0
        refine cJ 7 [0 ≤ a1 ∧ a1 < (lN aA)] ⟨c14, trivial⟩ ?_
        refine gO 0 lo0p 1 (0 + Int.toNat a1) (eI (gD aA a1)) (eI (gD aA a1)) (List.map (eI) aA) hO (bX c14) ?_
        obtain ⟨c15, h0⟩ := aY h0
        refine cJ 11 [0 ≤ j11 ∧ j11 < (lN aA)] ⟨c15, trivial⟩ ?_
        refine gO 0 lo0p 1 (0 + Int.toNat j11) (eI (gD aA j11)) (eI (gD aA j11)) (List.map (eI) aA) hO (bX c15) ?_
        obtain ⟨c16, h0⟩ := aY h0
        refine cJ 13 [0 ≤ j11 ∧ j11 < (lN aA)] ⟨c16, trivial⟩ ?_
        refine kH 0 lo0p 1 (0 + Int.toNat j11) (eI (gD aA j11)) (eI (gD aA a1)) (List.map (eI) aA) [(lo0p, 1, List.map (eI) (List.set aA (Int.toNat j11) (gD aA a1)))] hO (bX c16) (by simp only [List.set, gV]) ?_
        intro H hO
        replace hN : List.length (List.set aA (Int.toNat j11) (gD aA a1)) = N0 := by simpa using hN
        obtain ⟨c17, h0⟩ := aY h0
        refine cJ 15 [0 ≤ a1 ∧ a1 < (lN aA)] ⟨c17, trivial⟩ ?_
        refine kH 0 lo0p 1 (0 + Int.toNat a1) (eI (gD (List.set aA (Int.toNat j11) (gD aA a1)) a1)) (eI (gD aA j11)) (List.map (eI) (List.set aA (Int.toNat j11) (gD aA a1))) [(lo0p, 1, List.map (eI) (List.set (List.set aA (Int.toNat j11) (gD aA a1)) (Int.toNat a1) (gD aA j11)))] hO (lV c17 (by simp [])) (by simp only [List.set, gV]) ?_
        intro H hO
        replace hN : List.length (List.set (List.set aA (Int.toNat j11) (gD aA a1)) (Int.toNat a1) (gD aA j11)) = N0 := by simpa using hN
        refine mK (by kernel_rfl) ?_
        refine eF (l := [(0, (.msl 1 lo0p 0 (List.length (List.set (List.set aA (Int.toNat j11) (gD aA a1)) (Int.toNat a1) (gD aA j11))))), (11, (eI j11))]) ⟨[(0, (.msl 1 lo0p 0 (List.length aA))), (11, (eI j11))], by kernel_rfl, rfl, ⟨aL.eq (by simp []), aL.refl _, trivial⟩⟩ ?_
        refine aD (aF (?_))
        refine aS aC 3 [11] [(8, (eI j11)), (9, (aB false))] ?_
        refine bL ?_
        obtain rfl := oI h0
        exact aD (lG (x := (.tup [(eI j11), (aB false)])) (by kernel_rfl) (aL.refl _) ⟨rfl, hO.ext, hO.at 0 (by kernel_rfl), by simp only [List.length_map]; exact hN.trans hN0⟩)
      refine cI 4 ?_
      refine iA [(0, (.msl 1 lo0p 0 (List.length (List.set (List.set aA (Int.toNat i10) (gD aA j11)) (Int.toNat j11) (gD aA i10))))), (1, (eI a1)), (10, (eI (wR (i10 + (1 : Int))))), (11, (eI (wR (j11 - (1 : Int)))))] ?_
      refine gY (fun T H => ∃ aA : List Int, ∃ i10 : Int, ∃ j11 : Int, Has T [(0, (.msl 1 lo0p 0 (List.length aA))), (1, (eI a1)), (10, (eI i10)), (11, (eI j11))] ∧ aJ ⟨H0, [lo0p], []⟩ H [(lo0p, 1, List.map (eI) aA)] ∧ List.length aA = N0 ∧ jS aA a1 i10 j11 = some r) ?_ ⟨List.set (List.set aA (Int.toNat i10) (gD aA j11)) (Int.toNat j11) (gD aA i10), wR (i10 + (1 : Int)), wR (j11 - (1 : Int)), .eq (by kernel_rfl), hO, hN, h0⟩
      clear hO hN h0
      rintro T H ⟨aA, i10, j11, hT, hO, hN, h0⟩
      refine bM hT ?_
      clear hT
      unfold jS at h0
      obtain ⟨rr0, hl0, h0⟩ := aT h0
      refine eE (by kernel_rfl) (fun (s : List Int × Int × Int) T H => Has T [(0, (.msl 1 lo0p 0 (List.length s.1))), (1, (eI a1)), (10, (eI s.2.1)), (11, (eI s.2.2))] ∧ aJ ⟨H0, [lo0p], []⟩ H [(lo0p, 1, List.map (eI) s.1)] ∧ List.length s.1 = N0) hl0 ⟨.eq (by kernel_rfl), hO, hN⟩ ?_
      clear hO hN
      rintro k0 s out1 T H ⟨hT, hO, hN⟩ h1 ho0
      obtain ⟨aA, i10, j11⟩ := s
      replace h1 : dB a1 aA i10 j11 = some out1 := h1
      try dsimp only at hT
      refine bM hT ?_
      clear hT
      unfold dB at h1
      refine cI 5 ?_
      refine iR (fun T H => ∃ aA : List Int, ∃ i10 : Int, Has T [(0, (.msl 1 lo0p 0 (List.length aA))), (1, (eI a1)), (10, (eI i10)), (11, (eI j11))] ∧ aJ ⟨H0, [lo0p], []⟩ H [(lo0p, 1, List.map (eI) aA)] ∧ List.length aA = N0 ∧ iD aA a1 i10 j11 = some out1) ?_ ?_
      · clear hO hN h1
        rintro T H ⟨aA, i10, hT, hO, hN, h1⟩
        refine bM hT ?_
        clear hT
        unfold iD at h1
        refine iR (fun T H => ∃ aA : List Int, ∃ j11 : Int, Has T [(0, (.msl 1 lo0p 0 (List.length aA))), (1, (eI a1)), (10, (eI i10)), (11, (eI j11))] ∧ aJ ⟨H0, [lo0p], []⟩ H [(lo0p, 1, List.map (eI) aA)] ∧ List.length aA = N0 ∧ eO aA a1 i10 j11 = some out1) ?_ ?_
        · clear hO hN h1
          rintro T H ⟨aA, j11, hT, hO, hN, h1⟩
          refine bM hT ?_
          clear hT
          unfold eO at h1
          refine aM ?_
          refine aS aC 3 [] [(134, (aB (decide (j11 < i10))))] ?_
          refine bP h1 (fun h1 => ?_) (fun h1 => ?_)
          · refine jI 4 ?_
            obtain rfl := oI h1
            obtain rfl : _ = rr0 := ho0
            replace h0 : iF aA a1 j11 = some r := h0
            exact aD (aV (qJ (by kernel_rfl) (aV (cH (aF (⟨rfl, _, _, .eq (by kernel_rfl), hO, hN, h0⟩))))))
          refine bQ ?_
          refine bE [(0, (.msl 1 lo0p 0 (List.length aA))), (1, (eI a1)), (10, (eI i10)), (11, (eI j11))] ?_
          refine aM ?_
          refine gQ (gM []) aC 16 ?_
          obtain ⟨c19, h1⟩ := aY h1
          refine cJ 7 [0 ≤ j11 ∧ j11 < (lN aA)] ⟨c19, trivial⟩ ?_
          refine gO 0 lo0p 1 (0 + Int.toNat j11) (eI (gD aA j11)) (eI (gD aA j11)) (List.map (eI) aA) hO (bX c19) ?_
          obtain ⟨c20, h1⟩ := aY h1
          refine cJ 11 [0 ≤ i10 ∧ i10 < (lN aA)] ⟨c20, trivial⟩ ?_
          refine gO 0 lo0p 1 (0 + Int.toNat i10) (eI (gD aA i10)) (eI (gD aA i10)) (List.map (eI) aA) hO (bX c20) ?_
          obtain ⟨c21, h1⟩ := aY h1
          refine cJ 13 [0 ≤ i10 ∧ i10 < (lN aA)] ⟨c21, trivial⟩ ?_
          refine kH 0 lo0p 1 (0 + Int.toNat i10) (eI (gD aA i10)) (eI (gD aA j11)) (List.map (eI) aA) [(lo0p, 1, List.map (eI) (List.set aA (Int.toNat i10) (gD aA j11)))] hO (bX c21) (by simp only [List.set, gV]) ?_
          intro H hO
          replace hN : List.length (List.set aA (Int.toNat i10) (gD aA j11)) = N0 := by simpa using hN
          obtain ⟨c22, h1⟩ := aY h1
          refine cJ 15 [0 ≤ j11 ∧ j11 < (lN aA)] ⟨c22, trivial⟩ ?_
          refine kH 0 lo0p 1 (0 + Int.toNat j11) (eI (gD (List.set aA (Int.toNat i10) (gD aA j11)) j11)) (eI (gD aA i10)) (List.map (eI) (List.set aA (Int.toNat i10) (gD aA j11))) [(lo0p, 1, List.map (eI) (List.set (List.set aA (Int.toNat i10) (gD aA j11)) (Int.toNat j11) (gD aA i10)))] hO (lV c22 (by simp [])) (by simp only [List.set, gV]) ?_
          intro H hO
          replace hN : List.length (List.set (List.set aA (Int.toNat i10) (gD aA j11)) (Int.toNat j11) (gD aA i10)) = N0 := by simpa using hN
          refine mK (by kernel_rfl) ?_
          refine eF (l := [(0, (.msl 1 lo0p 0 (List.length (List.set (List.set aA (Int.toNat i10) (gD aA j11)) (Int.toNat j11) (gD aA i10))))), (1, (eI a1)), (10, (eI i10)), (11, (eI j11))]) ⟨[(0, (.msl 1 lo0p 0 (List.length aA))), (1, (eI a1)), (10, (eI i10)), (11, (eI j11))], by kernel_rfl, rfl, ⟨aL.eq (by simp []), aL.refl _, aL.refl _, aL.refl _, trivial⟩⟩ ?_
          refine aD (aF (?_))
          refine aS aC 3 [10] [(10, (eI (wR (i10 + (1 : Int)))))] ?_
          refine aQ aC 3 ?_
          refine bC ?_
          exact aD (aU (aF (⟨rfl, _, (oI h1).symm, .eq (by kernel_rfl), hO, hN⟩)))
        refine cI 8 ?_
        refine iA [(0, (.msl 1 lo0p 0 (List.length aA))), (1, (eI a1)), (10, (eI i10)), (11, (eI j11))] ?_
        refine gY (fun T H => ∃ aA : List Int, ∃ j11 : Int, Has T [(0, (.msl 1 lo0p 0 (List.length aA))), (1, (eI a1)), (10, (eI i10)), (11, (eI j11))] ∧ aJ ⟨H0, [lo0p], []⟩ H [(lo0p, 1, List.map (eI) aA)] ∧ List.length aA = N0 ∧ jQ aA a1 i10 j11 = some out1) ?_ ⟨aA, j11, .eq (by kernel_rfl), hO, hN, h1⟩
        clear hO hN h1
        rintro T H ⟨aA, j11, hT, hO, hN, h1⟩
        refine bM hT ?_
        clear hT
        unfold jQ at h1
        obtain ⟨rr1, hl1, h1⟩ := aT h1
        refine eE (by kernel_rfl) (fun (s : List Int × Int) T H => Has T [(0, (.msl 1 lo0p 0 (List.length s.1))), (1, (eI a1)), (10, (eI i10)), (11, (eI s.2))] ∧ aJ ⟨H0, [lo0p], []⟩ H [(lo0p, 1, List.map (eI) s.1)] ∧ List.length s.1 = N0) hl1 ⟨.eq (by kernel_rfl), hO, hN⟩ ?_
        clear hO hN
        rintro k1 s out2 T H ⟨hT, hO, hN⟩ h2 ho1
        obtain ⟨aA, j11⟩ := s
        replace h2 : eN a1 i10 aA j11 = some out2 := h2
        try dsimp only at hT
        refine bM hT ?_
        clear hT
        unfold eN at h2
        refine aM ?_
        refine aM ?_
        obtain ⟨c23, h2⟩ := aY h2
        obtain ⟨c24, h2⟩ := aY h2
        obtain ⟨x25, hx26, h2⟩ := aT h2
        refine gQ (gM []) aC 15 ?_
        refine oK (K := fun T H => Has (lift T) [(0, (.msl 1 lo0p 0 (List.length aA))), (1, (eI a1)), (10, (eI i10)), (11, (eI j11)), (129, (aB ((decide (i10 ≤ j11)) && (!x25))))] ∧ aJ ⟨H0, [lo0p], []⟩ H [(lo0p, 1, List.map (eI) aA)]) ?_ ?_
        · refine lC 4 ?_
          refine nQ (t := 118) (e := decide (i10 ≤ j11)) (by kernel_rfl) (fun hg27 => ?_) (fun hg27 => ?_)
          · refine cJ 7 [0 ≤ j11 ∧ j11 < (lN aA)] ⟨(c23 hg27), trivial⟩ ?_
            refine jC 0 lo0p 1 (0 + Int.toNat j11) (eI (gD aA j11)) (eI (gD aA j11)) (List.map (eI) aA) (by kernel_rfl) (by kernel_rfl) (by kernel_rfl) hO (by kernel_rfl) (bX (c23 hg27)) ?_
            refine cJ 11 [0 ≤ a1 ∧ a1 < (lN aA)] ⟨(c24 hg27), trivial⟩ ?_
            refine jC 0 lo0p 1 (0 + Int.toNat a1) (eI (gD aA a1)) (eI (gD aA a1)) (List.map (eI) aA) (by kernel_rfl) (by kernel_rfl) (by kernel_rfl) hO (by kernel_rfl) (bX (c24 hg27)) ?_
            refine nP 84 [(eI (gD aA j11)), (eI (gD aA a1))] (aB x25) (by kernel_rfl) (by kernel_rfl) (fF (gD aA j11) (gD aA a1) _ (jO hx26 hg27)) hO ?_
            intro H hO
            refine kT ?_
            exact ⟨⟨[(0, (.msl 1 lo0p 0 (List.length aA))), (1, (eI a1)), (10, (eI i10)), (11, (eI j11)), (129, (aB (!x25)))], by kernel_rfl, rfl, ⟨aL.refl _, aL.refl _, aL.refl _, aL.refl _, aL.eq (congrArg aB (lT hg27 rfl).symm), trivial⟩⟩, hO⟩
          refine kT ?_
          exact ⟨⟨[(0, (.msl 1 lo0p 0 (List.length aA))), (1, (eI a1)), (10, (eI i10)), (11, (eI j11)), (129, (aB false))], by kernel_rfl, rfl, ⟨aL.refl _, aL.refl _, aL.refl _, aL.refl _, aL.eq (congrArg aB (lT hg27 rfl).symm), trivial⟩⟩, hO⟩
        · rintro T H ⟨hT, hO⟩
          refine eF hT ?_
          clear hT
          refine aD (aF ?_)
          refine bP h2 (fun h2 => ?_) (fun h2 => ?_)
          · refine bQ ?_
            refine bE [(0, (.msl 1 lo0p 0 (List.length aA))), (1, (eI a1)), (10, (eI i10)), (11, (eI j11))] ?_
            refine cI 9 ?_
            refine aQ aC 3 ?_
            refine bC ?_
            exact aD (aU (aF (⟨rfl, _, (oI h2).symm, .eq (by kernel_rfl), hO, hN⟩)))
          refine jI 8 ?_
          obtain rfl := oI h2
          obtain rfl : _ = rr1 := ho1
          replace h1 : eO aA a1 i10 j11 = some out1 := h1
          exact aD (aV (aV (cH (aF (⟨rfl, _, _, .eq (by kernel_rfl), hO, hN, h1⟩)))))
      refine cI 6 ?_
      refine iA [(0, (.msl 1 lo0p 0 (List.length aA))), (1, (eI a1)), (10, (eI i10)), (11, (eI j11))] ?_
      refine gY (fun T H => ∃ aA : List Int, ∃ i10 : Int, Has T [(0, (.msl 1 lo0p 0 (List.length aA))), (1, (eI a1)), (10, (eI i10)), (11, (eI j11))] ∧ aJ ⟨H0, [lo0p], []⟩ H [(lo0p, 1, List.map (eI) aA)] ∧ List.length aA = N0 ∧ jN aA a1 i10 j11 = some out1) ?_ ⟨aA, i10, .eq (by kernel_rfl), hO, hN, h1⟩
      clear hO hN h1
      rintro T H ⟨aA, i10, hT, hO, hN, h1⟩
      refine bM hT ?_
      clear hT
      unfold jN at h1
      obtain ⟨rr1, hl1, h1⟩ := aT h1
      refine eE (by kernel_rfl) (fun (s : List Int × Int) T H => Has T [(0, (.msl 1 lo0p 0 (List.length s.1))), (1, (eI a1)), (10, (eI s.2)), (11, (eI j11))] ∧ aJ ⟨H0, [lo0p], []⟩ H [(lo0p, 1, List.map (eI) s.1)] ∧ List.length s.1 = N0) hl1 ⟨.eq (by kernel_rfl), hO, hN⟩ ?_
      clear hO hN
      rintro k1 s out2 T H ⟨hT, hO, hN⟩ h2 ho1
      obtain ⟨aA, i10⟩ := s
      replace h2 : eM a1 j11 aA i10 = some out2 := h2
      try dsimp only at hT
      refine bM hT ?_
      clear hT
      unfold eM at h2
      refine aM ?_
      refine aM ?_
      obtain ⟨c29, h2⟩ := aY h2
      obtain ⟨c30, h2⟩ := aY h2
      obtain ⟨x31, hx32, h2⟩ := aT h2
      refine gQ (gM []) aC 14 ?_
      refine oK (K := fun T H => Has (lift T) [(0, (.msl 1 lo0p 0 (List.length aA))), (1, (eI a1)), (10, (eI i10)), (11, (eI j11)), (112, (aB ((decide (i10 ≤ j11)) && x31)))] ∧ aJ ⟨H0, [lo0p], []⟩ H [(lo0p, 1, List.map (eI) aA)]) ?_ ?_
      · refine lC 4 ?_
        refine nQ (t := 102) (e := decide (i10 ≤ j11)) (by kernel_rfl) (fun hg33 => ?_) (fun hg33 => ?_)
        · refine cJ 7 [0 ≤ i10 ∧ i10 < (lN aA)] ⟨(c29 hg33), trivial⟩ ?_
          refine jC 0 lo0p 1 (0 + Int.toNat i10) (eI (gD aA i10)) (eI (gD aA i10)) (List.map (eI) aA) (by kernel_rfl) (by kernel_rfl) (by kernel_rfl) hO (by kernel_rfl) (bX (c29 hg33)) ?_
          refine cJ 11 [0 ≤ a1 ∧ a1 < (lN aA)] ⟨(c30 hg33), trivial⟩ ?_
          refine jC 0 lo0p 1 (0 + Int.toNat a1) (eI (gD aA a1)) (eI (gD aA a1)) (List.map (eI) aA) (by kernel_rfl) (by kernel_rfl) (by kernel_rfl) hO (by kernel_rfl) (bX (c30 hg33)) ?_
          refine nP 84 [(eI (gD aA i10)), (eI (gD aA a1))] (aB x31) (by kernel_rfl) (by kernel_rfl) (fF (gD aA i10) (gD aA a1) _ (jO hx32 hg33)) hO ?_
          intro H hO
          refine kT ?_
          exact ⟨⟨[(0, (.msl 1 lo0p 0 (List.length aA))), (1, (eI a1)), (10, (eI i10)), (11, (eI j11)), (112, (aB x31))], by kernel_rfl, rfl, ⟨aL.refl _, aL.refl _, aL.refl _, aL.refl _, aL.eq (congrArg aB (lT hg33 rfl).symm), trivial⟩⟩, hO⟩
        refine kT ?_
        exact ⟨⟨[(0, (.msl 1 lo0p 0 (List.length aA))), (1, (eI a1)), (10, (eI i10)), (11, (eI j11)), (112, (aB false))], by kernel_rfl, rfl, ⟨aL.refl _, aL.refl _, aL.refl _, aL.refl _, aL.eq (congrArg aB (lT hg33 rfl).symm), trivial⟩⟩, hO⟩
      · rintro T H ⟨hT, hO⟩
        refine eF hT ?_
        clear hT
        refine aD (aF ?_)
        refine bP h2 (fun h2 => ?_) (fun h2 => ?_)
        · refine bQ ?_
          refine bE [(0, (.msl 1 lo0p 0 (List.length aA))), (1, (eI a1)), (10, (eI i10)), (11, (eI j11))] ?_
          refine cI 7 ?_
          refine aQ aC 3 ?_
          refine bC ?_
          exact aD (aU (aF (⟨rfl, _, (oI h2).symm, .eq (by kernel_rfl), hO, hN⟩)))
        refine jI 6 ?_
        obtain rfl := oI h2
        obtain rfl : _ = rr1 := ho1
        replace h1 : iD aA a1 i10 j11 = some out1 := h1
        exact aD (aV (aV (cH (aF (⟨rfl, _, _, .eq (by kernel_rfl), hO, hN, h1⟩)))))
    refine cI 2 ?_
    refine iA [(0, (.msl 1 lo0p 0 (List.length aA))), (1, (eI a1)), (10, (eI i10)), (11, (eI j11))] ?_
    refine gY (fun T H => ∃ aA : List Int, ∃ j11 : Int, Has T [(0, (.msl 1 lo0p 0 (List.length aA))), (1, (eI a1)), (10, (eI i10)), (11, (eI j11))] ∧ aJ ⟨H0, [lo0p], []⟩ H [(lo0p, 1, List.map (eI) aA)] ∧ List.length aA = N0 ∧ jP aA a1 i10 j11 = some r) ?_ ⟨aA, j11, .eq (by kernel_rfl), hO, hN, h0⟩
    clear hO hN h0
    rintro T H ⟨aA, j11, hT, hO, hN, h0⟩
    refine bM hT ?_
    clear hT
    unfold jP at h0
    obtain ⟨rr0, hl0, h0⟩ := aT h0
    refine eE (by kernel_rfl) (fun (s : List Int × Int) T H => Has T [(0, (.msl 1 lo0p 0 (List.length s.1))), (1, (eI a1)), (10, (eI i10)), (11, (eI s.2))] ∧ aJ ⟨H0, [lo0p], []⟩ H [(lo0p, 1, List.map (eI) s.1)] ∧ List.length s.1 = N0) hl0 ⟨.eq (by kernel_rfl), hO, hN⟩ ?_
    clear hO hN
    rintro k0 s out1 T H ⟨hT, hO, hN⟩ h1 ho0
    obtain ⟨aA, j11⟩ := s
    replace h1 : eJ a1 i10 aA j11 = some out1 := h1
    try dsimp only at hT
    refine bM hT ?_
    clear hT
    unfold eJ at h1
    refine aM ?_
    refine aM ?_
    obtain ⟨c35, h1⟩ := aY h1
    obtain ⟨c36, h1⟩ := aY h1
    obtain ⟨x37, hx38, h1⟩ := aT h1
    refine gQ (gM []) aC 15 ?_
    refine oK (K := fun T H => Has (lift T) [(0, (.msl 1 lo0p 0 (List.length aA))), (1, (eI a1)), (10, (eI i10)), (11, (eI j11)), (60, (aB ((decide (i10 ≤ j11)) && (!x37))))] ∧ aJ ⟨H0, [lo0p], []⟩ H [(lo0p, 1, List.map (eI) aA)]) ?_ ?_
    · refine lC 4 ?_
      refine nQ (t := 49) (e := decide (i10 ≤ j11)) (by kernel_rfl) (fun hg39 => ?_) (fun hg39 => ?_)
      · refine cJ 7 [0 ≤ j11 ∧ j11 < (lN aA)] ⟨(c35 hg39), trivial⟩ ?_
        refine jC 0 lo0p 1 (0 + Int.toNat j11) (eI (gD aA j11)) (eI (gD aA j11)) (List.map (eI) aA) (by kernel_rfl) (by kernel_rfl) (by kernel_rfl) hO (by kernel_rfl) (bX (c35 hg39)) ?_
        refine cJ 11 [0 ≤ a1 ∧ a1 < (lN aA)] ⟨(c36 hg39), trivial⟩ ?_
        refine jC 0 lo0p 1 (0 + Int.toNat a1) (eI (gD aA a1)) (eI (gD aA a1)) (List.map (eI) aA) (by kernel_rfl) (by kernel_rfl) (by kernel_rfl) hO (by kernel_rfl) (bX (c36 hg39)) ?_
        refine nP 84 [(eI (gD aA j11)), (eI (gD aA a1))] (aB x37) (by kernel_rfl) (by kernel_rfl) (fF (gD aA j11) (gD aA a1) _ (jO hx38 hg39)) hO ?_
        intro H hO
        refine kT ?_
        exact ⟨⟨[(0, (.msl 1 lo0p 0 (List.length aA))), (1, (eI a1)), (10, (eI i10)), (11, (eI j11)), (60, (aB (!x37)))], by kernel_rfl, rfl, ⟨aL.refl _, aL.refl _, aL.refl _, aL.refl _, aL.eq (congrArg aB (lT hg39 rfl).symm), trivial⟩⟩, hO⟩
      refine kT ?_
      exact ⟨⟨[(0, (.msl 1 lo0p 0 (List.length aA))), (1, (eI a1)), (10, (eI i10)), (11, (eI j11)), (60, (aB false))], by kernel_rfl, rfl, ⟨aL.refl _, aL.refl _, aL.refl _, aL.refl _, aL.eq (congrArg aB (lT hg39 rfl).symm), trivial⟩⟩, hO⟩
    · rintro T H ⟨hT, hO⟩
      refine eF hT ?_
      clear hT
      refine aD (aF ?_)
      refine bP h1 (fun h1 => ?_) (fun h1 => ?_)
      · refine bQ ?_
        refine bE [(0, (.msl 1 lo0p 0 (List.length aA))), (1, (eI a1)), (10, (eI i10)), (11, (eI j11))] ?_
        refine cI 3 ?_
        refine aQ aC 3 ?_
        refine bC ?_
        exact aD (aU (aF (⟨rfl, _, (oI h1).symm, .eq (by kernel_rfl), hO, hN⟩)))
      refine jI 2 ?_
      obtain rfl := oI h1
      obtain rfl : _ = rr0 := ho0
      replace h0 : eH aA a1 i10 j11 = some r := h0
      exact aD (aV (aV (cH (aF (⟨rfl, _, _, .eq (by kernel_rfl), hO, hN, h0⟩)))))
  refine cI 0 ?_
  refine iA [(0, (.msl 1 lo0p 0 (List.length (List.set (List.set aA (Int.toNat a1) (gD aA cG)) (Int.toNat cG) (gD aA a1))))), (1, (eI a1)), (10, (eI (wR (a1 + (1 : Int))))), (11, (eI (wR (b2 - (1 : Int)))))] ?_
  refine gY (fun T H => ∃ aA : List Int, ∃ i10 : Int, ∃ j11 : Int, Has T [(0, (.msl 1 lo0p 0 (List.length aA))), (1, (eI a1)), (10, (eI i10)), (11, (eI j11))] ∧ aJ ⟨H0, [lo0p], []⟩ H [(lo0p, 1, List.map (eI) aA)] ∧ List.length aA = N0 ∧ fD aA a1 i10 j11 = some r) ?_ ⟨List.set (List.set aA (Int.toNat a1) (gD aA cG)) (Int.toNat cG) (gD aA a1), wR (a1 + (1 : Int)), wR (b2 - (1 : Int)), .eq (by kernel_rfl), hO, hN, h0⟩
  clear hO hN h0
  rintro T H ⟨aA, i10, j11, hT, hO, hN, h0⟩
  refine bM hT ?_
  clear hT
  unfold fD at h0
  obtain ⟨rr0, hl0, h0⟩ := aT h0
  refine eE (by kernel_rfl) (fun (s : List Int × Int) T H => Has T [(0, (.msl 1 lo0p 0 (List.length s.1))), (1, (eI a1)), (10, (eI s.2)), (11, (eI j11))] ∧ aJ ⟨H0, [lo0p], []⟩ H [(lo0p, 1, List.map (eI) s.1)] ∧ List.length s.1 = N0) hl0 ⟨.eq (by kernel_rfl), hO, hN⟩ ?_
  clear hO hN
  rintro k0 s out1 T H ⟨hT, hO, hN⟩ h1 ho0
  obtain ⟨aA, i10⟩ := s
  replace h1 : eB a1 j11 aA i10 = some out1 := h1
  try dsimp only at hT
  refine bM hT ?_
  clear hT
  unfold eB at h1
  refine aM ?_
  refine aM ?_
  obtain ⟨c41, h1⟩ := aY h1
  obtain ⟨c42, h1⟩ := aY h1
  obtain ⟨x43, hx44, h1⟩ := aT h1
  refine gQ (gM []) aC 14 ?_
  refine oK (K := fun T H => Has (lift T) [(0, (.msl 1 lo0p 0 (List.length aA))), (1, (eI a1)), (10, (eI i10)), (11, (eI j11)), (43, (aB ((decide (i10 ≤ j11)) && x43)))] ∧ aJ ⟨H0, [lo0p], []⟩ H [(lo0p, 1, List.map (eI) aA)]) ?_ ?_
  · refine lC 4 ?_
    refine nQ (t := 33) (e := decide (i10 ≤ j11)) (by kernel_rfl) (fun hg45 => ?_) (fun hg45 => ?_)
    · refine cJ 7 [0 ≤ i10 ∧ i10 < (lN aA)] ⟨(c41 hg45), trivial⟩ ?_
      refine jC 0 lo0p 1 (0 + Int.toNat i10) (eI (gD aA i10)) (eI (gD aA i10)) (List.map (eI) aA) (by kernel_rfl) (by kernel_rfl) (by kernel_rfl) hO (by kernel_rfl) (bX (c41 hg45)) ?_
      refine cJ 11 [0 ≤ a1 ∧ a1 < (lN aA)] ⟨(c42 hg45), trivial⟩ ?_
      refine jC 0 lo0p 1 (0 + Int.toNat a1) (eI (gD aA a1)) (eI (gD aA a1)) (List.map (eI) aA) (by kernel_rfl) (by kernel_rfl) (by kernel_rfl) hO (by kernel_rfl) (bX (c42 hg45)) ?_
      refine nP 84 [(eI (gD aA i10)), (eI (gD aA a1))] (aB x43) (by kernel_rfl) (by kernel_rfl) (fF (gD aA i10) (gD aA a1) _ (jO hx44 hg45)) hO ?_
      intro H hO
      refine kT ?_
      exact ⟨⟨[(0, (.msl 1 lo0p 0 (List.length aA))), (1, (eI a1)), (10, (eI i10)), (11, (eI j11)), (43, (aB x43))], by kernel_rfl, rfl, ⟨aL.refl _, aL.refl _, aL.refl _, aL.refl _, aL.eq (congrArg aB (lT hg45 rfl).symm), trivial⟩⟩, hO⟩
    refine kT ?_
    exact ⟨⟨[(0, (.msl 1 lo0p 0 (List.length aA))), (1, (eI a1)), (10, (eI i10)), (11, (eI j11)), (43, (aB false))], by kernel_rfl, rfl, ⟨aL.refl _, aL.refl _, aL.refl _, aL.refl _, aL.eq (congrArg aB (lT hg45 rfl).symm), trivial⟩⟩, hO⟩
  · rintro T H ⟨hT, hO⟩
    refine eF hT ?_
    clear hT
    refine aD (aF ?_)
    refine bP h1 (fun h1 => ?_) (fun h1 => ?_)
    · refine bQ ?_
      refine bE [(0, (.msl 1 lo0p 0 (List.length aA))), (1, (eI a1)), (10, (eI i10)), (11, (eI j11))] ?_
      refine cI 1 ?_
      refine aQ aC 3 ?_
      refine bC ?_
      exact aD (aU (aF (⟨rfl, _, (oI h1).symm, .eq (by kernel_rfl), hO, hN⟩)))
    refine jI 0 ?_
    obtain rfl := oI h1
    obtain rfl : _ = rr0 := ho0
    replace h0 : iG aA a1 i10 j11 = some r := h0
    exact aD (aV (aV (cH (aF (⟨rfl, _, _, _, .eq (by kernel_rfl), hO, hN, h0⟩)))))

theorem tH  (rec : (List Int) → Int → Int → Int → Option (List Int)) (ih : ∀ (lo0p : Nat) (aA : (List Int)) (a1 : Int) (b2 : Int) (bW : Int) (r : List Int), rec aA a1 b2 bW = some r → lZ Try.prog 61 lo0p 1 (List.map (eI) aA) (List.map (eI) r) [(.msl 1 lo0p 0 (List.length aA)), (eI a1), (eI b2), (eI bW)] (.tup [])) (lo0p : Nat) (aA : (List Int)) (a1 : Int) (b2 : Int) (bW : Int) (r : List Int) (h0 : fG rec aA a1 b2 bW = some r) : lZ Try.prog 61 lo0p 1 (List.map (eI) aA) (List.map (eI) r) [(.msl 1 lo0p 0 (List.length aA)), (eI a1), (eI b2), (eI bW)] (.tup []) := by
  intro H0 hl0
  refine dQ Try.func61 ?_
  have hO := aJ.rN hl0
  clear hl0
  obtain ⟨N0, hN0⟩ : ∃ n, n = List.length aA := ⟨_, rfl⟩
  have hN : List.length aA = N0 := hN0.symm
  unfold fG at h0
  refine aS aC 1 [] [(8, (aB true))] ?_
  refine aS aC 1 [] [(9, (aB true))] ?_
  refine cI 0 ?_
  refine iA [(0, (.msl 1 lo0p 0 (List.length aA))), (1, (eI a1)), (2, (eI b2)), (3, (eI bW)), (8, (aB true)), (9, (aB true))] ?_
  refine gY (fun T H => ∃ aA : List Int, ∃ a1 : Int, ∃ b2 : Int, ∃ bW : Int, ∃ bR : Bool, ∃ bI : Bool, Has T [(0, (.msl 1 lo0p 0 (List.length aA))), (1, (eI a1)), (2, (eI b2)), (3, (eI bW)), (8, (aB bR)), (9, (aB bI))] ∧ aJ ⟨H0, [lo0p], []⟩ H [(lo0p, 1, List.map (eI) aA)] ∧ List.length aA = N0 ∧ kJ rec aA a1 b2 bW bR bI = some r) ?_ ⟨aA, a1, b2, bW, true, true, .eq (by kernel_rfl), hO, hN, h0⟩
  clear hO hN h0
  rintro T H ⟨aA, a1, b2, bW, bR, bI, hT, hO, hN, h0⟩
  refine bM hT ?_
  clear hT
  unfold kJ at h0
  obtain ⟨rr0, hl0, h0⟩ := aT h0
  refine eE (by kernel_rfl) (fun (s : List Int × Int × Int × Int × Bool × Bool) T H => Has T [(0, (.msl 1 lo0p 0 (List.length s.1))), (1, (eI s.2.1)), (2, (eI s.2.2.1)), (3, (eI s.2.2.2.1)), (8, (aB s.2.2.2.2.1)), (9, (aB s.2.2.2.2.2))] ∧ aJ ⟨H0, [lo0p], []⟩ H [(lo0p, 1, List.map (eI) s.1)] ∧ List.length s.1 = N0) hl0 ⟨.eq (by kernel_rfl), hO, hN⟩ ?_
  clear hO hN
  rintro k0 s out1 T H ⟨hT, hO, hN⟩ h1 ho0
  obtain ⟨aA, a1, b2, bW, bR, bI⟩ := s
  replace h1 : dZ rec aA a1 b2 bW bR bI = some out1 := h1
  try dsimp only at hT
  refine bM hT ?_
  clear hT
  unfold dZ at h1
  refine cI 1 ?_
  refine aS aC 4 [] [(10, (eI (wR (b2 - a1))))] ?_
  refine aM ?_
  refine aS aC 2 [] [(23, (aB (decide ((wR (b2 - a1)) ≤ (12 : Int)))))] ?_
  refine bP h1 (fun h1 => ?_) (fun h1 => ?_)
  · refine aM ?_
    refine aQ aC 4 ?_
    refine bO 3 ?_
    obtain ⟨x2, hx3, h1⟩ := aT h1
    refine uF [(lo0p, 1, List.map (eI) x2)] 0 (sQ lo0p aA a1 b2 _ hx3) hO ?_
    intro H hO hl4
    simp only [List.length_map] at hl4
    replace hN := hl4.trans hN
    refine dY ?_
    refine eF (l := [(0, (.msl 1 lo0p 0 (List.length x2)))]) ⟨[(0, (.msl 1 lo0p 0 (List.length aA)))], by kernel_rfl, rfl, ⟨aL.eq (by simp [hl4]), trivial⟩⟩ ?_
    refine aD (aF (?_))
    refine bL ?_
    obtain rfl := oI h1
    obtain rfl : _ = rr0 := ho0
    replace h0 : some x2 = some r := h0
    obtain rfl := oI h0
    exact aD (aP (bG (aP (bG (lG (x := (.tup [])) (by kernel_rfl) (aL.refl _) ⟨rfl, hO.ext, hO.at 0 (by kernel_rfl), by simp only [List.length_map]; exact hN.trans hN0⟩)))))
  refine bQ ?_
  refine bE [(0, (.msl 1 lo0p 0 (List.length aA))), (1, (eI a1)), (2, (eI b2)), (3, (eI bW)), (8, (aB bR)), (9, (aB bI)), (10, (eI (wR (b2 - a1))))] ?_
  refine aM ?_
  refine aS aC 2 [] [(29, (aB (decide (bW = (0 : Int)))))] ?_
  refine bP h1 (fun h1 => ?_) (fun h1 => ?_)
  · refine aM ?_
    refine aQ aC 4 ?_
    refine bO 3 ?_
    obtain ⟨x6, hx7, h1⟩ := aT h1
    refine uF [(lo0p, 1, List.map (eI) x6)] 0 (uI lo0p aA a1 b2 _ hx7) hO ?_
    intro H hO hl8
    simp only [List.length_map] at hl8
    replace hN := hl8.trans hN
    refine dY ?_
    refine eF (l := [(0, (.msl 1 lo0p 0 (List.length x6)))]) ⟨[(0, (.msl 1 lo0p 0 (List.length aA)))], by kernel_rfl, rfl, ⟨aL.eq (by simp [hl8]), trivial⟩⟩ ?_
    refine aD (aF (?_))
    refine bL ?_
    obtain rfl := oI h1
    obtain rfl : _ = rr0 := ho0
    replace h0 : some x6 = some r := h0
    obtain rfl := oI h0
    exact aD (aP (bG (aP (bG (lG (x := (.tup [])) (by kernel_rfl) (aL.refl _) ⟨rfl, hO.ext, hO.at 0 (by kernel_rfl), by simp only [List.length_map]; exact hN.trans hN0⟩)))))
  refine bQ ?_
  refine bE [(0, (.msl 1 lo0p 0 (List.length aA))), (1, (eI a1)), (2, (eI b2)), (3, (eI bW)), (8, (aB bR)), (9, (aB bI)), (10, (eI (wR (b2 - a1))))] ?_
  refine iR (fun T H => ∃ aA : List Int, ∃ bW : Int, ∃ dO : Int, Has T [(0, (.msl 1 lo0p 0 (List.length aA))), (1, (eI a1)), (2, (eI b2)), (3, (eI bW)), (8, (aB bR)), (9, (aB bI)), (10, (eI dO))] ∧ aJ ⟨H0, [lo0p], []⟩ H [(lo0p, 1, List.map (eI) aA)] ∧ List.length aA = N0 ∧ gC rec aA a1 b2 bW bR bI dO = some out1) ?_ ?_
  · clear hO hN h1
    rintro T H ⟨aA, bW, dO, hT, hO, hN, h1⟩
    refine bM hT ?_
    clear hT
    unfold gC at h1
    refine aM ?_
    refine aQ aC 9 ?_
    refine bO 3 ?_
    obtain ⟨x9, hx10, h1⟩ := aT h1
    refine xR [] [0] (tK lo0p aA a1 b2 _ hx10) hO ?_
    intro r11 L12 H hP13 hO
    obtain ⟨rfl, rfl⟩ := hP13
    replace hO : aJ ⟨H0, [lo0p], []⟩ H [(lo0p, 1, List.map (eI) aA)] := hO
    refine bC ?_
    refine cC [] [(11, (eI x9.1)), (12, (eI x9.2))] ?_
    refine iR (fun T H => ∃ aA : List Int, ∃ fI : Int, ∃ yP : Int, Has T [(0, (.msl 1 lo0p 0 (List.length aA))), (1, (eI a1)), (2, (eI b2)), (3, (eI bW)), (8, (aB bR)), (9, (aB bI)), (10, (eI dO)), (11, (eI fI)), (12, (eI yP))] ∧ aJ ⟨H0, [lo0p], []⟩ H [(lo0p, 1, List.map (eI) aA)] ∧ List.length aA = N0 ∧ gH rec aA a1 b2 bW bR bI dO fI yP = some out1) ?_ ?_
    · clear hO hN h1
      rintro T H ⟨aA, fI, yP, hT, hO, hN, h1⟩
      refine bM hT ?_
      clear hT
      unfold gH at h1
      refine iR (fun T H => ∃ aA : List Int, Has T [(0, (.msl 1 lo0p 0 (List.length aA))), (1, (eI a1)), (2, (eI b2)), (3, (eI bW)), (8, (aB bR)), (9, (aB bI)), (10, (eI dO)), (11, (eI fI))] ∧ aJ ⟨H0, [lo0p], []⟩ H [(lo0p, 1, List.map (eI) aA)] ∧ List.length aA = N0 ∧ gF rec aA a1 b2 bW bR bI dO fI = some out1) ?_ ?_
      · clear hO hN h1
        rintro T H ⟨aA, hT, hO, hN, h1⟩
        refine bM hT ?_
        clear hT
        unfold gF at h1
        refine aM ?_
        refine aM ?_
        obtain ⟨c14, h1⟩ := aY h1
        obtain ⟨c15, h1⟩ := aY h1
        obtain ⟨x16, hx17, h1⟩ := aT h1
        refine gQ (gM []) aC 15 ?_
        refine oK (K := fun T H => Has (lift T) [(0, (.msl 1 lo0p 0 (List.length aA))), (1, (eI a1)), (2, (eI b2)), (3, (eI bW)), (8, (aB bR)), (9, (aB bI)), (10, (eI dO)), (11, (eI fI)), (87, (aB ((decide ((0 : Int) < a1)) && (!x16))))] ∧ aJ ⟨H0, [lo0p], []⟩ H [(lo0p, 1, List.map (eI) aA)]) ?_ ?_
        · refine lC 3 ?_
          refine nQ (t := 75) (e := decide ((0 : Int) < a1)) (by kernel_rfl) (fun hg18 => ?_) (fun hg18 => ?_)
          · refine cJ 7 [0 ≤ (wR (a1 - (1 : Int))) ∧ (wR (a1 - (1 : Int))) < (lN aA)] ⟨(c14 hg18), trivial⟩ ?_
            refine jC 0 lo0p 1 (0 + Int.toNat (wR (a1 - (1 : Int)))) (eI (gD aA (wR (a1 - (1 : Int))))) (eI (gD aA (wR (a1 - (1 : Int))))) (List.map (eI) aA) (by kernel_rfl) (by kernel_rfl) (by kernel_rfl) hO (by kernel_rfl) (bX (c14 hg18)) ?_
            refine cJ 11 [0 ≤ fI ∧ fI < (lN aA)] ⟨(c15 hg18), trivial⟩ ?_
            refine jC 0 lo0p 1 (0 + Int.toNat fI) (eI (gD aA fI)) (eI (gD aA fI)) (List.map (eI) aA) (by kernel_rfl) (by kernel_rfl) (by kernel_rfl) hO (by kernel_rfl) (bX (c15 hg18)) ?_
            refine nP 84 [(eI (gD aA (wR (a1 - (1 : Int))))), (eI (gD aA fI))] (aB x16) (by kernel_rfl) (by kernel_rfl) (fF (gD aA (wR (a1 - (1 : Int)))) (gD aA fI) _ (jO hx17 hg18)) hO ?_
            intro H hO
            refine kT ?_
            exact ⟨⟨[(0, (.msl 1 lo0p 0 (List.length aA))), (1, (eI a1)), (2, (eI b2)), (3, (eI bW)), (8, (aB bR)), (9, (aB bI)), (10, (eI dO)), (11, (eI fI)), (87, (aB (!x16)))], by kernel_rfl, rfl, ⟨aL.refl _, aL.refl _, aL.refl _, aL.refl _, aL.refl _, aL.refl _, aL.refl _, aL.refl _, aL.eq (congrArg aB (lT hg18 rfl).symm), trivial⟩⟩, hO⟩
          refine kT ?_
          exact ⟨⟨[(0, (.msl 1 lo0p 0 (List.length aA))), (1, (eI a1)), (2, (eI b2)), (3, (eI bW)), (8, (aB bR)), (9, (aB bI)), (10, (eI dO)), (11, (eI fI)), (87, (aB false))], by kernel_rfl, rfl, ⟨aL.refl _, aL.refl _, aL.refl _, aL.refl _, aL.refl _, aL.refl _, aL.refl _, aL.refl _, aL.eq (congrArg aB (lT hg18 rfl).symm), trivial⟩⟩, hO⟩
        · rintro T H ⟨hT, hO⟩
          refine eF hT ?_
          clear hT
          refine aD (aF ?_)
          refine bP h1 (fun h1 => ?_) (fun h1 => ?_)
          · refine aM ?_
            refine aQ aC 6 ?_
            refine bO 4 ?_
            obtain ⟨x20, hx21, h1⟩ := aT h1
            refine uF [(lo0p, 1, List.map (eI) x20.2)] 0 (sF lo0p aA a1 b2 fI _ hx21) hO ?_
            intro H hO hl22
            simp only [List.length_map] at hl22
            replace hN := hl22.trans hN
            refine bC ?_
            refine eF (l := [(0, (.msl 1 lo0p 0 (List.length x20.2))), (2, (eI b2)), (3, (eI bW)), (8, (aB bR)), (9, (aB bI)), (13, (eI x20.1))]) ⟨[(0, (.msl 1 lo0p 0 (List.length aA))), (2, (eI b2)), (3, (eI bW)), (8, (aB bR)), (9, (aB bI)), (13, (eI x20.1))], by kernel_rfl, rfl, ⟨aL.eq (by simp [hl22]), aL.refl _, aL.refl _, aL.refl _, aL.refl _, aL.refl _, trivial⟩⟩ ?_
            refine aD (aF (?_))
            refine aS aC 2 [13] [(1, (eI x20.1))] ?_
            refine jI 1 ?_
            exact aD (aV (cH (aF (⟨rfl, _, (oI h1).symm, .eq (by kernel_rfl), hO, hN⟩))))
          refine bQ ?_
          refine bE [(0, (.msl 1 lo0p 0 (List.length aA))), (1, (eI a1)), (2, (eI b2)), (3, (eI bW)), (10, (eI dO)), (11, (eI fI))] ?_
          refine aM ?_
          refine aQ aC 10 ?_
          refine bO 4 ?_
          obtain ⟨x23, hx24, h1⟩ := aT h1
          refine uF [(lo0p, 1, List.map (eI) x23.2)] 0 (uC lo0p aA a1 b2 fI _ hx24) hO ?_
          intro H hO hl25
          simp only [List.length_map] at hl25
          replace hN := hl25.trans hN
          refine bC ?_
          refine eF (l := [(0, (.msl 1 lo0p 0 (List.length x23.2))), (1, (eI a1)), (2, (eI b2)), (3, (eI bW)), (10, (eI dO)), (14, (eI x23.1.1)), (15, (aB x23.1.2))]) ⟨[(0, (.msl 1 lo0p 0 (List.length aA))), (1, (eI a1)), (2, (eI b2)), (3, (eI bW)), (10, (eI dO)), (14, (eI x23.1.1)), (15, (aB x23.1.2))], by kernel_rfl, rfl, ⟨aL.eq (by simp [hl25]), aL.refl _, aL.refl _, aL.refl _, aL.refl _, aL.refl _, aL.refl _, trivial⟩⟩ ?_
          refine aD (aF (?_))
          refine aS aC 2 [15] [(9, (aB x23.1.2))] ?_
          refine aS aC 8 [] [(16, (eI (wR (x23.1.1 - a1)))), (17, (eI (wR (b2 - x23.1.1))))] ?_
          refine aM ?_
          refine aQ aC 3 ?_
          obtain ⟨c26, h1⟩ := aY h1
          refine rL [(8 : Int) ≠ 0] ⟨c26, trivial⟩ ?_
          refine cC [10] [(18, (eI (wR (Int.tdiv dO (8 : Int)))))] ?_
          refine aS aC 3 [] [(113, (aB (decide ((wR (x23.1.1 - a1)) < (wR (b2 - x23.1.1))))))] ?_
          refine bP h1 (fun h1 => ?_) (fun h1 => ?_)
          · refine cO aC 4 [(0, (.msl 1 lo0p 0 (List.length x23.2))), (1, (eI a1)), (2, (eI b2)), (3, (eI bW)), (8, (aB (decide ((wR (Int.tdiv dO (8 : Int))) ≤ (wR (x23.1.1 - a1)))))), (9, (aB x23.1.2)), (14, (eI x23.1.1))] ?_
            refine aM ?_
            refine aQ aC 5 ?_
            refine bO 4 ?_
            obtain ⟨x28, hx29, h1⟩ := aT h1
            refine uF [(lo0p, 1, List.map (eI) x28)] 0 (ih lo0p x23.2 a1 x23.1.1 bW _ hx29) hO ?_
            intro H hO hl30
            simp only [List.length_map] at hl30
            replace hN := hl30.trans hN
            refine dY ?_
            refine eF (l := [(0, (.msl 1 lo0p 0 (List.length x28))), (2, (eI b2)), (3, (eI bW)), (8, (aB (decide ((wR (Int.tdiv dO (8 : Int))) ≤ (wR (x23.1.1 - a1)))))), (9, (aB x23.1.2)), (14, (eI x23.1.1))]) ⟨[(0, (.msl 1 lo0p 0 (List.length x23.2))), (2, (eI b2)), (3, (eI bW)), (8, (aB (decide ((wR (Int.tdiv dO (8 : Int))) ≤ (wR (x23.1.1 - a1)))))), (9, (aB x23.1.2)), (14, (eI x23.1.1))], by kernel_rfl, rfl, ⟨aL.eq (by simp [hl30]), aL.refl _, aL.refl _, aL.refl _, aL.refl _, aL.refl _, trivial⟩⟩ ?_
            refine aD (aF (?_))
            refine aQ aC 3 ?_
            refine bC ?_
            exact aD (aU (aF (⟨rfl, _, (oI h1).symm, .eq (by kernel_rfl), hO, hN⟩)))
          refine cO aC 4 [(0, (.msl 1 lo0p 0 (List.length x23.2))), (1, (eI a1)), (2, (eI b2)), (3, (eI bW)), (8, (aB (decide ((wR (Int.tdiv dO (8 : Int))) ≤ (wR (b2 - x23.1.1)))))), (9, (aB x23.1.2)), (14, (eI x23.1.1))] ?_
          refine aM ?_
          refine aQ aC 6 ?_
          refine bO 5 ?_
          obtain ⟨x31, hx32, h1⟩ := aT h1
          refine uF [(lo0p, 1, List.map (eI) x31)] 0 (ih lo0p x23.2 (wR (x23.1.1 + (1 : Int))) b2 bW _ hx32) hO ?_
          intro H hO hl33
          simp only [List.length_map] at hl33
          replace hN := hl33.trans hN
          refine dY ?_
          refine eF (l := [(0, (.msl 1 lo0p 0 (List.length x31))), (1, (eI a1)), (3, (eI bW)), (8, (aB (decide ((wR (Int.tdiv dO (8 : Int))) ≤ (wR (b2 - x23.1.1)))))), (9, (aB x23.1.2)), (14, (eI x23.1.1))]) ⟨[(0, (.msl 1 lo0p 0 (List.length x23.2))), (1, (eI a1)), (3, (eI bW)), (8, (aB (decide ((wR (Int.tdiv dO (8 : Int))) ≤ (wR (b2 - x23.1.1)))))), (9, (aB x23.1.2)), (14, (eI x23.1.1))], by kernel_rfl, rfl, ⟨aL.eq (by simp [hl33]), aL.refl _, aL.refl _, aL.refl _, aL.refl _, aL.refl _, trivial⟩⟩ ?_
          refine aD (aF (?_))
          refine aQ aC 2 ?_
          refine bC ?_
          exact aD (aU (aF (⟨rfl, _, (oI h1).symm, .eq (by kernel_rfl), hO, hN⟩)))
      refine aS aC 8 [12] [(68, (aB ((bR && bI) && (decide (yP = (1 : Int))))))] ?_
      refine bP h1 (fun h1 => ?_) (fun h1 => ?_)
      · refine aM ?_
        refine aQ aC 4 ?_
        refine bO 3 ?_
        obtain ⟨x35, hx36, h1⟩ := aT h1
        refine uF [(lo0p, 1, List.map (eI) x35.2)] 0 (pP lo0p aA a1 b2 _ hx36) hO ?_
        intro H hO hl37
        simp only [List.length_map] at hl37
        replace hN := hl37.trans hN
        refine dY ?_
        refine eF (l := [(0, (.msl 1 lo0p 0 (List.length x35.2))), (1, (eI a1)), (2, (eI b2)), (3, (eI bW)), (8, (aB bR)), (9, (aB bI)), (10, (eI dO)), (11, (eI fI)), (72, (aB x35.1))]) ⟨[(0, (.msl 1 lo0p 0 (List.length aA))), (1, (eI a1)), (2, (eI b2)), (3, (eI bW)), (8, (aB bR)), (9, (aB bI)), (10, (eI dO)), (11, (eI fI)), (72, (aB x35.1))], by kernel_rfl, rfl, ⟨aL.eq (by simp [hl37]), aL.refl _, aL.refl _, aL.refl _, aL.refl _, aL.refl _, aL.refl _, aL.refl _, aL.refl _, trivial⟩⟩ ?_
        refine aD (aF (?_))
        refine bP h1 (fun h1 => ?_) (fun h1 => ?_)
        · refine bL ?_
          obtain rfl := oI h1
          obtain rfl : _ = rr0 := ho0
          replace h0 : some x35.2 = some r := h0
          obtain rfl := oI h0
          exact aD (aP (bG (aP (bG (lG (x := (.tup [])) (by kernel_rfl) (aL.refl _) ⟨rfl, hO.ext, hO.at 0 (by kernel_rfl), by simp only [List.length_map]; exact hN.trans hN0⟩)))))
        refine bQ ?_
        exact aD (aF (⟨rfl, _, .eq (by kernel_rfl), hO, hN, h1⟩))
      refine bQ ?_
      exact aD (aF (⟨rfl, _, .eq (by kernel_rfl), hO, hN, h1⟩))
    refine aS aC 2 [] [(50, (aB (decide (x9.2 = (2 : Int)))))] ?_
    refine bP h1 (fun h1 => ?_) (fun h1 => ?_)
    · refine aM ?_
      refine aQ aC 4 ?_
      refine bO 3 ?_
      obtain ⟨x40, hx41, h1⟩ := aT h1
      refine uF [(lo0p, 1, List.map (eI) x40)] 0 (tG lo0p aA a1 b2 _ hx41) hO ?_
      intro H hO hl42
      simp only [List.length_map] at hl42
      replace hN := hl42.trans hN
      refine dY ?_
      refine eF (l := [(0, (.msl 1 lo0p 0 (List.length x40))), (1, (eI a1)), (2, (eI b2)), (3, (eI bW)), (8, (aB bR)), (9, (aB bI)), (10, (eI dO)), (11, (eI x9.1))]) ⟨[(0, (.msl 1 lo0p 0 (List.length aA))), (1, (eI a1)), (2, (eI b2)), (3, (eI bW)), (8, (aB bR)), (9, (aB bI)), (10, (eI dO)), (11, (eI x9.1))], by kernel_rfl, rfl, ⟨aL.eq (by simp [hl42]), aL.refl _, aL.refl _, aL.refl _, aL.refl _, aL.refl _, aL.refl _, aL.refl _, trivial⟩⟩ ?_
      refine aD (aF (?_))
      refine aS aC 7 [11] [(11, (eI (wR ((wR (b2 - (1 : Int))) - (wR (x9.1 - a1))))))] ?_
      refine aQ aC 1 ?_
      refine bC ?_
      exact aD (aF (⟨rfl, _, _, _, .eq (by kernel_rfl), hO, hN, h1⟩))
    refine bQ ?_
    exact aD (aF (⟨rfl, _, _, _, .eq (by kernel_rfl), hO, hN, h1⟩))
  refine aS aC 2 [] [(35, (aB (!bR)))] ?_
  refine bP h1 (fun h1 => ?_) (fun h1 => ?_)
  · refine aM ?_
    refine aQ aC 4 ?_
    refine bO 3 ?_
    obtain ⟨x44, hx45, h1⟩ := aT h1
    refine uF [(lo0p, 1, List.map (eI) x44)] 0 (sS lo0p aA a1 b2 _ hx45) hO ?_
    intro H hO hl46
    simp only [List.length_map] at hl46
    replace hN := hl46.trans hN
    refine dY ?_
    refine eF (l := [(0, (.msl 1 lo0p 0 (List.length x44))), (1, (eI a1)), (2, (eI b2)), (3, (eI bW)), (8, (aB bR)), (9, (aB bI)), (10, (eI (wR (b2 - a1))))]) ⟨[(0, (.msl 1 lo0p 0 (List.length aA))), (1, (eI a1)), (2, (eI b2)), (3, (eI bW)), (8, (aB bR)), (9, (aB bI)), (10, (eI (wR (b2 - a1))))], by kernel_rfl, rfl, ⟨aL.eq (by simp [hl46]), aL.refl _, aL.refl _, aL.refl _, aL.refl _, aL.refl _, aL.refl _, trivial⟩⟩ ?_
    refine aD (aF (?_))
    refine aQ aC 3 ?_
    refine bC ?_
    exact aD (aF (⟨rfl, _, _, _, .eq (by kernel_rfl), hO, hN, h1⟩))
  refine bQ ?_
  exact aD (aF (⟨rfl, _, _, _, .eq (by kernel_rfl), hO, hN, h1⟩))

theorem nS  : ∀ (k : Nat) (lo0p : Nat) (aA : (List Int)) (a1 : Int) (b2 : Int) (bW : Int) (r : List Int), cY k aA a1 b2 bW = some r → lZ Try.prog 61 lo0p 1 (List.map (eI) aA) (List.map (eI) r) [(.msl 1 lo0p 0 (List.length aA)), (eI a1), (eI b2), (eI bW)] (.tup [])
  | 0, _, _, _, _, _, _, h => by cases h
  | k + 1, lo0p, aA, a1, b2, bW, r, h => tH  _ (nS  k) lo0p aA a1 b2 bW r h

theorem uX (lo0p : Nat) (aA : (List Int)) (a1 : Int) (b2 : Int) (bW : Int) (r : List Int) (h0 : jB aA a1 b2 bW = some r) : lZ Try.prog 61 lo0p 1 (List.map (eI) aA) (List.map (eI) r) [(.msl 1 lo0p 0 (List.length aA)), (eI a1), (eI b2), (eI bW)] (.tup []) := by
  obtain ⟨k, hk⟩ := II h0
  exact nS  k lo0p aA a1 b2 bW r hk

theorem yH (lo0p : Nat) (x0 : (List Int)) (r : List Int) (h0 : jW x0 = some r) : lZ Try.prog 34 lo0p 1 (List.map (eI) x0) (List.map (eI) r) [(.msl 1 lo0p 0 (List.length x0))] (.tup []) := by
  intro H0 hl0
  refine dQ Try.func34 ?_
  have hO := aJ.rN hl0
  clear hl0
  obtain ⟨N0, hN0⟩ : ∃ n, n = List.length x0 := ⟨_, rfl⟩
  have hN : List.length x0 = N0 := hN0.symm
  unfold jW at h0
  refine aS aC 3 [] [(2, (eI (lN x0)))] ?_
  refine aQ aC 6 ?_
  refine bO 4 ?_
  obtain ⟨x1, hx2, h0⟩ := aT h0
  refine fC (xJ (IntKind.u64.wrap (lN x0)) _ hx2) hO ?_
  intro H hO
  obtain ⟨x4, hx5, h0⟩ := aT h0
  refine uF [(lo0p, 1, List.map (eI) x4)] 0 (uX lo0p x0 (0 : Int) (lN x0) x1 _ hx5) hO ?_
  intro H hO hl6
  simp only [List.length_map] at hl6
  replace hN := hl6.trans hN
  refine dY ?_
  refine eF (l := [(0, (.msl 1 lo0p 0 (List.length x4)))]) ⟨[(0, (.msl 1 lo0p 0 (List.length x0)))], by kernel_rfl, rfl, ⟨aL.eq (by simp [hl6]), trivial⟩⟩ ?_
  obtain rfl := oI h0
  exact aD (tT (x := (.tup [])) (by kernel_rfl) (aL.refl _) ⟨rfl, hO.ext, hO.at 0 (by kernel_rfl), by simp only [List.length_map]; exact hN.trans hN0⟩)

theorem MQ (f0 : (List aH)) (r : (List aH)) (h0 : uR f0 = some r) : dU Try.prog 57 [(eL aK f0)] (.fn (.func 75) [] [(.rp (eL aK r))]) := by
  intro H0
  refine dQ Try.func57 ?_
  have hO := aJ.start H0
  unfold uR at h0
  refine aM ?_
  refine aQ aC 2 ?_
  refine fX 1 (eL aK f0) (by kernel_rfl) (by kernel_rfl) ?_
  refine bC ?_
  refine bE [(1, (.rp (eL aK f0)))] ?_
  refine cO aC 2 [(2, (.fn (.func 75) [] [(.rp (eL aK f0))]))] ?_
  refine bL ?_
  obtain rfl := oI h0
  exact aD (lG (x := (.fn (.func 75) [] [(.rp (eL aK f0))])) (by kernel_rfl) (aL.refl _) ⟨rfl, hO.out⟩)

theorem FN {σ : Type} (I : σ → Gs → Prop) (yield0_b : Nat) (cK : σ → aX → Option (σ × Bool)) (yield0_h : ∀ st a0 st2 r, cK st a0 = some (st2, r) → vU Try.prog (yv yield0_b) I st [(bD a0)] st2 (aB r)) (t1 : (List aH)) (sg0 : σ) (r : σ) (h0 : nZ cK t1 sg0 = some r) : tA Try.prog 75 I sg0 [(yv yield0_b), (.rp (eL aK t1))] r (.tup []) := by
  intro H0 G0 hI hg
  refine dQ Try.func75 ?_
  obtain ⟨G, hO, hI⟩ : ∃ G, aJ ⟨H0, List.map (fun p : Nat × cV => p.1) G0, G⟩ H0 [] ∧ I sg0 G := ⟨G0, aJ.yC hg, hI⟩
  clear hg
  unfold nZ at h0
  refine aS aC 2 [] [(3, (eI (0 : Int))), (4, (eI (0 : Int)))] ?_
  refine iR (fun T H => ∃ sg : σ, ∃ n3 : Int, ∃ jJ : Int, ∃ G : Gs, Has T [(0, (yv yield0_b)), (3, (eI n3)), (4, (eI jJ))] ∧ aJ ⟨H0, List.map (fun p : Nat × cV => p.1) G0, G⟩ H [] ∧ I sg G ∧ lY cK sg n3 jJ = some r) ?_ ?_
  · clear hO hI h0
    rintro T H ⟨sg, n3, jJ, G, hT, hO, hI, h0⟩
    refine bM hT ?_
    clear hT
    unfold lY at h0
    refine aS aC 2 [3] [(34, (aB (decide ((0 : Int) < n3))))] ?_
    refine bP h0 (fun h0 => ?_) (fun h0 => ?_)
    · refine aQ aC 4 ?_
      refine bO 3 ?_
      obtain ⟨x2, hx3, h0⟩ := aT h0
      refine CE (I := I) (yv yield0_b) [(bD (aX.mk jJ (1125899906842624 : Int)))] (aB x2.2) (by kernel_rfl) (by kernel_rfl) (yield0_h _ (aX.mk jJ (1125899906842624 : Int)) x2.1 x2.2 hx3) hO hI ?_
      intro G H hO hI
      refine dY ?_
      obtain rfl := oI h0
      exact aD (tT (x := (.tup [])) (by kernel_rfl) (aL.refl _) ⟨rfl, G, hI, hO.uD⟩)
    refine bQ ?_
    obtain rfl := oI h0
    exact aD (tT (x := (.tup [])) (by kernel_rfl) (aL.refl _) ⟨rfl, G, hI, hO.uD⟩)
  refine aS aC 3 [1] [(7, (eL aK t1)), (8, (eI (lN t1))), (9, (eI (0 : Int)))] ?_
  refine cI 0 ?_
  refine iA [(0, (yv yield0_b)), (3, (eI (0 : Int))), (4, (eI (0 : Int))), (7, (eL aK t1)), (8, (eI (lN t1))), (9, (eI (0 : Int)))] ?_
  refine gY (fun T H => ∃ sg : σ, ∃ n3 : Int, ∃ jJ : Int, ∃ t7 : (List aH), ∃ t8 : Int, ∃ t9 : Int, ∃ G : Gs, Has T [(0, (yv yield0_b)), (3, (eI n3)), (4, (eI jJ)), (7, (eL aK t7)), (8, (eI t8)), (9, (eI t9))] ∧ aJ ⟨H0, List.map (fun p : Nat × cV => p.1) G0, G⟩ H [] ∧ I sg G ∧ pL cK sg n3 jJ t7 t8 t9 = some r) ?_ ⟨sg0, (0 : Int), (0 : Int), t1, (lN t1), (0 : Int), G, .eq (by kernel_rfl), hO, hI, h0⟩
  clear hO hI h0
  rintro T H ⟨sg, n3, jJ, t7, t8, t9, G, hT, hO, hI, h0⟩
  refine bM hT ?_
  clear hT
  unfold pL at h0
  obtain ⟨rr0, hl0, h0⟩ := aT h0
  refine eE (by kernel_rfl) (fun (s : σ × Int × Int × Int) T H => ∃ G : Gs, Has T [(0, (yv yield0_b)), (3, (eI s.2.1)), (4, (eI s.2.2.1)), (7, (eL aK t7)), (8, (eI t8)), (9, (eI s.2.2.2))] ∧ aJ ⟨H0, List.map (fun p : Nat × cV => p.1) G0, G⟩ H [] ∧ I s.1 G) hl0 ⟨G, .eq (by kernel_rfl), hO, hI⟩ ?_
  clear hO hI
  rintro k0 s out1 T H ⟨G, hT, hO, hI⟩ h1 ho0
  obtain ⟨sg, n3, jJ, t9⟩ := s
  replace h1 : fM cK t7 t8 sg n3 jJ t9 = some out1 := h1
  try dsimp only at hT
  refine bM hT ?_
  clear hT
  unfold fM at h1
  refine aS aC 1 [] [(10, (aB (decide (t9 < t8))))] ?_
  refine aM ?_
  refine bP h1 (fun h1 => ?_) (fun h1 => ?_)
  · refine bQ ?_
    refine bE [(0, (yv yield0_b)), (3, (eI n3)), (4, (eI jJ)), (7, (eL aK t7)), (8, (eI t8)), (9, (eI t9))] ?_
    refine aM ?_
    refine cI 1 ?_
    refine aM ?_
    refine aQ aC 4 ?_
    obtain ⟨c5, h1⟩ := aY h1
    refine yS 2 [0 ≤ t9 ∧ t9 < (lN t7)] ⟨c5, trivial⟩ ?_
    refine kN 2 (aK (aH.mk 0 0)) (by kernel_rfl) (by kernel_rfl) hO ?_
    intro lo6 H hO
    refine iY 0 lo6 2 0 (aK (aH.mk 0 0)) (aK (gD t7 t9)) [(aK (aH.mk 0 0))] [(lo6, 2, [(aK (gD t7 t9))])] hO rfl (by kernel_rfl) ?_
    intro H hO
    refine dY ?_
    refine cC [] [(6, (.lp lo6 0 0))] ?_
    refine iR (fun T H => ∃ sg : σ, ∃ jJ : Int, ∃ j6 : aH, ∃ G : Gs, Has T [(0, (yv yield0_b)), (3, (eI n3)), (4, (eI jJ)), (6, (.lp lo6 0 0)), (7, (eL aK t7)), (8, (eI t8)), (9, (eI t9))] ∧ aJ ⟨H0, List.map (fun p : Nat × cV => p.1) G0, G⟩ H [(lo6, 2, [(aK j6)])] ∧ I sg G ∧ kZ cK sg n3 jJ j6 t7 t8 t9 = some out1) ?_ ?_
    · clear hO hI h1
      rintro T H ⟨sg, jJ, j6, G, hT, hO, hI, h1⟩
      refine bM hT ?_
      clear hT
      unfold kZ at h1
      refine aM ?_
      refine aQ aC 5 ?_
      refine bO 2 ?_
      refine mW 0 lo6 2 0 (aK j6) (eI j6.Net) [(aK j6)] hO rfl ?_
      refine bC ?_
      refine cC [3] [(3, (eI (wR (n3 + j6.Net))))] ?_
      refine aM ?_
      refine aQ aC 11 ?_
      refine bO 6 ?_
      refine tJ [(23, true)] 0 lo6 2 0 (aK j6) (eI j6.At) [(aK j6)] (by kernel_rfl) (by kernel_rfl) hO (by kernel_rfl) (decide ((wR (n3 + j6.Net)) = (0 : Int))) (by kernel_rfl) (fun hb7 => rfl) ?_
      refine bO 8 ?_
      obtain ⟨⟨x10, x11⟩, hx9, h1⟩ := aT h1
      replace hx9 := XK hx9
      refine WR (I := I) [(23, true)] (decide ((wR (n3 + j6.Net)) = (0 : Int))) (yv yield0_b) [(bD (aX.mk jJ j6.At))] (aB x11) ⟨fun hb => yield0_h _ (aX.mk jJ j6.At) x10 x11 (hx9.1 hb), hx9.2⟩ hO hI ?_
      intro G H hO hI
      refine bC ?_
      replace hO := hO.pick (L' := []) [] (by decide) (by kernel_rfl)
      refine cC [6] [(31, (aB ((decide ((wR (n3 + j6.Net)) = (0 : Int))) && (!x11))))] ?_
      refine bP h1 (fun h1 => ?_) (fun h1 => ?_)
      · refine bL ?_
        obtain rfl := oI h1
        obtain rfl : _ = rr0 := ho0
        replace h0 : some x10 = some r := h0
        obtain rfl := oI h0
        exact aD (bG (aP (aP (bG (aP (lG (x := (.tup [])) (by kernel_rfl) (aL.refl _) ⟨rfl, G, hI, hO.uD⟩))))))
      refine bQ ?_
      refine gT [(0, (yv yield0_b)), (3, (eI (wR (n3 + j6.Net)))), (4, (eI jJ)), (7, (eL aK t7)), (8, (eI t8)), (9, (eI t9))] ?_
      refine aD (aU (aF (?_)))
      refine aQ aC 2 ?_
      refine bC ?_
      exact aD (aF (⟨rfl, _, (oI h1).symm, _, .eq (by kernel_rfl), hO, hI⟩))
    refine aS aC 2 [] [(14, (aB (decide (n3 = (0 : Int)))))] ?_
    refine bP h1 (fun h1 => ?_) (fun h1 => ?_)
    · refine aQ aC 3 ?_
      refine bO 1 ?_
      refine mW 0 lo6 2 0 (aK (gD t7 t9)) (eI ((gD t7 t9).At)) [(aK (gD t7 t9))] hO rfl ?_
      refine bC ?_
      exact aD (aF (⟨rfl, _, _, _, _, .eq (by kernel_rfl), hO, hI, h1⟩))
    refine bQ ?_
    exact aD (aF (⟨rfl, _, _, _, _, .eq (by kernel_rfl), hO, hI, h1⟩))
  refine jI 0 ?_
  obtain rfl := oI h1
  obtain rfl : _ = rr0 := ho0
  replace h0 : lY cK sg n3 jJ = some r := h0
  exact aD (aV (aV (cH (aF (⟨rfl, _, _, _, _, .eq (by kernel_rfl), hO, hI, h0⟩)))))

theorem TK (f0 : (List aH)) (t1 : Int) (r : Int) (h0 : vC f0 t1 = some r) : dU Try.prog 77 [(eL aK f0), (eI t1)] (eI r) := by
  intro H0
  refine dQ Try.func77 ?_
  have hO := aJ.start H0
  unfold vC at h0
  refine aS aC 1 [] [] ?_
  refine aM ?_
  refine aM ?_
  refine aQ aC 3 ?_
  refine bO 1 ?_
  obtain ⟨x1, hx2, h0⟩ := aT h0
  refine fC (vK f0 _ hx2) hO ?_
  intro H hO
  refine bC ?_
  refine cC [] [(10, (aB (!x1)))] ?_
  refine bP h0 (fun h0 => ?_) (fun h0 => ?_)
  · refine cO aC 1 [(4, (eI (0 : Int)))] ?_
    refine bL ?_
    obtain rfl := oI h0
    exact aD (aP (Q_r hO))
  refine bQ ?_
  refine bE [(0, (eL aK f0)), (1, (eI t1))] ?_
  refine aS aC 1 [] [(5, (eI (0 : Int)))] ?_
  refine iR (fun T H => ∃ v5 : Int, Has T [(5, (eI v5))] ∧ aJ ⟨H0, [], []⟩ H [] ∧ rV v5 = some r) ?_ ?_
  · clear hO h0
    rintro T H ⟨v5, hT, hO, h0⟩
    refine bM hT ?_
    clear hT
    unfold rV at h0
    refine cO aC 2 [(4, (eI v5))] ?_
    refine bL ?_
    obtain rfl := oI h0
    exact aD (Q_r hO)
  refine aS aC 3 [0] [(11, (eL aK f0)), (12, (eI (lN f0))), (13, (eI (0 : Int)))] ?_
  refine cI 0 ?_
  refine iA [(1, (eI t1)), (5, (eI (0 : Int))), (11, (eL aK f0)), (12, (eI (lN f0))), (13, (eI (0 : Int)))] ?_
  refine gY (fun T H => ∃ v5 : Int, ∃ t11 : (List aH), ∃ t12 : Int, ∃ t13 : Int, Has T [(1, (eI t1)), (5, (eI v5)), (11, (eL aK t11)), (12, (eI t12)), (13, (eI t13))] ∧ aJ ⟨H0, [], []⟩ H [] ∧ vO t1 v5 t11 t12 t13 = some r) ?_ ⟨(0 : Int), f0, (lN f0), (0 : Int), .eq (by kernel_rfl), hO, h0⟩
  clear hO h0
  rintro T H ⟨v5, t11, t12, t13, hT, hO, h0⟩
  refine bM hT ?_
  clear hT
  unfold vO at h0
  obtain ⟨rr0, hl0, h0⟩ := aT h0
  refine eE (by kernel_rfl) (fun (s : Int × Int) T H => Has T [(1, (eI t1)), (5, (eI s.1)), (11, (eL aK t11)), (12, (eI t12)), (13, (eI s.2))] ∧ aJ ⟨H0, [], []⟩ H []) hl0 ⟨.eq (by kernel_rfl), hO⟩ ?_
  clear hO
  rintro k0 s out1 T H ⟨hT, hO⟩ h1 ho0
  obtain ⟨v5, t13⟩ := s
  replace h1 : mB t1 t11 t12 v5 t13 = some out1 := h1
  try dsimp only at hT
  refine bM hT ?_
  clear hT
  unfold mB at h1
  refine aS aC 1 [] [(14, (aB (decide (t13 < t12))))] ?_
  refine aM ?_
  refine bP h1 (fun h1 => ?_) (fun h1 => ?_)
  · refine bQ ?_
    refine bE [(1, (eI t1)), (5, (eI v5)), (11, (eL aK t11)), (12, (eI t12)), (13, (eI t13))] ?_
    refine aM ?_
    refine cI 1 ?_
    refine aM ?_
    refine aQ aC 4 ?_
    obtain ⟨c6, h1⟩ := aY h1
    refine yS 2 [0 ≤ t13 ∧ t13 < (lN t11)] ⟨c6, trivial⟩ ?_
    refine kN 2 (aK (aH.mk 0 0)) (by kernel_rfl) (by kernel_rfl) hO ?_
    intro lo7 H hO
    refine iY 0 lo7 2 0 (aK (aH.mk 0 0)) (aK (gD t11 t13)) [(aK (aH.mk 0 0))] [(lo7, 2, [(aK (gD t11 t13))])] hO rfl (by kernel_rfl) ?_
    intro H hO
    refine dY ?_
    refine cC [] [(7, (.lp lo7 0 0))] ?_
    refine aM ?_
    refine aM ?_
    refine aQ aC 4 ?_
    refine bO 1 ?_
    refine mW 0 lo7 2 0 (aK (gD t11 t13)) (eI ((gD t11 t13).At)) [(aK (gD t11 t13))] hO rfl ?_
    refine bC ?_
    refine cC [] [(20, (aB (decide (t1 < ((gD t11 t13).At)))))] ?_
    refine bP h1 (fun h1 => ?_) (fun h1 => ?_)
    · refine jI 0 ?_
      replace hO := hO.pick (L' := []) [] (by decide) (by kernel_rfl)
      obtain rfl := oI h1
      obtain rfl : _ = rr0 := ho0
      replace h0 : rV v5 = some r := h0
      exact aD (aV (qJ (by kernel_rfl) (aV (aV (cH (aF (⟨rfl, _, .eq (by kernel_rfl), hO, h0⟩)))))))
    refine bQ ?_
    refine bE [(1, (eI t1)), (5, (eI v5)), (7, (.lp lo7 0 0)), (11, (eL aK t11)), (12, (eI t12)), (13, (eI t13))] ?_
    refine aQ aC 5 ?_
    refine bO 2 ?_
    refine mW 0 lo7 2 0 (aK (gD t11 t13)) (eI ((gD t11 t13).Net)) [(aK (gD t11 t13))] hO rfl ?_
    refine bC ?_
    refine gT [(1, (eI t1)), (5, (eI (wR (v5 + ((gD t11 t13).Net))))), (11, (eL aK t11)), (12, (eI t12)), (13, (eI t13))] ?_
    replace hO := hO.pick (L' := []) [] (by decide) (by kernel_rfl)
    refine aD (aU (aF (?_)))
    refine aQ aC 2 ?_
    refine bC ?_
    exact aD (aF (⟨rfl, _, (oI h1).symm, .eq (by kernel_rfl), hO⟩))
  refine jI 0 ?_
  obtain rfl := oI h1
  obtain rfl : _ = rr0 := ho0
  replace h0 : rV v5 = some r := h0
  exact aD (aV (aV (cH (aF (⟨rfl, _, .eq (by kernel_rfl), hO, h0⟩)))))

theorem JF (f0 : (List aH)) (w1 : aX) (r : Int) (h0 : pR f0 w1 = some r) : dU Try.prog 60 [(eL aK f0), (bD w1)] (eI r) := by
  intro H0
  refine dQ Try.func60 ?_
  have hO := aJ.start H0
  unfold pR at h0
  refine aM ?_
  refine aQ aC 2 ?_
  refine fX 2 (bD w1) (by kernel_rfl) (by kernel_rfl) ?_
  refine bC ?_
  refine cC [1] [(3, (.rp (bD w1)))] ?_
  refine aM ?_
  refine aQ aC 5 ?_
  refine bO 3 ?_
  obtain ⟨x1, hx2, h0⟩ := aT h0
  refine fC (TK f0 w1.From _ hx2) hO ?_
  intro H hO
  refine bC ?_
  refine cC [] [(5, (eI x1))] ?_
  refine iR (fun T H => ∃ n5 : Int, Has T [(5, (eI n5))] ∧ aJ ⟨H0, [], []⟩ H [] ∧ rT n5 = some r) ?_ ?_
  · clear hO h0
    rintro T H ⟨n5, hT, hO, h0⟩
    refine bM hT ?_
    clear hT
    unfold rT at h0
    refine cO aC 2 [(4, (eI n5))] ?_
    refine bL ?_
    obtain rfl := oI h0
    exact aD (Q_r hO)
  refine aS aC 3 [0] [(12, (eL aK f0)), (13, (eI (lN f0))), (14, (eI (0 : Int)))] ?_
  refine cI 0 ?_
  refine iA [(3, (.rp (bD w1))), (5, (eI x1)), (12, (eL aK f0)), (13, (eI (lN f0))), (14, (eI (0 : Int)))] ?_
  refine gY (fun T H => ∃ w3 : aX, ∃ n5 : Int, ∃ t12 : (List aH), ∃ t13 : Int, ∃ t14 : Int, Has T [(3, (.rp (bD w3))), (5, (eI n5)), (12, (eL aK t12)), (13, (eI t13)), (14, (eI t14))] ∧ aJ ⟨H0, [], []⟩ H [] ∧ rQ w3 n5 t12 t13 t14 = some r) ?_ ⟨w1, x1, f0, (lN f0), (0 : Int), .eq (by kernel_rfl), hO, h0⟩
  clear hO h0
  rintro T H ⟨w3, n5, t12, t13, t14, hT, hO, h0⟩
  refine bM hT ?_
  clear hT
  unfold rQ at h0
  obtain ⟨rr0, hl0, h0⟩ := aT h0
  refine eE (by kernel_rfl) (fun (s : Int × Int) T H => Has T [(3, (.rp (bD w3))), (5, (eI s.1)), (12, (eL aK t12)), (13, (eI t13)), (14, (eI s.2))] ∧ aJ ⟨H0, [], []⟩ H []) hl0 ⟨.eq (by kernel_rfl), hO⟩ ?_
  clear hO
  rintro k0 s out1 T H ⟨hT, hO⟩ h1 ho0
  obtain ⟨n5, t14⟩ := s
  replace h1 : nC w3 t12 t13 n5 t14 = some out1 := h1
  try dsimp only at hT
  refine bM hT ?_
  clear hT
  unfold nC at h1
  refine aS aC 1 [] [(15, (aB (decide (t14 < t13))))] ?_
  refine aM ?_
  refine bP h1 (fun h1 => ?_) (fun h1 => ?_)
  · refine bQ ?_
    refine bE [(3, (.rp (bD w3))), (5, (eI n5)), (12, (eL aK t12)), (13, (eI t13)), (14, (eI t14))] ?_
    refine iR (fun T H => ∃ n5 : Int, Has T [(3, (.rp (bD w3))), (5, (eI n5)), (12, (eL aK t12)), (13, (eI t13)), (14, (eI t14))] ∧ aJ ⟨H0, [], []⟩ H [] ∧ nB w3 n5 t12 t13 t14 = some out1) ?_ ?_
    · clear hO h1
      rintro T H ⟨n5, hT, hO, h1⟩
      refine bM hT ?_
      clear hT
      unfold nB at h1
      refine aQ aC 2 ?_
      refine bC ?_
      exact aD (aF (⟨rfl, _, (oI h1).symm, .eq (by kernel_rfl), hO⟩))
    refine cI 1 ?_
    refine aM ?_
    refine aQ aC 4 ?_
    obtain ⟨c5, h1⟩ := aY h1
    refine yS 2 [0 ≤ t14 ∧ t14 < (lN t12)] ⟨c5, trivial⟩ ?_
    refine kN 2 (aK (aH.mk 0 0)) (by kernel_rfl) (by kernel_rfl) hO ?_
    intro lo6 H hO
    refine iY 0 lo6 2 0 (aK (aH.mk 0 0)) (aK (gD t12 t14)) [(aK (aH.mk 0 0))] [(lo6, 2, [(aK (gD t12 t14))])] hO rfl (by kernel_rfl) ?_
    intro H hO
    refine dY ?_
    refine cC [] [(7, (.lp lo6 0 0))] ?_
    refine aM ?_
    refine aQ aC 12 ?_
    refine bO 1 ?_
    refine mW 0 lo6 2 0 (aK (gD t12 t14)) (eI ((gD t12 t14).At)) [(aK (gD t12 t14))] hO rfl ?_
    refine bO 7 ?_
    refine tJ [(23, true)] 0 lo6 2 0 (aK (gD t12 t14)) (eI ((gD t12 t14).At)) [(aK (gD t12 t14))] (by kernel_rfl) (by kernel_rfl) hO (by kernel_rfl) (decide (w3.From < ((gD t12 t14).At))) (by kernel_rfl) (fun hb7 => rfl) ?_
    refine bC ?_
    refine cC [] [(29, (aB ((decide (w3.From < ((gD t12 t14).At))) && (decide (((gD t12 t14).At) < w3.To)))))] ?_
    refine bP h1 (fun h1 => ?_) (fun h1 => ?_)
    · refine aQ aC 6 ?_
      refine bO 2 ?_
      refine mW 0 lo6 2 0 (aK (gD t12 t14)) (eI ((gD t12 t14).Net)) [(aK (gD t12 t14))] hO rfl ?_
      refine bC ?_
      replace hO := hO.pick (L' := []) [] (by decide) (by kernel_rfl)
      exact aD (aU (aF (⟨rfl, _, .eq (by kernel_rfl), hO, h1⟩)))
    refine bQ ?_
    replace hO := hO.pick (L' := []) [] (by decide) (by kernel_rfl)
    exact aD (aU (aF (⟨rfl, _, .eq (by kernel_rfl), hO, h1⟩)))
  refine jI 0 ?_
  obtain rfl := oI h1
  obtain rfl : _ = rr0 := ho0
  replace h0 : rT n5 = some r := h0
  exact aD (aV (aV (cH (aF (⟨rfl, _, .eq (by kernel_rfl), hO, h0⟩)))))

theorem KP (lm : Nat) (los : List (Nat × Nat)) (m : List (Int × aR)) (hl : los.length = m.length) (r : List aE) (f : List aH) (size hop frm front : Int) (out : Bool × List (Int × aR)) (h0 : rH m r f size hop frm front = some out) :
    FD Try.prog 33 [(.mp lm), (eL aI r), (eL aK f), (eI size), (eI hop), (eI frm), (eI front)] (pmG shP lm los m) [] (fun x M L => ∃ los' : List (Nat × Nat), los'.length = out.2.length ∧ x = aB out.1 ∧ M = pmG shP lm los' out.2 ∧ L = []) := by
  intro F H0 hO
  obtain ⟨Fh, Fe, Fg⟩ := F
  refine yN aC Try.func33 (by kernel_rfl) (by kernel_rfl) (by kernel_rfl) ?_
  unfold rH at h0
  refine aM ?_
  refine aQ aC 8 ?_
  refine fX 1 (.mp lm) (by kernel_rfl) (by kernel_rfl) ?_
  refine fX 1 (eL aI r) (by kernel_rfl) (by kernel_rfl) ?_
  refine fX 1 (eL aK f) (by kernel_rfl) (by kernel_rfl) ?_
  refine fX 1 (eI size) (by kernel_rfl) (by kernel_rfl) ?_
  refine fX 1 (eI hop) (by kernel_rfl) (by kernel_rfl) ?_
  refine fX 1 (eI frm) (by kernel_rfl) (by kernel_rfl) ?_
  refine fX 1 (eI front) (by kernel_rfl) (by kernel_rfl) ?_
  refine kN 1 (aB false) (by kernel_rfl) (by kernel_rfl) hO ?_
  intro lo1 H hO
  replace hO : aJ ⟨Fh, Fe, pmG shP lm los m ++ Fg⟩ H [(lo1, 1, [(aB false)])] := hO
  refine dY ?_
  refine bE [(7, (.rp (.mp lm))), (8, (.rp (eL aI r))), (9, (.rp (eL aK f))), (10, (.rp (eI size))), (11, (.rp (eI hop))), (12, (.rp (eI frm))), (13, (.rp (eI front))), (14, (.lp lo1 0 0))] ?_
  refine aM ?_
  refine aM ?_
  refine aQ aC 2 ?_
  refine bO 1 ?_
  obtain ⟨x1, hx1, h0⟩ := aT h0
  refine fC (MQ f _ hx1) hO ?_
  intro H hO
  refine dY ?_
  refine bE [(7, (.rp (.mp lm))), (8, (.rp (eL aI r))), (9, (.rp (eL aK f))), (10, (.rp (eI size))), (11, (.rp (eI hop))), (12, (.rp (eI frm))), (13, (.rp (eI front))), (14, (.lp lo1 0 0)), (20, (.fn (.func 75) [] [(.rp (eL aK x1))]))] ?_
  refine cI 0 ?_
  obtain ⟨o0, hl0, h0⟩ := aT h0
  refine wV (fid := 75) (ys := []) (cs := [(.rp (eL aK x1))]) #[21] (fun (A : qQ) (b lL : Nat) (st : (Bool × List (Int × aR)) ⊕ (Bool × List (Int × aR))) (G' : Gs) => Sum.elim (fun (s : Bool × List (Int × aR)) => ∃ los : List (Nat × Nat), los.length = s.2.length ∧ G' = (lL, .raw (fV b A .ready none)) :: (up [(lo1, 1, [(aB s.1)])] ++ (pmG shP lm los s.2 ++ Fg))) (fun (s : Bool × List (Int × aR)) => ∃ los : List (Nat × Nat), los.length = s.2.length ∧ G' = (lL, .raw (fV b A .done (some .ret))) :: (up [(lo1, 1, [(aB s.1)])] ++ (pmG shP lm los s.2 ++ Fg))) st) (.inl (false, m)) o0 (.tup []) (by kernel_rfl) (by kernel_rfl) (by kernel_rfl) hO (fun _ _ => ⟨los, hl, rfl⟩) ?_ ?_
  · intro b lL
    clear hO h0
    refine FN _ b (fun st s => rnd (fun (q : Bool × List (Int × aR)) => mO r f size hop frm front q.1 q.2 s) st) ?_ x1 _ _ hl0
    intro st s21 out1 rr hr
    obtain ⟨s, rfl, h1, rfl⟩ := HD hr
    clear hr
    intro Hr Gr hi hg
    obtain ⟨t14, m1⟩ := s
    dsimp only [Sum.elim_inl] at hi
    obtain ⟨los1, hl1, rfl⟩ := hi
    replace h1 : mO r f size hop frm front t14 m1 s21 = some out1 := h1
    unfold mO at h1
    obtain ⟨E1, hE, hO⟩ := qF hg
    refine qA (uH (hO.gm 0 _ rfl).2 (by kernel_rfl) (by kernel_rfl) ?_)
    refine iA [(7, (.rp (.mp lm))), (8, (.rp (eL aI r))), (9, (.rp (eL aK f))), (10, (.rp (eI size))), (11, (.rp (eI hop))), (12, (.rp (eI frm))), (13, (.rp (eI front))), (14, (.lp lo1 0 0)), (21, (bD s21))] ?_
    refine aQ aC 2 ?_
    refine kN 2 (bD (aX.mk 0 0)) (by kernel_rfl) (by kernel_rfl) hO ?_
    intro lo2 H hO
    refine iY 1 lo2 2 0 (bD (aX.mk 0 0)) (bD s21) [(bD (aX.mk 0 0))] [(lo1, 1, [(aB t14)]), (lo2, 2, [(bD s21)])] hO rfl (by kernel_rfl) ?_
    intro H hO
    refine dY ?_
    refine gT [(7, (.rp (.mp lm))), (8, (.rp (eL aI r))), (9, (.rp (eL aK f))), (10, (.rp (eI size))), (11, (.rp (eI hop))), (12, (.rp (eI frm))), (13, (.rp (eI front))), (14, (.lp lo1 0 0)), (15, (.lp lo2 0 0))] ?_
    refine aD (⟨rfl, rfl, (hO.gm 0 _ rfl).2, ?_⟩)
    intro o1 ho1
    replace hO := hO.nG o1
    refine cI 1 ?_
    refine aM ?_
    refine aQ aC 6 ?_
    refine bO 2 ?_
    refine mW 1 lo2 2 0 (bD s21) (bD s21) [(bD s21)] hO rfl ?_
    refine bO 5 ?_
    obtain ⟨x2, hx2, h1⟩ := aT h1
    refine fC (BW size hop s21 frm front _ hx2) hO ?_
    intro H hO
    refine dY ?_
    refine bE [(7, (.rp (.mp lm))), (8, (.rp (eL aI r))), (9, (.rp (eL aK f))), (10, (.rp (eI size))), (11, (.rp (eI hop))), (12, (.rp (eI frm))), (13, (.rp (eI front))), (14, (.lp lo1 0 0)), (27, (.fn (.func 54) [] [(.rp (eI x2.1)), (.rp (bD x2.2.1)), (.rp (eI x2.2.2.1)), (.rp (eI x2.2.2.2.1)), (.rp (eI x2.2.2.2.2))]))] ?_
    replace hO := hO.pick (L' := [(lo1, 1, [(aB t14)])]) [0] (by decide) (by kernel_rfl)
    refine cI 2 ?_
    obtain ⟨oi, hli, h1⟩ := aT h1
    refine UR (fid := 54) (ys := []) (cs := [(.rp (eI x2.1)), (.rp (bD x2.2.1)), (.rp (eI x2.2.2.1)), (.rp (eI x2.2.2.2.1)), (.rp (eI x2.2.2.2.2))]) #[28] (fun (A2 : qQ) (b2 lL2 : Nat) (st : (Bool × List (Int × aR)) ⊕ (Bool × List (Int × aR))) (G' : Gs) => Sum.elim (fun (s : Bool × List (Int × aR)) => ∃ los : List (Nat × Nat), los.length = s.2.length ∧ G' = (lL2, .raw (fV b2 A2 .ready none)) :: (up [(lo1, 1, [(aB s.1)])] ++ ((lL, o1) :: (pmG shP lm los s.2 ++ Fg)))) (fun (s : Bool × List (Int × aR)) => ∃ los : List (Nat × Nat), los.length = s.2.length ∧ G' = (lL2, .raw (fV b2 A2 .done (some .ret))) :: (up [(lo1, 1, [(aB s.1)])] ++ ((lL, o1) :: (pmG shP lm los s.2 ++ Fg)))) st) (.inl (t14, m1)) oi (.tup []) ((hO.gm 0 _ rfl).2.trans (congrArg some ho1)) (by kernel_rfl) (by kernel_rfl) (by kernel_rfl) hO (fun _ _ => ⟨los1, hl1, rfl⟩) ?_ ?_
    · intro b2 lL2
      clear hO h1
      refine wP _ b2 (fun st t => rnd (fun (q : Bool × List (Int × aR)) => lP r f size q.1 q.2 t) st) ?_ x2.1 x2.2.1 x2.2.2.1 x2.2.2.2.1 x2.2.2.2.2 _ _ hli
      clear hE
      intro st t28 out2 rr hr
      obtain ⟨s, rfl, h2, rfl⟩ := HD hr
      clear hr
      intro Hr2 Gr2 hi hg2
      obtain ⟨t14, m2⟩ := s
      dsimp only [Sum.elim_inl] at hi
      obtain ⟨los2, hl2, rfl⟩ := hi
      replace h2 : lP r f size t14 m2 t28 = some out2 := h2
      unfold lP at h2
      obtain ⟨E2, hE2, hO⟩ := qF hg2
      refine qA (uH (hO.gm 0 _ rfl).2 (by kernel_rfl) (by kernel_rfl) ?_)
      refine iA [(7, (.rp (.mp lm))), (8, (.rp (eL aI r))), (9, (.rp (eL aK f))), (10, (.rp (eI size))), (11, (.rp (eI hop))), (12, (.rp (eI frm))), (13, (.rp (eI front))), (14, (.lp lo1 0 0)), (28, (eI t28))] ?_
      refine aQ aC 1 ?_
      refine bC ?_
      refine gT [(7, (.rp (.mp lm))), (8, (.rp (eL aI r))), (9, (.rp (eL aK f))), (10, (.rp (eI size))), (11, (.rp (eI hop))), (12, (.rp (eI frm))), (13, (.rp (eI front))), (14, (.lp lo1 0 0)), (16, (eI t28))] ?_
      refine aD (⟨rfl, rfl, (hO.gm 0 _ rfl).2, ?_⟩)
      intro o2 ho2
      replace hO := hO.nG o2
      refine cI 3 ?_
      replace hO : aJ ⟨Hr2, E2, (lm, oB oH (pmM los2 m2)) :: (up (pmL shP los2 m2) ++ ((lL2, o2) :: (lL, o1) :: Fg))⟩ _ [(lo1, 1, [(aB t14)])] := hO.mY (List.perm_middle.trans (List.Perm.cons _ List.perm_middle)).symm
      refine aM ?_
      refine aQ aC 4 ?_
      refine bO 2 ?_
      refine KF (f := oH) (mty := 63) (ok := false) aC t28 none hO ?_
      refine bC ?_
      refine bE [(7, (.rp (.mp lm))), (8, (.rp (eL aI r))), (9, (.rp (eL aK f))), (10, (.rp (eI size))), (11, (.rp (eI hop))), (12, (.rp (eI frm))), (13, (.rp (eI front))), (14, (.lp lo1 0 0)), (16, (eI t28)), (17, (oH ((fA (pmM los2 m2) t28).getD none)))] ?_
      refine iR (fun T H => ∃ (a bb : Nat) (MM : List (Int × Option Nat)) (R : List (Nat × Nat × List V)) (p0 : aR), Has T [(7, (.rp (.mp lm))), (8, (.rp (eL aI r))), (9, (.rp (eL aK f))), (10, (.rp (eI size))), (11, (.rp (eI hop))), (12, (.rp (eI frm))), (13, (.rp (eI front))), (14, (.lp lo1 0 0)), (17, (.lp a 0 0))] ∧ Put shP m2 t28 a MM R ∧ aJ ⟨Hr2, E2, (lm, oB oH MM) :: (up R ++ ((lL2, o2) :: (lL, o1) :: Fg))⟩ H [(a, 3, [(.agg [(eI p0.Span.From), (eI p0.Span.To), (.msl 2 bb 0 (List.length p0.Rows))])]), (bb, 2, List.map kW p0.Rows), (lo1, 1, [(aB t14)])] ∧ ((mN r f p0).bind fun p => some (.inl (t14, gE m2 t28 p))) = some out2) ?_ ?_
      · clear hO h2
        rintro T H ⟨a, bb, MM, R, p0, hT, hP, hO, h2⟩
        refine bM hT ?_
        clear hT
        obtain ⟨p1, hp, h2⟩ := aT h2
        have fin : ∀ (H : aN) (bb : Nat), aJ ⟨Hr2, E2, (lm, oB oH MM) :: (up R ++ ((lL2, o2) :: (lL, o1) :: Fg))⟩ H (shP a bb p1 ++ [(lo1, 1, [(aB t14)])]) → ∃ los' : List (Nat × Nat), los'.length = (gE m2 t28 p1).length ∧ aJ ⟨Hr2, E2, (lL2, o2) :: ((lL, o1) :: (pmG shP lm los' (gE m2 t28 p1) ++ Fg))⟩ H [(lo1, 1, [(aB t14)])] := by
          intro H bb hO
          obtain ⟨los', hl', hO⟩ := hO.OE hP
          exact ⟨los', hl', hO.mY (List.perm_middle.trans (List.Perm.cons _ List.perm_middle))⟩
        unfold mN at hp
        refine aM ?_
        refine aQ aC 7 ?_
        refine bO 3 ?_
        refine mW 0 a 3 0 (.agg [(eI p0.Span.From), (eI p0.Span.To), (.msl 2 bb 0 (List.length p0.Rows))]) (.msl 2 bb 0 (List.length p0.Rows)) [(.agg [(eI p0.Span.From), (eI p0.Span.To), (.msl 2 bb 0 (List.length p0.Rows))])] hO rfl ?_
        refine bC ?_
        refine bE [(7, (.rp (.mp lm))), (8, (.rp (eL aI r))), (9, (.rp (eL aK f))), (10, (.rp (eI size))), (11, (.rp (eI hop))), (12, (.rp (eI frm))), (13, (.rp (eI front))), (14, (.lp lo1 0 0)), (17, (.lp a 0 0)), (18, (eI (wR ((lN p0.Rows) - (1 : Int)))))] ?_
        refine aM ?_
        obtain ⟨c12, hp⟩ := aY hp
        obtain ⟨x13, hx14, hp⟩ := aT hp
        refine gQ (gM [65]) aC 15 ?_
        refine oK (K := fun T H => Has (lift T) [(7, (.rp (.mp lm))), (8, (.rp (eL aI r))), (9, (.rp (eL aK f))), (10, (.rp (eI size))), (11, (.rp (eI hop))), (12, (.rp (eI frm))), (13, (.rp (eI front))), (14, (.lp lo1 0 0)), (17, (.lp a 0 0)), (18, (eI (wR ((lN p0.Rows) - (1 : Int))))), (68, (aB ((decide ((wR ((lN p0.Rows) - (1 : Int))) < (0 : Int))) || (!x13))))] ∧ aJ ⟨Hr2, E2, (lm, oB oH MM) :: (up R ++ ((lL2, o2) :: (lL, o1) :: Fg))⟩ H [(a, 3, [(.agg [(eI p0.Span.From), (eI p0.Span.To), (.msl 2 bb 0 (List.length p0.Rows))])]), (bb, 2, List.map kW p0.Rows), (lo1, 1, [(aB t14)])]) ?_ ?_
        · refine lC 3 ?_
          refine nQ (t := 56) (e := decide ((wR ((lN p0.Rows) - (1 : Int))) < (0 : Int))) (by kernel_rfl) (fun hg15 => ?_) (fun hg15 => ?_)
          · refine kT ?_
            exact ⟨⟨[(7, (.rp (.mp lm))), (8, (.rp (eL aI r))), (9, (.rp (eL aK f))), (10, (.rp (eI size))), (11, (.rp (eI hop))), (12, (.rp (eI frm))), (13, (.rp (eI front))), (14, (.lp lo1 0 0)), (17, (.lp a 0 0)), (18, (eI (wR ((lN p0.Rows) - (1 : Int))))), (68, (aB true))], by kernel_rfl, rfl, ⟨aL.refl _, aL.refl _, aL.refl _, aL.refl _, aL.refl _, aL.refl _, aL.refl _, aL.refl _, aL.refl _, aL.refl _, aL.eq (congrArg aB (by rw [hg15]; rfl)), trivial⟩⟩, hO⟩
          · refine lC 6 ?_
            refine jC 0 a 3 0 (.agg [(eI p0.Span.From), (eI p0.Span.To), (.msl 2 bb 0 (List.length p0.Rows))]) (.msl 2 bb 0 (List.length p0.Rows)) [(.agg [(eI p0.Span.From), (eI p0.Span.To), (.msl 2 bb 0 (List.length p0.Rows))])] (by kernel_rfl) (by kernel_rfl) (by kernel_rfl) hO (by kernel_rfl) rfl ?_
            have c13 := c12 (by rw [hg15]; rfl)
            refine cJ 10 [0 ≤ (wR ((lN p0.Rows) - (1 : Int))) ∧ (wR ((lN p0.Rows) - (1 : Int))) < (lN p0.Rows)] ⟨c13, trivial⟩ ?_
            refine jC 1 bb 2 (0 + Int.toNat (wR ((lN p0.Rows) - (1 : Int)))) (kW (gD p0.Rows (wR ((lN p0.Rows) - (1 : Int))))) (eL aI ((gD p0.Rows (wR ((lN p0.Rows) - (1 : Int)))).Row)) (List.map kW p0.Rows) (by kernel_rfl) (by kernel_rfl) (by kernel_rfl) hO (by kernel_rfl) (bX c13) ?_
            refine lC 12 ?_
            refine nP 58 [(eL aI ((gD p0.Rows (wR ((lN p0.Rows) - (1 : Int)))).Row)), (eL aI r)] (aB x13) (by kernel_rfl) (by kernel_rfl) (FM ((gD p0.Rows (wR ((lN p0.Rows) - (1 : Int)))).Row) r _ (jO hx14 (by rw [hg15]; rfl))) hO ?_
            intro H hO
            refine kT ?_
            exact ⟨⟨[(7, (.rp (.mp lm))), (8, (.rp (eL aI r))), (9, (.rp (eL aK f))), (10, (.rp (eI size))), (11, (.rp (eI hop))), (12, (.rp (eI frm))), (13, (.rp (eI front))), (14, (.lp lo1 0 0)), (17, (.lp a 0 0)), (18, (eI (wR ((lN p0.Rows) - (1 : Int))))), (68, (aB (!x13)))], by kernel_rfl, rfl, ⟨aL.refl _, aL.refl _, aL.refl _, aL.refl _, aL.refl _, aL.refl _, aL.refl _, aL.refl _, aL.refl _, aL.refl _, aL.eq (congrArg aB (by rw [hg15]; rfl)), trivial⟩⟩, hO⟩
        · rintro T H ⟨hT, hO⟩
          refine eF hT ?_
          clear hT
          refine aD (aF ?_)
          refine bP hp (fun hp => ?_) (fun hp => ?_)
          · obtain ⟨x15, hx15, hp⟩ := aT hp
            obtain ⟨x16, hx16, hp⟩ := aT hp
            obtain ⟨c17, hp⟩ := aY hp
            refine gQ (gM [74, 75, 76, 81, 83, 84]) aC 19 ?_
            refine lC 4 ?_
            refine gO 0 a 3 0 (.agg [(eI p0.Span.From), (eI p0.Span.To), (.msl 2 bb 0 (List.length p0.Rows))]) (.msl 2 bb 0 (List.length p0.Rows)) [(.agg [(eI p0.Span.From), (eI p0.Span.To), (.msl 2 bb 0 (List.length p0.Rows))])] hO rfl ?_
            refine lC 6 ?_
            refine xT (EY r _ hx15) hO ?_
            intro H hO
            refine lC 11 ?_
            refine gO 0 a 3 0 (.agg [(eI p0.Span.From), (eI p0.Span.To), (.msl 2 bb 0 (List.length p0.Rows))]) (bD p0.Span) [(.agg [(eI p0.Span.From), (eI p0.Span.To), (.msl 2 bb 0 (List.length p0.Rows))])] hO rfl ?_
            refine xT (JF f p0.Span _ hx16) hO ?_
            intro H hO
            refine lC 14 ?_
            refine XA (xs := [(kW (hY.mk x15 x16))]) (k := 2) (by kernel_rfl) (by kernel_rfl) ?_
            refine OT (e := kW) p0.Rows ([hY.mk x15 x16]) 1 bb 2 32 (iJ [(kW (hY.mk x15 x16))]) (fun bc => [(a, 3, [(.agg [(eI p0.Span.From), (eI p0.Span.To), (.msl 2 bb 0 (List.length p0.Rows))])]), (bc, 2, List.map kW (p0.Rows ++ ([hY.mk x15 x16]))), (lo1, 1, [(aB t14)])]) (by kernel_rfl) (by kernel_rfl) hO (by kernel_rfl) (by kernel_rfl) c17 (fun _ => by kernel_rfl) ?_
            intro bc H hO
            refine lC 18 ?_
            refine kH 0 a 3 0 (.agg [(eI p0.Span.From), (eI p0.Span.To), (.msl 2 bb 0 (List.length p0.Rows))]) (.agg [(eI p0.Span.From), (eI p0.Span.To), (.msl 2 bc 0 (List.length (p0.Rows ++ ([hY.mk x15 x16]))))]) [(.agg [(eI p0.Span.From), (eI p0.Span.To), (.msl 2 bb 0 (List.length p0.Rows))])] [(a, 3, [(.agg [(eI p0.Span.From), (eI p0.Span.To), (.msl 2 bc 0 (List.length (p0.Rows ++ ([hY.mk x15 x16]))))])]), (bc, 2, List.map kW (p0.Rows ++ ([hY.mk x15 x16]))), (lo1, 1, [(aB t14)])] hO rfl (by kernel_rfl) ?_
            intro H hO
            refine mK (by kernel_rfl) ?_
            obtain rfl := oI hp
            refine gT [(7, (.rp (.mp lm))), (8, (.rp (eL aI r))), (9, (.rp (eL aK f))), (10, (.rp (eI size))), (11, (.rp (eI hop))), (12, (.rp (eI frm))), (13, (.rp (eI front))), (14, (.lp lo1 0 0))] ?_
            obtain ⟨los', hl', hO⟩ := fin H bc hO
            obtain rfl := oI h2
            exact aD (aU (⟨(eG hO hE2 ho2 .dead).1, rfl, _, ⟨los', hl', rfl⟩, (eG hO hE2 ho2 _).2⟩))
          · refine bQ ?_
            obtain rfl := oI hp
            refine gT [(7, (.rp (.mp lm))), (8, (.rp (eL aI r))), (9, (.rp (eL aK f))), (10, (.rp (eI size))), (11, (.rp (eI hop))), (12, (.rp (eI frm))), (13, (.rp (eI front))), (14, (.lp lo1 0 0))] ?_
            obtain ⟨los', hl', hO⟩ := fin H bb hO
            obtain rfl := oI h2
            exact aD (aU (⟨(eG hO hE2 ho2 .dead).1, rfl, _, ⟨los', hl', rfl⟩, (eG hO hE2 ho2 _).2⟩))
      cases hg : fA m2 t28 with
      | none =>
        rw [hg] at h2
        replace h2 : cond (decide ((lN m2) = (1024 : Int))) (some (.inr (false, m2))) ((mN r f (aR.mk (aX.mk t28 (if (1125899906842624 : Int) < (wR (t28 + size)) then (1125899906842624 : Int) else (wR (t28 + size)))) [])).bind fun p => some (.inl (t14, gE m2 t28 p))) = some out2 := h2
        rw [NW hg]
        refine iA [(7, (.rp (.mp lm))), (8, (.rp (eL aI r))), (9, (.rp (eL aK f))), (10, (.rp (eI size))), (11, (.rp (eI hop))), (12, (.rp (eI frm))), (13, (.rp (eI front))), (14, (.lp lo1 0 0)), (16, (eI t28)), (17, (.lit (.pointer none)))] ?_
        refine aM ?_
        refine aQ aC 2 ?_
        refine bO 1 ?_
        refine LC true ?_
        refine dY ?_
        refine bE [(7, (.rp (.mp lm))), (8, (.rp (eL aI r))), (9, (.rp (eL aK f))), (10, (.rp (eI size))), (11, (.rp (eI hop))), (12, (.rp (eI frm))), (13, (.rp (eI front))), (14, (.lp lo1 0 0)), (16, (eI t28)), (33, (aB true))] ?_
        refine lS (true) (fun hc => ?_) (fun hc => by cases hc)
        refine aM ?_
        refine aM ?_
        refine aQ aC 3 ?_
        refine bO 1 ?_
        refine MG (mty := 63) hO ?_
        rw [GI hl2]
        refine bC ?_
        refine bE [(7, (.rp (.mp lm))), (8, (.rp (eL aI r))), (9, (.rp (eL aK f))), (10, (.rp (eI size))), (11, (.rp (eI hop))), (12, (.rp (eI frm))), (13, (.rp (eI front))), (14, (.lp lo1 0 0)), (16, (eI t28)), (36, (aB (decide ((lN m2) = (1024 : Int)))))] ?_
        refine bP h2 (fun h2 => ?_) (fun h2 => ?_)
        · refine aM ?_
          refine aQ aC 1 ?_
          refine iY 0 lo1 1 0 (aB t14) (aB false) [(aB t14)] [(lo1, 1, [(aB false)])] hO rfl (by kernel_rfl) ?_
          intro H hO
          refine dY ?_
          refine bE [(14, (.lp lo1 0 0))] ?_
          refine bL ?_
          obtain rfl := oI h2
          replace hO : aJ ⟨Hr2, E2, (lL2, o2) :: ((lL, o1) :: (pmG shP lm los2 m2 ++ Fg))⟩ H [(lo1, 1, [(aB false)])] := (show aJ ⟨Hr2, E2, pmG shP lm los2 m2 ++ ((lL2, o2) :: (lL, o1) :: Fg)⟩ H [(lo1, 1, [(aB false)])] from hO).mY (List.perm_middle.trans (List.Perm.cons _ List.perm_middle))
          exact aD (aP (aP (bG (⟨(eG hO hE2 ho2 .dead).1, rfl, _, ⟨los2, hl2, rfl⟩, (eG hO hE2 ho2 _).2⟩))))
        refine bQ ?_
        refine bE [(7, (.rp (.mp lm))), (8, (.rp (eL aI r))), (9, (.rp (eL aK f))), (10, (.rp (eI size))), (11, (.rp (eI hop))), (12, (.rp (eI frm))), (13, (.rp (eI front))), (14, (.lp lo1 0 0)), (16, (eI t28))] ?_
        refine aM ?_
        refine aQ aC 9 ?_
        refine bO 7 ?_
        refine kN 3 (.agg [(eI (aX.mk t28 (if (1125899906842624 : Int) < (wR (t28 + size)) then (1125899906842624 : Int) else (wR (t28 + size)))).From), (eI (aX.mk t28 (if (1125899906842624 : Int) < (wR (t28 + size)) then (1125899906842624 : Int) else (wR (t28 + size)))).To), (.sl true 0 (fun _ => .bad))]) (by kernel_rfl) (by kernel_rfl) hO ?_
        intro lo3 H hO
        refine bC ?_
        refine ZU 1 3 lo3 2 2 [(eI (aX.mk t28 (if (1125899906842624 : Int) < (wR (t28 + size)) then (1125899906842624 : Int) else (wR (t28 + size)))).From), (eI (aX.mk t28 (if (1125899906842624 : Int) < (wR (t28 + size)) then (1125899906842624 : Int) else (wR (t28 + size)))).To), (.sl true 0 (fun _ => .bad))] (fun _ => .bad) (fun lo4 => [(lo1, 1, [(aB t14)]), (lo3, 3, [(.agg [(eI (aX.mk t28 (if (1125899906842624 : Int) < (wR (t28 + size)) then (1125899906842624 : Int) else (wR (t28 + size)))).From), (eI (aX.mk t28 (if (1125899906842624 : Int) < (wR (t28 + size)) then (1125899906842624 : Int) else (wR (t28 + size)))).To), (.msl 2 lo4 0 0)])]), (lo4, 2, [])]) hO (by kernel_rfl) (by kernel_rfl) (fun _ => by kernel_rfl) ?_
        intro lo4 H hO
        refine bE [(7, (.rp (.mp lm))), (8, (.rp (eL aI r))), (9, (.rp (eL aK f))), (10, (.rp (eI size))), (11, (.rp (eI hop))), (12, (.rp (eI frm))), (13, (.rp (eI front))), (14, (.lp lo1 0 0)), (16, (eI t28)), (17, (.lp lo3 0 0))] ?_
        refine aQ aC 4 ?_
        refine bO 3 ?_
        refine VB (f := oH) (mty := 63) t28 (some lo3) hO ?_
        intro H hO
        refine dY ?_
        replace hO := hO.pick (L' := [(lo3, 3, [(.agg [(eI (aX.mk t28 (if (1125899906842624 : Int) < (wR (t28 + size)) then (1125899906842624 : Int) else (wR (t28 + size)))).From), (eI (aX.mk t28 (if (1125899906842624 : Int) < (wR (t28 + size)) then (1125899906842624 : Int) else (wR (t28 + size)))).To), (.msl 2 lo4 0 0)])]), (lo4, 2, []), (lo1, 1, [(aB t14)])]) [1, 2, 0] (by decide) (by kernel_rfl)
        exact aD (aF ⟨rfl, lo3, lo4, _, _, (aR.mk (aX.mk t28 (if (1125899906842624 : Int) < (wR (t28 + size)) then (1125899906842624 : Int) else (wR (t28 + size)))) []), .eq (by kernel_rfl), TO hl2 hg, hO, h2⟩)
      | some p0 =>
        rw [hg] at h2
        obtain ⟨a, bb, R, e1, hP, hO⟩ := aJ.focus (sh := shP) (los := los2) (m := m2) (G := (lL2, o2) :: (lL, o1) :: Fg) hO hl2 hg
        rw [e1]
        refine iA [(7, (.rp (.mp lm))), (8, (.rp (eL aI r))), (9, (.rp (eL aK f))), (10, (.rp (eI size))), (11, (.rp (eI hop))), (12, (.rp (eI frm))), (13, (.rp (eI front))), (14, (.lp lo1 0 0)), (16, (eI t28)), (17, (.lp a 0 0))] ?_
        refine aM ?_
        refine aQ aC 2 ?_
        refine bO 1 ?_
        refine LC false ?_
        refine dY ?_
        refine bE [(7, (.rp (.mp lm))), (8, (.rp (eL aI r))), (9, (.rp (eL aK f))), (10, (.rp (eI size))), (11, (.rp (eI hop))), (12, (.rp (eI frm))), (13, (.rp (eI front))), (14, (.lp lo1 0 0)), (16, (eI t28)), (17, (.lp a 0 0)), (33, (aB false))] ?_
        refine lS (false) (fun hc => by cases hc) (fun hc => ?_)
        refine bQ ?_
        exact aD (aF ⟨rfl, a, bb, _, R, p0, .eq (by kernel_rfl), hP, hO, h2⟩)
    · intro b2 lL2 H' G' hi hO
      rcases oi with s | s
      · dsimp only [Sum.elim_inl] at hi
        obtain ⟨los2, hl2, rfl⟩ := hi
        obtain rfl := oI h1
        obtain ⟨hlL, hO⟩ := CQ hO
        refine ⟨_, _, hlL, (by intro e; cases e), ?_⟩
        refine gT [(7, (.rp (.mp lm))), (8, (.rp (eL aI r))), (9, (.rp (eL aK f))), (10, (.rp (eI size))), (11, (.rp (eI hop))), (12, (.rp (eI frm))), (13, (.rp (eI front))), (14, (.lp lo1 0 0))] ?_
        exact aD (aU (aU (⟨(eG hO hE ho1 .dead).1, rfl, _, ⟨los2, hl2, rfl⟩, (eG hO hE ho1 _).2⟩)))
      · dsimp only [Sum.elim_inr] at hi
        obtain ⟨los2, hl2, rfl⟩ := hi
        obtain rfl := oI h1
        obtain ⟨hlL, hO⟩ := CQ hO
        refine ⟨_, _, hlL, (by intro e; cases e), ?_⟩
        refine bL ?_
        exact aD (bG (bG (⟨(eG hO hE ho1 .dead).1, rfl, _, ⟨los2, hl2, rfl⟩, (eG hO hE ho1 _).2⟩)))
  · intro b lD lL H' G' hi hO
    rcases o0 with s | s
    · dsimp only [Sum.elim_inl] at hi
      obtain ⟨los1, hl1, rfl⟩ := hi
      obtain rfl := oI h0
      obtain ⟨hlL, hO⟩ := mC hO
      refine ⟨_, _, hlL, (by intro e; cases e), ?_⟩
      refine gT [(14, (.lp lo1 0 0))] ?_
      refine aD (aU (aF (?_)))
      refine aM ?_
      refine aQ aC 1 ?_
      refine iY 0 lo1 1 0 (aB s.1) (aB true) [(aB s.1)] [(lo1, 1, [(aB true)])] hO rfl (by kernel_rfl) ?_
      intro H hO
      refine dY ?_
      refine bE [(14, (.lp lo1 0 0))] ?_
      refine bL ?_
      have hD := (hO.gm 0 _ rfl).2
      replace hO := (hO.nG .dead).nT
      exact aD (QM1 (.inr rfl) hD (rs := [.cell 14 4]) (xs := [(aB true)]) (x := (aB true)) (by kernel_rfl) (iC (lo := lo1) (k := 1) (y := (aB true)) (x := (aB true)) 0 hO (by kernel_rfl) (by kernel_rfl) (by kernel_rfl) (by kernel_rfl) lU) (by kernel_rfl) ⟨_, [], ⟨los1, hl1, rfl, rfl, rfl⟩, hO.pick (L' := []) [] (by decide) (by kernel_rfl)⟩)
    · dsimp only [Sum.elim_inr] at hi
      obtain ⟨los1, hl1, rfl⟩ := hi
      obtain rfl := oI h0
      obtain ⟨hlL, hO⟩ := mC hO
      refine ⟨_, _, hlL, (by intro e; cases e), ?_⟩
      refine bL ?_
      refine aD (bG (aP ?_))
      have hD := (hO.gm 0 _ rfl).2
      replace hO := (hO.nG .dead).nT
      exact QM1 (.inr rfl) hD (rs := [.cell 14 4]) (xs := [(aB s.1)]) (x := (aB s.1)) (by kernel_rfl) (iC (lo := lo1) (k := 1) (y := (aB s.1)) (x := (aB s.1)) 0 hO (by kernel_rfl) (by kernel_rfl) (by kernel_rfl) (by kernel_rfl) lU) (by kernel_rfl) ⟨_, [], ⟨los1, hl1, rfl, rfl, rfl⟩, hO.pick (L' := []) [] (by decide) (by kernel_rfl)⟩

theorem NI (l0 : (List bH)) (nV : Int) (hop2 : Int) (cD : Int) (bV : Int) (r : ((List aR) × Int)) (h0 : sM l0 nV hop2 cD bV = some r) : dU Try.prog 16 [(eL bS l0), (eI nV), (eI hop2), (eI cD), (eI bV)] (.tup [(eL aW r.1), (eI r.2)]) := by
  intro H0
  refine yN aC Try.func16 (by kernel_rfl) (by kernel_rfl) (by kernel_rfl) ?_
  have hO := aJ.start H0
  unfold sM at h0
  refine aM ?_
  refine aQ aC 6 ?_
  refine fX 1 (eI nV) (by kernel_rfl) (by kernel_rfl) ?_
  refine fX 1 (eI hop2) (by kernel_rfl) (by kernel_rfl) ?_
  refine fX 1 (eI cD) (by kernel_rfl) (by kernel_rfl) ?_
  refine fX 1 (eI bV) (by kernel_rfl) (by kernel_rfl) ?_
  refine yX 1 (.sl true 0 (fun _ => .bad)) (eL aW ([])) (by kernel_rfl) (by kernel_rfl) (by kernel_rfl) (lO) (by kernel_rfl) (by kernel_rfl) hO ?_
  intro lo1 H hO
  refine kN 1 (eI 0) (by kernel_rfl) (by kernel_rfl) hO ?_
  intro lo2 H hO
  refine dY ?_
  refine bE [(0, (eL bS l0)), (6, (.rp (eI nV))), (7, (.rp (eI hop2))), (8, (.rp (eI cD))), (9, (.rp (eI bV))), (10, (.lp lo1 0 0)), (11, (.lp lo2 0 0))] ?_
  refine aM ?_
  refine cI 0 ?_
  refine aM ?_
  refine aQ aC 10 ?_
  refine bO 2 ?_
  obtain ⟨x3, hx4, h0⟩ := aT h0
  refine fC (BB nV hop2 _ hx4) hO ?_
  intro H hO
  refine bO 6 ?_
  obtain ⟨x6, hx7, h0⟩ := aT h0
  refine mJ [(25, false)] 31 [(eL bS l0)] (aB x6) (!(!x3)) (by kernel_rfl) (by kernel_rfl) (by kernel_rfl) (fun hb8 => (FB l0 _ (jO hx7 hb8))) hO ?_
  intro H hO
  refine bC ?_
  refine cC [] [(20, (aB ((!x3) || (!x6))))] ?_
  refine bP h0 (fun h0 => ?_) (fun h0 => ?_)
  · refine aM ?_
    refine aQ aC 2 ?_
    refine iY 0 lo1 1 0 (eL aW ([])) (.sl true 0 (fun _ => .bad)) [(eL aW ([]))] [(lo1, 1, [(.sl true 0 (fun _ => .bad))]), (lo2, 1, [(eI 0)])] hO rfl (by kernel_rfl) ?_
    intro H hO
    refine iY 1 lo2 1 0 (eI 0) (eI (2 : Int)) [(eI 0)] [(lo1, 1, [(.sl true 0 (fun _ => .bad))]), (lo2, 1, [(eI (2 : Int))])] hO rfl (by kernel_rfl) ?_
    intro H hO
    refine dY ?_
    refine rK 0 lo1 1 (.sl true 0 (fun _ => .bad)) (eL aW ([])) [(lo1, 1, [(eL aW ([]))]), (lo2, 1, [(eI (2 : Int))])] hO (by kernel_rfl) (by kernel_rfl) lO (by kernel_rfl) ?_
    intro H hO
    refine bE [(10, (.lp lo1 0 0)), (11, (.lp lo2 0 0))] ?_
    refine bL ?_
    obtain rfl := oI h0
    exact aD (bG (aP (QM0 (.inr rfl) (rs := [.cell 10 37, .cell 11 22]) (xs := [(eL aW ([])), (eI (2 : Int))]) (x := (.tup [(eL aW ([])), (eI (2 : Int))])) (by kernel_rfl) (iC (lo := lo1) (k := 1) (y := (eL aW ([]))) (x := (eL aW ([]))) 0 hO (by kernel_rfl) (by kernel_rfl) (by kernel_rfl) (by kernel_rfl) (iC (lo := lo2) (k := 1) (y := (eI (2 : Int))) (x := (eI (2 : Int))) 1 hO (by kernel_rfl) (by kernel_rfl) (by kernel_rfl) (by kernel_rfl) lU)) (by kernel_rfl) ⟨rfl, hO.out⟩)))
  refine aM ?_
  refine aQ aC 4 ?_
  refine bO 1 ?_
  obtain ⟨x10, hx11, h0⟩ := aT h0
  refine fC (KM l0 _ hx11) hO ?_
  intro H hO
  refine bC ?_
  refine cC [20] [(30, (aB (!x10)))] ?_
  refine bP h0 (fun h0 => ?_) (fun h0 => ?_)
  · refine aM ?_
    refine aQ aC 2 ?_
    refine iY 0 lo1 1 0 (eL aW ([])) (.sl true 0 (fun _ => .bad)) [(eL aW ([]))] [(lo1, 1, [(.sl true 0 (fun _ => .bad))]), (lo2, 1, [(eI 0)])] hO rfl (by kernel_rfl) ?_
    intro H hO
    refine iY 1 lo2 1 0 (eI 0) (eI (20 : Int)) [(eI 0)] [(lo1, 1, [(.sl true 0 (fun _ => .bad))]), (lo2, 1, [(eI (20 : Int))])] hO rfl (by kernel_rfl) ?_
    intro H hO
    refine dY ?_
    refine rK 0 lo1 1 (.sl true 0 (fun _ => .bad)) (eL aW ([])) [(lo1, 1, [(eL aW ([]))]), (lo2, 1, [(eI (20 : Int))])] hO (by kernel_rfl) (by kernel_rfl) lO (by kernel_rfl) ?_
    intro H hO
    refine bE [(10, (.lp lo1 0 0)), (11, (.lp lo2 0 0))] ?_
    refine bL ?_
    obtain rfl := oI h0
    exact aD (bG (aP (QM0 (.inr rfl) (rs := [.cell 10 37, .cell 11 22]) (xs := [(eL aW ([])), (eI (20 : Int))]) (x := (.tup [(eL aW ([])), (eI (20 : Int))])) (by kernel_rfl) (iC (lo := lo1) (k := 1) (y := (eL aW ([]))) (x := (eL aW ([]))) 0 hO (by kernel_rfl) (by kernel_rfl) (by kernel_rfl) (by kernel_rfl) (iC (lo := lo2) (k := 1) (y := (eI (20 : Int))) (x := (eI (20 : Int))) 1 hO (by kernel_rfl) (by kernel_rfl) (by kernel_rfl) (by kernel_rfl) lU)) (by kernel_rfl) ⟨rfl, hO.out⟩)))
  refine aM ?_
  refine aQ aC 9 ?_
  refine bO 1 ?_
  obtain ⟨x14, hx15, h0⟩ := aT h0
  refine fC (tV cD _ hx15) hO ?_
  intro H hO
  refine bO 5 ?_
  obtain ⟨x17, hx18, h0⟩ := aT h0
  refine mJ [(38, false)] 25 [(eI bV)] (aB x17) (!(!x14)) (by kernel_rfl) (by kernel_rfl) (by kernel_rfl) (fun hb19 => (tV bV _ (jO hx18 hb19))) hO ?_
  intro H hO
  refine bC ?_
  refine cC [30] [(34, (aB ((!x14) || (!x17))))] ?_
  refine bP h0 (fun h0 => ?_) (fun h0 => ?_)
  · refine aM ?_
    refine aQ aC 2 ?_
    refine iY 0 lo1 1 0 (eL aW ([])) (.sl true 0 (fun _ => .bad)) [(eL aW ([]))] [(lo1, 1, [(.sl true 0 (fun _ => .bad))]), (lo2, 1, [(eI 0)])] hO rfl (by kernel_rfl) ?_
    intro H hO
    refine iY 1 lo2 1 0 (eI 0) (eI (13 : Int)) [(eI 0)] [(lo1, 1, [(.sl true 0 (fun _ => .bad))]), (lo2, 1, [(eI (13 : Int))])] hO rfl (by kernel_rfl) ?_
    intro H hO
    refine dY ?_
    refine rK 0 lo1 1 (.sl true 0 (fun _ => .bad)) (eL aW ([])) [(lo1, 1, [(eL aW ([]))]), (lo2, 1, [(eI (13 : Int))])] hO (by kernel_rfl) (by kernel_rfl) lO (by kernel_rfl) ?_
    intro H hO
    refine bE [(10, (.lp lo1 0 0)), (11, (.lp lo2 0 0))] ?_
    refine bL ?_
    obtain rfl := oI h0
    exact aD (bG (aP (QM0 (.inr rfl) (rs := [.cell 10 37, .cell 11 22]) (xs := [(eL aW ([])), (eI (13 : Int))]) (x := (.tup [(eL aW ([])), (eI (13 : Int))])) (by kernel_rfl) (iC (lo := lo1) (k := 1) (y := (eL aW ([]))) (x := (eL aW ([]))) 0 hO (by kernel_rfl) (by kernel_rfl) (by kernel_rfl) (by kernel_rfl) (iC (lo := lo2) (k := 1) (y := (eI (13 : Int))) (x := (eI (13 : Int))) 1 hO (by kernel_rfl) (by kernel_rfl) (by kernel_rfl) (by kernel_rfl) lU)) (by kernel_rfl) ⟨rfl, hO.out⟩)))
  refine bQ ?_
  refine gT [(0, (eL bS l0)), (6, (.rp (eI nV))), (7, (.rp (eI hop2))), (8, (.rp (eI cD))), (9, (.rp (eI bV))), (10, (.lp lo1 0 0)), (11, (.lp lo2 0 0))] ?_
  refine aD (aU (aF (?_)))
  unfold wL at h0
  refine aM ?_
  refine aQ aC 3 ?_
  refine SQ (β := Option Nat) oH (t := 63) hO ?_
  intro lm H hO
  refine kN 1 (.lit (.map none)) (by kernel_rfl) (by kernel_rfl) hO ?_
  intro lo12 H hO
  refine iY 2 lo12 1 0 (.lit (.map none)) (.mp lm) [(.lit (.map none))] [(lo1, 1, [(eL aW ([]))]), (lo2, 1, [(eI 0)]), (lo12, 1, [(.mp lm)])] hO rfl (by kernel_rfl) ?_
  intro H hO
  replace hO : aJ ⟨H0, [], pmG shP lm [] [] ++ []⟩ H [(lo1, 1, [(eL aW ([]))]), (lo2, 1, [(eI 0)]), (lo12, 1, [(.mp lm)])] := hO
  refine dY ?_
  refine bE [(0, (eL bS l0)), (6, (.rp (eI nV))), (7, (.rp (eI hop2))), (8, (.rp (eI cD))), (9, (.rp (eI bV))), (10, (.lp lo1 0 0)), (11, (.lp lo2 0 0)), (12, (.lp lo12 0 0))] ?_
  refine aM ?_
  refine aM ?_
  refine aQ aC 2 ?_
  refine bO 1 ?_
  obtain ⟨x1, hx1, h0⟩ := aT h0
  refine fC (JD l0 _ hx1) hO ?_
  intro H hO
  refine dY ?_
  refine bE [(6, (.rp (eI nV))), (7, (.rp (eI hop2))), (8, (.rp (eI cD))), (9, (.rp (eI bV))), (10, (.lp lo1 0 0)), (11, (.lp lo2 0 0)), (12, (.lp lo12 0 0)), (45, (.fn (.func 55) [] [(.rp (eL bS x1))]))] ?_
  refine cI 1 ?_
  obtain ⟨o0, hl0, h0⟩ := aT h0
  refine wV (fid := 55) (ys := []) (cs := [(.rp (eL bS x1))]) #[46, 47] (fun (A : qQ) (b lL : Nat) (st : (List aR × Int × List (Int × aR)) ⊕ (List aR × Int × List (Int × aR))) (G' : Gs) => Sum.elim (fun (s : List aR × Int × List (Int × aR)) => ∃ los : List (Nat × Nat), los.length = s.2.2.length ∧ G' = (lL, .raw (fV b A .ready none)) :: (up [(lo1, 1, [(eL aW (s.1))]), (lo2, 1, [(eI (s.2.1))]), (lo12, 1, [(.mp lm)])] ++ (pmG shP lm los s.2.2 ++ []))) (fun (s : List aR × Int × List (Int × aR)) => ∃ los : List (Nat × Nat), los.length = s.2.2.length ∧ G' = (lL, .raw (fV b A .done (some .ret))) :: (up [(lo1, 1, [(eL aW (s.1))]), (lo2, 1, [(eI (s.2.1))]), (lo12, 1, [(.mp lm)])] ++ (pmG shP lm los s.2.2 ++ []))) st) (.inl ([], 0, [])) o0 (.tup []) (by kernel_rfl) (by kernel_rfl) (by kernel_rfl) hO (fun _ _ => ⟨[], rfl, rfl⟩) ?_ ?_
  · intro b lL
    clear hO h0
    refine CN _ b (fun st t46 t47 => rnd (fun (q : List aR × Int × List (Int × aR)) => lH nV hop2 cD bV q.1 q.2.1 q.2.2 t46 t47) st) ?_ x1 _ _ hl0
    intro st t46 t47 out1 rr hr
    obtain ⟨s, rfl, h1, rfl⟩ := HD hr
    clear hr
    intro Hr Gr hi hg
    obtain ⟨t10, t11, m⟩ := s
    dsimp only [Sum.elim_inl] at hi
    obtain ⟨los, hl, rfl⟩ := hi
    replace h1 : lH nV hop2 cD bV t10 t11 m t46 t47 = some out1 := h1
    unfold lH at h1
    obtain ⟨E1, hE, hO⟩ := qF hg
    refine qA (uH (hO.gm 0 _ rfl).2 (by kernel_rfl) (by kernel_rfl) ?_)
    refine iA [(6, (.rp (eI nV))), (7, (.rp (eI hop2))), (8, (.rp (eI cD))), (9, (.rp (eI bV))), (10, (.lp lo1 0 0)), (11, (.lp lo2 0 0)), (12, (.lp lo12 0 0)), (46, (eL aI t46)), (47, (eL aK t47))] ?_
    refine cO aC 1 [(6, (.rp (eI nV))), (7, (.rp (eI hop2))), (8, (.rp (eI cD))), (9, (.rp (eI bV))), (10, (.lp lo1 0 0)), (11, (.lp lo2 0 0)), (12, (.lp lo12 0 0)), (13, (eL aI t46)), (47, (eL aK t47))] ?_
    refine aQ aC 1 ?_
    refine bC ?_
    refine gT [(6, (.rp (eI nV))), (7, (.rp (eI hop2))), (8, (.rp (eI cD))), (9, (.rp (eI bV))), (10, (.lp lo1 0 0)), (11, (.lp lo2 0 0)), (12, (.lp lo12 0 0)), (13, (eL aI t46)), (14, (eL aK t47))] ?_
    refine aD (⟨rfl, rfl, (hO.gm 0 _ rfl).2, ?_⟩)
    intro o1 ho1
    replace hO := hO.nG o1
    refine cI 2 ?_
    refine aM ?_
    refine aQ aC 9 ?_
    refine mW 2 lo12 1 0 (.mp lm) (.mp lm) [(.mp lm)] hO rfl ?_
    refine bO 7 ?_
    obtain ⟨x2, hx2, h1⟩ := aT h1
    replace hO : aJ ⟨Hr, E1, pmG shP lm los m ++ ((lL, o1) :: [])⟩ _ [(lo1, 1, [(eL aW t10)]), (lo2, 1, [(eI t11)]), (lo12, 1, [(.mp lm)])] := hO.mY List.perm_middle.symm
    refine aAG (pmG shP lm los m) [(lo1, 1, [(eL aW t10)]), (lo2, 1, [(eI t11)]), (lo12, 1, [(.mp lm)])] [0, 1, 2] (KP lm los m hl t46 t47 nV hop2 cD bV _ hx2) hO ?_
    intro r1 M1 L1 H hP hO
    obtain ⟨los', hl', rfl, rfl, rfl⟩ := hP
    replace hO : aJ ⟨Hr, E1, (lL, o1) :: (pmG shP lm los' x2.2 ++ [])⟩ H [(lo1, 1, [(eL aW t10)]), (lo2, 1, [(eI t11)]), (lo12, 1, [(.mp lm)])] := hO.mY List.perm_middle
    refine bC ?_
    refine bE [(10, (.lp lo1 0 0)), (11, (.lp lo2 0 0)), (12, (.lp lo12 0 0)), (56, (aB (!x2.1)))] ?_
    refine bP h1 (fun h1 => ?_) (fun h1 => ?_)
    · refine aM ?_
      refine aQ aC 2 ?_
      refine iY 0 lo1 1 0 (eL aW t10) (.sl true 0 (fun _ => .bad)) [(eL aW t10)] [(lo1, 1, [(.sl true 0 (fun _ => .bad))]), (lo2, 1, [(eI t11)]), (lo12, 1, [(.mp lm)])] hO rfl (by kernel_rfl) ?_
      intro H hO
      refine iY 1 lo2 1 0 (eI t11) (eI (7 : Int)) [(eI t11)] [(lo1, 1, [(.sl true 0 (fun _ => .bad))]), (lo2, 1, [(eI (7 : Int))]), (lo12, 1, [(.mp lm)])] hO rfl (by kernel_rfl) ?_
      intro H hO
      refine dY ?_
      refine rK 0 lo1 1 (.sl true 0 (fun _ => .bad)) (eL aW []) [(lo1, 1, [(eL aW ([]))]), (lo2, 1, [(eI ((7 : Int)))]), (lo12, 1, [(.mp lm)])] hO (by kernel_rfl) (by kernel_rfl) lO (by kernel_rfl) ?_
      intro H hO
      refine bE [(10, (.lp lo1 0 0)), (11, (.lp lo2 0 0))] ?_
      refine bL ?_
      obtain rfl := oI h1
      exact aD (bG (⟨(eG hO hE ho1 .dead).1, rfl, _, ⟨los', hl', rfl⟩, (eG hO hE ho1 _).2⟩))
    · refine bQ ?_
      obtain rfl := oI h1
      refine gT [(10, (.lp lo1 0 0)), (11, (.lp lo2 0 0))] ?_
      exact aD (aU (⟨(eG hO hE ho1 .dead).1, rfl, _, ⟨los', hl', rfl⟩, (eG hO hE ho1 _).2⟩))
  · intro b lD lL H' G' hi hO
    rcases o0 with s | s
    · obtain ⟨t10, t11, m⟩ := s
      dsimp only [Sum.elim_inl] at hi
      obtain ⟨los, hl, rfl⟩ := hi
      replace h0 : rG m = some r := h0
      obtain ⟨hlL, hO⟩ := mC hO
      refine ⟨_, _, hlL, (by intro e; cases e), ?_⟩
      refine gT [(10, (.lp lo1 0 0)), (11, (.lp lo2 0 0)), (12, (.lp lo12 0 0))] ?_
      refine aD (aU (aF (?_)))
      unfold rG at h0
      replace hO : aJ ⟨H0, [], up (pmL shP los m) ++ ((lm, oB oH (pmM los m)) :: [(lD, .raw oS)])⟩ _ [(lo1, 1, [(eL aW t10)]), (lo2, 1, [(eI t11)]), (lo12, 1, [(.mp lm)])] := hO.mY (by
        show ((lD, cV.raw oS) :: (((lm, oB oH (pmM los m)) :: up (pmL shP los m)) ++ [])).Perm _
        rw [List.append_nil]
        refine List.Perm.trans ?_ List.perm_middle.symm
        refine (List.Perm.swap _ _ _).trans (List.Perm.cons _ ?_)
        exact (List.perm_append_comm (l₁ := [(lD, cV.raw oS)])))
      refine CX 3 2 2 (fun b p => [(eI p.Span.From), (eI p.Span.To), (.msl 2 b 0 (List.length p.Rows))]) aR.Rows kW aW (fun _ _ _ => rfl) (fun _ _ => rfl) (fun _ _ => rfl) m los hl hO fun H hO => ?_
      replace hO : aJ ⟨H0, [], (lm, oB oH (pmM los m)) :: (up (pmL shF los m) ++ [(lD, .raw oS)])⟩ H [(lo1, 1, [(eL aW t10)]), (lo2, 1, [(eI t11)]), (lo12, 1, [(.mp lm)])] := hO.mY List.perm_middle
      refine aM ?_
      refine aQ aC 4 ?_
      refine mW 2 lo12 1 0 (.mp lm) (.mp lm) [(.mp lm)] hO rfl ?_
      refine MG (mty := 63) hO ?_
      rw [GI hl]
      obtain ⟨c1, h0⟩ := aY h0
      refine GJ 1 8 (lN m) (by kernel_rfl) (by kernel_rfl) c1 hO ?_
      intro lo15 H hO
      refine bC ?_
      refine bE [(10, (.lp lo1 0 0)), (11, (.lp lo2 0 0)), (12, (.lp lo12 0 0)), (15, (.msl 1 lo15 0 (List.length ([] : List Int))))] ?_
      refine aM ?_
      refine aM ?_
      refine aQ aC 2 ?_
      refine mW 2 lo12 1 0 (.mp lm) (.mp lm) [(.mp lm)] hO rfl ?_
      refine PW (mty := 63) hO ?_
      intro li bs ck H hmb hmn hO
      refine dY ?_
      refine bE [(10, (.lp lo1 0 0)), (11, (.lp lo2 0 0)), (12, (.lp lo12 0 0)), (15, (.msl 1 lo15 0 (List.length ([] : List Int)))), (61, (.lp li 0 0))] ?_
      refine cI 3 ?_
      refine TA (by kernel_rfl) (fun (s : List Int) (seen : List Nat) T H => ∃ lo15 : Nat, Has T [(10, (.lp lo1 0 0)), (11, (.lp lo2 0 0)), (12, (.lp lo12 0 0)), (15, (.msl 1 lo15 0 (List.length s))), (61, (.lp li 0 0))] ∧ aJ ⟨H0, [], (li, GW li lm ck seen) :: (lm, AF oH (pmM los m) bs ck) :: (up (pmL shF los m) ++ [(lD, .raw oS)])⟩ H [(lo1, 1, [(eL aW t10)]), (lo2, 1, [(eI t11)]), (lo12, 1, [(.mp lm)]), (lo15, 1, List.map (eI) s)]) hmb (YF hl h0) ⟨lo15, .eq (by kernel_rfl), hO⟩ ?_
      clear hO h0 c1
      rintro seen rem s T H ⟨lo15, hT, hO⟩ hleft hall
      refine bM (l := [(10, (.lp lo1 0 0)), (11, (.lp lo2 0 0)), (12, (.lp lo12 0 0)), (15, (.msl 1 lo15 0 (List.length s))), (61, (.lp li 0 0))]) hT ?_
      clear hT
      refine aM ?_
      refine aQ aC 2 ?_
      refine UB hmb hmn hleft hall hO (fun h0 => ?_) (fun mk mv bq rest out1 H h1 hlt hleft hall hat hO => ?_)
      · clear hall hleft
        unfold wM at h0
        refine bC ?_
        refine bE [(10, (.lp lo1 0 0)), (11, (.lp lo2 0 0)), (12, (.lp lo12 0 0)), (15, (.msl 1 lo15 0 (List.length s))), (63, (aB false))] ?_
        refine aM ?_
        refine lS (false) (fun hc => by cases hc) (fun hc => ?_)
        refine jI 3 ?_
        replace hO := hO.nT
        refine TB hO fun H hO => ?_
        refine gT [(10, (.lp lo1 0 0)), (11, (.lp lo2 0 0)), (12, (.lp lo12 0 0)), (15, (.msl 1 lo15 0 (List.length s)))] ?_
        refine aD (aV (aV (cH (aF (?_)))))
        refine aM ?_
        refine aQ aC 2 ?_
        refine bO 1 ?_
        obtain ⟨b1, hb1, h0⟩ := aT h0
        refine uF [(lo1, 1, [(eL aW t10)]), (lo2, 1, [(eI t11)]), (lo12, 1, [(.mp lm)]), (lo15, 1, List.map (eI) b1)] 3 (yH lo15 s _ hb1) hO ?_
        intro H hO hlen
        simp only [List.length_map] at hlen
        refine dY ?_
        rw [← hlen]
        refine bE [(10, (.lp lo1 0 0)), (11, (.lp lo2 0 0)), (12, (.lp lo12 0 0)), (15, (.msl 1 lo15 0 (List.length b1)))] ?_
        refine aM ?_
        refine aQ aC 4 ?_
        refine bO 2 ?_
        obtain ⟨c2, h0⟩ := aY h0
        refine GJ 3 40 (lN b1) (by kernel_rfl) (by kernel_rfl) c2 hO ?_
        intro lo17 H hO
        refine bC ?_
        refine bE [(10, (.lp lo1 0 0)), (11, (.lp lo2 0 0)), (12, (.lp lo12 0 0)), (15, (.msl 1 lo15 0 (List.length b1))), (17, (.msl 3 lo17 0 (List.length ([] : List aR))))] ?_
        refine aM ?_
        refine cO aC 3 [(10, (.lp lo1 0 0)), (11, (.lp lo2 0 0)), (12, (.lp lo12 0 0)), (15, (.msl 1 lo15 0 (List.length b1))), (17, (.msl 3 lo17 0 (List.length ([] : List aR)))), (75, (.msl 1 lo15 0 (List.length b1))), (76, (eI (lN b1))), (77, (eI (0 : Int)))] ?_
        obtain ⟨out, hlo, h0⟩ := aT h0
        refine cI 5 ?_
        refine eE (by kernel_rfl) (fun (s : List aR × Int) T H => ∃ (lo17 : Nat) (los : List (Nat × Nat)), los.length = m.length ∧ Has T [(10, (.lp lo1 0 0)), (11, (.lp lo2 0 0)), (12, (.lp lo12 0 0)), (15, (.msl 1 lo15 0 (List.length b1))), (17, (.msl 3 lo17 0 (List.length s.1))), (75, (.msl 1 lo15 0 (List.length b1))), (76, (eI (lN b1))), (77, (eI s.2))] ∧ aJ ⟨H0, [], (lm, oB oH (pmM los m)) :: (up (pmL shF los m) ++ [(lD, .raw oS)])⟩ H [(lo1, 1, [(eL aW t10)]), (lo2, 1, [(eI t11)]), (lo12, 1, [(.mp lm)]), (lo15, 1, List.map (eI) b1), (lo17, 3, List.map aW s.1)]) hlo ⟨lo17, los, hl, .eq (by kernel_rfl), hO⟩ ?_
        clear hO c2
        rintro k s out1 T H ⟨lo17, los, hl, hT, hO⟩ h1 ho
        obtain ⟨o17, i77⟩ := s
        replace h1 : oQ m b1 (lN b1) o17 i77 = some out1 := h1
        dsimp only at hT
        refine bM hT ?_
        clear hT
        unfold oQ at h1
        refine cO aC 1 [(10, (.lp lo1 0 0)), (11, (.lp lo2 0 0)), (12, (.lp lo12 0 0)), (15, (.msl 1 lo15 0 (List.length b1))), (17, (.msl 3 lo17 0 (List.length o17))), (75, (.msl 1 lo15 0 (List.length b1))), (76, (eI (lN b1))), (77, (eI i77)), (78, (aB (decide (i77 < (lN b1)))))] ?_
        refine aM ?_
        refine bP h1 (fun h1 => ?_) (fun h1 => ?_)
        · refine bQ ?_
          refine bE [(10, (.lp lo1 0 0)), (11, (.lp lo2 0 0)), (12, (.lp lo12 0 0)), (15, (.msl 1 lo15 0 (List.length b1))), (17, (.msl 3 lo17 0 (List.length o17))), (75, (.msl 1 lo15 0 (List.length b1))), (76, (eI (lN b1))), (77, (eI i77))] ?_
          refine aM ?_
          refine cI 6 ?_
          refine aM ?_
          obtain ⟨c3, h1⟩ := aY h1
          refine aQ aC 3 ?_
          refine yS 1 [0 ≤ i77 ∧ i77 < (lN b1)] ⟨c3, trivial⟩ ?_
          refine mW 3 lo15 1 (0 + Int.toNat i77) (eI (gD b1 i77)) (eI (gD b1 i77)) (List.map (eI) b1) hO (bX c3) ?_
          refine bC ?_
          refine bE [(10, (.lp lo1 0 0)), (11, (.lp lo2 0 0)), (12, (.lp lo12 0 0)), (15, (.msl 1 lo15 0 (List.length b1))), (17, (.msl 3 lo17 0 (List.length o17))), (75, (.msl 1 lo15 0 (List.length b1))), (76, (eI (lN b1))), (77, (eI i77)), (19, (eI (gD b1 i77)))] ?_
          cases hg : fA m (gD b1 i77) with
          | none => rw [hg] at h1; cases h1
          | some p =>
            rw [hg] at h1
            obtain ⟨c4, h1⟩ := aY h1
            obtain ⟨a, bb, R, e1, hP, hO⟩ := aJ.focus (sh := shF) (los := los) (m := m) (G := [(lD, .raw oS)]) hO hl hg
            replace hO : aJ ⟨H0, [], (lm, oB oH (pmM los m)) :: (up R ++ [(lD, .raw oS)])⟩ _ [(a, 3, [(aW p)]), (lo1, 1, [(eL aW t10)]), (lo2, 1, [(eI t11)]), (lo12, 1, [(.mp lm)]), (lo15, 1, List.map (eI) b1), (lo17, 3, List.map aW o17)] := hO
            refine aQ aC 9 ?_
            refine bO 1 ?_
            refine mW 3 lo12 1 0 (.mp lm) (.mp lm) [(.mp lm)] hO rfl ?_
            refine bO 3 ?_
            refine KF (f := oH) (mty := 63) (ok := false) aC (gD b1 i77) none hO ?_
            rw [e1]
            refine bO 5 ?_
            refine mW 0 a 3 0 (aW p) (aW p) [(aW p)] hO rfl ?_
            refine uT (xs := [(aW p)]) (k := 3) (by kernel_rfl) (by kernel_rfl) ?_
            refine yO (e := aW) o17 ([p]) 5 lo17 3 40 (iJ [(aW p)]) (fun lo18 => [(a, 3, [(aW p)]), (lo1, 1, [(eL aW t10)]), (lo2, 1, [(eI t11)]), (lo12, 1, [(.mp lm)]), (lo15, 1, List.map (eI) b1), (lo18, 3, List.map aW (o17 ++ ([p])))]) (by kernel_rfl) (by kernel_rfl) hO (by kernel_rfl) (by kernel_rfl) c4 (fun _ => by kernel_rfl) ?_
            intro lo18 H hO
            refine bC ?_
            refine gT [(10, (.lp lo1 0 0)), (11, (.lp lo2 0 0)), (12, (.lp lo12 0 0)), (15, (.msl 1 lo15 0 (List.length b1))), (17, (.msl 3 lo18 0 (List.length (o17 ++ [p])))), (75, (.msl 1 lo15 0 (List.length b1))), (76, (eI (lN b1))), (77, (eI i77))] ?_
            refine aD (aU (aF (?_)))
            refine aQ aC 2 ?_
            refine bC ?_
            obtain rfl := oI h1
            obtain ⟨los', hl', hO⟩ := aJ.OE (sh := shF) (x := p) (b := bb) (G := [(lD, .raw oS)]) hO hP
            rw [IJ hg] at hl' hO
            exact aD (⟨rfl, _, rfl, lo18, los', hl', .eq (by kernel_rfl), hO⟩)
        · refine jI 5 ?_
          obtain rfl := oI h1
          obtain rfl : _ = out := ho
          obtain rfl := oI h0
          refine gT [(10, (.lp lo1 0 0)), (11, (.lp lo2 0 0)), (12, (.lp lo12 0 0)), (17, (.msl 3 lo17 0 (List.length o17)))] ?_
          refine BP (en := aW) o17 3 4 17 3 lo17 (List.length o17) hO (by kernel_rfl) (by kernel_rfl) (by kernel_rfl) (L' := [(lo1, 1, [(eL aW t10)]), (lo2, 1, [(eI t11)]), (lo12, 1, [(.mp lm)]), (lo15, 1, List.map (eI) b1)]) (by kernel_rfl) ?_
          intro H hO
          refine aD (aV (aV (cH (aF (?_)))))
          refine iA [(10, (.lp lo1 0 0)), (11, (.lp lo2 0 0)), (12, (.lp lo12 0 0)), (17, (eL aW o17))] ?_
          refine aM ?_
          refine aQ aC 3 ?_
          refine bO 1 ?_
          refine iY 0 lo1 1 0 (eL aW t10) (eL aW o17) [(eL aW t10)] [(lo1, 1, [(eL aW o17)]), (lo2, 1, [(eI t11)]), (lo12, 1, [(.mp lm)]), (lo15, 1, List.map (eI) b1)] hO rfl (by kernel_rfl) ?_
          intro H hO
          refine iY 1 lo2 1 0 (eI t11) (eI (0 : Int)) [(eI t11)] [(lo1, 1, [(eL aW o17)]), (lo2, 1, [(eI ((0 : Int)))]), (lo12, 1, [(.mp lm)]), (lo15, 1, List.map (eI) b1)] hO rfl (by kernel_rfl) ?_
          intro H hO
          refine dY ?_
          refine bE [(10, (.lp lo1 0 0)), (11, (.lp lo2 0 0))] ?_
          refine bL ?_
          replace hO := hO.mY (G' := (lD, .raw oS) :: ((lm, oB oH (pmM los m)) :: up (pmL shF los m))) (by
            refine (List.Perm.cons _ List.perm_append_comm).trans ?_
            exact List.Perm.swap _ _ _)
          have hD := (hO.gm 0 _ rfl).2
          replace hO := (hO.nG .dead).nT
          exact aD (QM1 (.inr rfl) hD (rs := [.cell 10 37, .cell 11 22]) (xs := [(eL aW o17), (eI (0 : Int))]) (x := (.tup [(eL aW o17), (eI (0 : Int))])) (by kernel_rfl) (iC (lo := lo1) (k := 1) (y := (eL aW o17)) (x := (eL aW o17)) 0 hO (by kernel_rfl) (by kernel_rfl) (by kernel_rfl) (by kernel_rfl) (iC (lo := lo2) (k := 1) (y := (eI (0 : Int))) (x := (eI (0 : Int))) 1 hO (by kernel_rfl) (by kernel_rfl) (by kernel_rfl) (by kernel_rfl) lU)) (by kernel_rfl) ⟨rfl, hO.PV.out⟩)
      replace h1 : oW s mk = some out1 := h1
      unfold oW at h1
      refine bC ?_
      refine bE [(10, (.lp lo1 0 0)), (11, (.lp lo2 0 0)), (12, (.lp lo12 0 0)), (15, (.msl 1 lo15 0 (List.length s))), (61, (.lp li 0 0)), (63, (aB true))] ?_
      refine aM ?_
      refine lS (true) (fun hc => ?_) (fun hc => by cases hc)
      refine bQ ?_
      refine bE [(10, (.lp lo1 0 0)), (11, (.lp lo2 0 0)), (12, (.lp lo12 0 0)), (15, (.msl 1 lo15 0 (List.length s))), (61, (.lp li 0 0))] ?_
      refine cI 4 ?_
      refine aM ?_
      refine aQ aC 3 ?_
      refine RF hat hO ?_
      refine bC ?_
      refine bE [(10, (.lp lo1 0 0)), (11, (.lp lo2 0 0)), (12, (.lp lo12 0 0)), (15, (.msl 1 lo15 0 (List.length s))), (61, (.lp li 0 0)), (16, (eI mk))] ?_
      refine aQ aC 5 ?_
      refine bO 2 ?_
      refine uT (xs := [(eI mk)]) (k := 1) (by kernel_rfl) (by kernel_rfl) ?_
      obtain ⟨c5, h1⟩ := aY h1
      refine yO (e := (eI)) s ([mk]) 3 lo15 1 8 (iJ [(eI mk)]) (fun lo16 => [(lo1, 1, [(eL aW t10)]), (lo2, 1, [(eI t11)]), (lo12, 1, [(.mp lm)]), (lo16, 1, List.map (eI) (s ++ ([mk])))]) (by kernel_rfl) (by kernel_rfl) hO (by kernel_rfl) (by kernel_rfl) c5 (fun _ => by kernel_rfl) ?_
      intro lo16 H hO
      refine bC ?_
      obtain rfl := oI h1
      exact aD (aU (⟨rfl, _, _, _, hlt, hleft, hall, lo16, .eq (by kernel_rfl), hO⟩))
    · obtain ⟨t10, t11, m⟩ := s
      dsimp only [Sum.elim_inr] at hi
      obtain ⟨los, hl, rfl⟩ := hi
      obtain rfl := oI h0
      obtain ⟨hlL, hO⟩ := mC hO
      refine ⟨_, _, hlL, (by intro e; cases e), ?_⟩
      refine bL ?_
      refine aD (bG (aP ?_))
      have hD := (hO.gm 0 _ rfl).2
      replace hO := (hO.nG .dead).nT
      exact QM1 (.inr rfl) hD (rs := [.cell 10 37, .cell 11 22]) (xs := [(eL aW t10), (eI t11)]) (x := (.tup [(eL aW t10), (eI t11)])) (by kernel_rfl) (iC (lo := lo1) (k := 1) (y := (eL aW t10)) (x := (eL aW t10)) 0 hO (by kernel_rfl) (by kernel_rfl) (by kernel_rfl) (by kernel_rfl) (iC (lo := lo2) (k := 1) (y := (eI t11)) (x := (eI t11)) 1 hO (by kernel_rfl) (by kernel_rfl) (by kernel_rfl) (by kernel_rfl) lU)) (by kernel_rfl) ⟨rfl, hO.PV.out⟩

theorem LR  (r : Bool) (h0 : rE  = some r) : dU Try.prog 11 [] (aB r) := by
  intro H0
  refine dQ Try.func11 ?_
  have hO := aJ.start H0
  unfold rE at h0
  refine cO aC 1 [] ?_
  refine aM ?_
  refine aQ aC 6 ?_
  obtain ⟨x1, hx2, h0⟩ := aT h0
  refine fC (QF (10 : Int) (5 : Int) (12 : Int) _ hx2) hO ?_
  intro H hO
  refine bC ?_
  refine bE [(1, (eI x1.1)), (2, (eI x1.2))] ?_
  refine aM ?_
  refine aQ aC 7 ?_
  refine bO 1 ?_
  obtain ⟨x4, hx5, h0⟩ := aT h0
  refine fC (AK (10 : Int) (5 : Int) (aX.mk (3 : Int) (7 : Int)) (0 : Int) (100 : Int) _ hx5) hO ?_
  intro H hO
  refine bC ?_
  refine cC [] [(3, (eL (eI) x4.1)), (4, (eI x4.2))] ?_
  refine aM ?_
  refine aQ aC 13 ?_
  refine bO 1 ?_
  refine uT (xs := [(aI (aE.mk (1 : Int) (1 : Int) ByteArray.empty))]) (k := 3) (by kernel_rfl) (by kernel_rfl) ?_
  refine bO 4 ?_
  refine uT (xs := [(aI (aE.mk (1 : Int) (1 : Int) ByteArray.empty))]) (k := 3) (by kernel_rfl) (by kernel_rfl) ?_
  refine bO 6 ?_
  refine uT (xs := [(.agg [(iJ [(aI (aE.mk (1 : Int) (1 : Int) ByteArray.empty))]), (eI (3 : Int)), (eI (1 : Int))]), (.agg [(iJ [(aI (aE.mk (1 : Int) (1 : Int) ByteArray.empty))]), (eI (7 : Int)), (eI (-1 : Int))])]) (k := 3) (by kernel_rfl) (by kernel_rfl) ?_
  obtain ⟨x7, hx8, h0⟩ := aT h0
  refine aAH 16 [(iJ [(.agg [(iJ [(aI (aE.mk (1 : Int) (1 : Int) ByteArray.empty))]), (eI (3 : Int)), (eI (1 : Int))]), (.agg [(iJ [(aI (aE.mk (1 : Int) (1 : Int) ByteArray.empty))]), (eI (7 : Int)), (eI (-1 : Int))])]), (eI (10 : Int)), (eI (5 : Int)), (eI (0 : Int)), (eI (100 : Int))] (.tup [(eL aW x7.1), (eI x7.2)]) (dU.sub (NI ([bH.mk ([aE.mk (1 : Int) (1 : Int) ByteArray.empty]) (3 : Int) (1 : Int), bH.mk ([aE.mk (1 : Int) (1 : Int) ByteArray.empty]) (7 : Int) (-1 : Int)]) (10 : Int) (5 : Int) (0 : Int) (100 : Int) _ hx8) ⟨(YO (e := bS) (xs := [(.agg [(iJ [(aI (aE.mk (1 : Int) (1 : Int) ByteArray.empty))]), (eI (3 : Int)), (eI (1 : Int))]), (.agg [(iJ [(aI (aE.mk (1 : Int) (1 : Int) ByteArray.empty))]), (eI (7 : Int)), (eI (-1 : Int))])]) (l := [bH.mk ([aE.mk (1 : Int) (1 : Int) ByteArray.empty]) (3 : Int) (1 : Int), bH.mk ([aE.mk (1 : Int) (1 : Int) ByteArray.empty]) (7 : Int) (-1 : Int)]) ⟨(UA (xs := [(iJ [(aI (aE.mk (1 : Int) (1 : Int) ByteArray.empty))]), (eI (3 : Int)), (eI (1 : Int))]) (ys := [(eL aI ([aE.mk (1 : Int) (1 : Int) ByteArray.empty])), (eI (3 : Int)), (eI (1 : Int))]) ⟨LK (l := [aE.mk (1 : Int) (1 : Int) ByteArray.empty]), aL.refl _, aL.refl _, trivial⟩), (UA (xs := [(iJ [(aI (aE.mk (1 : Int) (1 : Int) ByteArray.empty))]), (eI (7 : Int)), (eI (-1 : Int))]) (ys := [(eL aI ([aE.mk (1 : Int) (1 : Int) ByteArray.empty])), (eI (7 : Int)), (eI (-1 : Int))]) ⟨LK (l := [aE.mk (1 : Int) (1 : Int) ByteArray.empty]), aL.refl _, aL.refl _, trivial⟩), trivial⟩ rfl), aL.refl _, aL.refl _, aL.refl _, aL.refl _, trivial⟩) hO ?_
  intro H hO
  refine bC ?_
  refine cC [] [(5, (eL aW x7.1)), (6, (eI x7.2))] ?_
  refine aM ?_
  refine aQ aC 47 ?_
  obtain ⟨c10, h0⟩ := aY h0
  obtain ⟨c11, h0⟩ := aY h0
  obtain ⟨c12, h0⟩ := aY h0
  refine rL [((((((decide (x1.1 = (5 : Int))) && (decide (x1.2 = (0 : Int)))) && (decide (x4.2 = (0 : Int)))) && (decide ((lN x4.1) = (2 : Int))))) = true → 0 ≤ (1 : Int) ∧ (1 : Int) < (lN x4.1)), (((((((((decide (x1.1 = (5 : Int))) && (decide (x1.2 = (0 : Int)))) && (decide (x4.2 = (0 : Int)))) && (decide ((lN x4.1) = (2 : Int)))) && (decide ((gD x4.1 (1 : Int)) = (5 : Int)))) && (decide (x7.2 = (0 : Int)))) && (decide ((lN x7.1) = (2 : Int))))) = true → 0 ≤ (1 : Int) ∧ (1 : Int) < (lN x7.1)), ((((((((((decide (x1.1 = (5 : Int))) && (decide (x1.2 = (0 : Int)))) && (decide (x4.2 = (0 : Int)))) && (decide ((lN x4.1) = (2 : Int)))) && (decide ((gD x4.1 (1 : Int)) = (5 : Int)))) && (decide (x7.2 = (0 : Int)))) && (decide ((lN x7.1) = (2 : Int)))) && ((decide ((((gD x7.1 (1 : Int)).Span).From) = ((aX.mk (5 : Int) (15 : Int)).From))) && ((decide ((((gD x7.1 (1 : Int)).Span).To) = ((aX.mk (5 : Int) (15 : Int)).To))) && true)))) = true → 0 ≤ (1 : Int) ∧ (1 : Int) < (lN x7.1))] ⟨c10, c11, c12, trivial⟩ ?_
  refine bE [(0, (aB (((((((((decide (x1.1 = (5 : Int))) && (decide (x1.2 = (0 : Int)))) && (decide (x4.2 = (0 : Int)))) && (decide ((lN x4.1) = (2 : Int)))) && (decide ((gD x4.1 (1 : Int)) = (5 : Int)))) && (decide (x7.2 = (0 : Int)))) && (decide ((lN x7.1) = (2 : Int)))) && ((decide ((((gD x7.1 (1 : Int)).Span).From) = ((aX.mk (5 : Int) (15 : Int)).From))) && ((decide ((((gD x7.1 (1 : Int)).Span).To) = ((aX.mk (5 : Int) (15 : Int)).To))) && true))) && (decide ((lN ((gD x7.1 (1 : Int)).Rows)) = (1 : Int))))))] ?_
  refine bL ?_
  obtain rfl := oI h0
  exact aD (Q_r hO)

theorem GP (bT : Int) (hop1 : Int) (s2 : aX) (cD : Int) (bV : Int) (r : ((List Int) × Int)) (h0 : oM bT hop1 s2 cD bV = some r) : dU Try.prog 13 [(eI bT), (eI hop1), (bD s2), (eI cD), (eI bV)] (.tup [(eL (eI) r.1), (eI r.2)]) := by
  intro H0
  refine dQ Try.func13 ?_
  have hO := aJ.start H0
  unfold oM at h0
  refine aM ?_
  refine aQ aC 3 ?_
  refine fX 2 (bD s2) (by kernel_rfl) (by kernel_rfl) ?_
  refine bC ?_
  refine cC [2] [(7, (.rp (bD s2)))] ?_
  refine aM ?_
  refine aM ?_
  refine aQ aC 4 ?_
  refine bO 2 ?_
  obtain ⟨x1, hx2, h0⟩ := aT h0
  refine fC (NV bT hop1 _ hx2) hO ?_
  intro H hO
  refine bC ?_
  refine cC [] [(18, (aB (!x1)))] ?_
  refine bP h0 (fun h0 => ?_) (fun h0 => ?_)
  · refine cO aC 2 [(10, (.sl true 0 (fun _ => .bad))), (11, (eI (2 : Int)))] ?_
    refine bL ?_
    refine eF (l := [(10, (eL (eI) ([]))), (11, (eI (2 : Int)))]) ⟨[(10, (.sl true 0 (fun _ => .bad))), (11, (eI (2 : Int)))], by kernel_rfl, rfl, ⟨lO, aL.refl _, trivial⟩⟩ ?_
    obtain rfl := oI h0
    exact aD (aP (Q_r hO))
  refine bQ ?_
  refine bE [(0, (eI bT)), (1, (eI hop1)), (3, (eI cD)), (4, (eI bV)), (7, (.rp (bD s2)))] ?_
  refine aM ?_
  refine aM ?_
  refine aQ aC 8 ?_
  refine bO 1 ?_
  obtain ⟨x5, hx6, h0⟩ := aT h0
  refine fC (AE cD _ hx6) hO ?_
  intro H hO
  refine bO 5 ?_
  obtain ⟨x8, hx9, h0⟩ := aT h0
  refine mJ [(22, false)] 28 [(eI bV)] (aB x8) (!(!x5)) (by kernel_rfl) (by kernel_rfl) (by kernel_rfl) (fun hb10 => (AE bV _ (jO hx9 hb10))) hO ?_
  intro H hO
  refine bC ?_
  refine cC [] [(26, (aB ((!x5) || (!x8))))] ?_
  refine bP h0 (fun h0 => ?_) (fun h0 => ?_)
  · refine cO aC 2 [(10, (.sl true 0 (fun _ => .bad))), (11, (eI (13 : Int)))] ?_
    refine bL ?_
    refine eF (l := [(10, (eL (eI) ([]))), (11, (eI (13 : Int)))]) ⟨[(10, (.sl true 0 (fun _ => .bad))), (11, (eI (13 : Int)))], by kernel_rfl, rfl, ⟨lO, aL.refl _, trivial⟩⟩ ?_
    obtain rfl := oI h0
    exact aD (aP (Q_r hO))
  refine bQ ?_
  refine bE [(0, (eI bT)), (1, (eI hop1)), (3, (eI cD)), (4, (eI bV)), (7, (.rp (bD s2)))] ?_
  refine aM ?_
  refine aS aC 15 [] [(41, (aB (((decide (s2.From < (-1 : Int))) || (decide (s2.To ≤ s2.From))) || (decide ((1125899906842624 : Int) < s2.To)))))] ?_
  refine bP h0 (fun h0 => ?_) (fun h0 => ?_)
  · refine cO aC 2 [(10, (.sl true 0 (fun _ => .bad))), (11, (eI (14 : Int)))] ?_
    refine bL ?_
    refine eF (l := [(10, (eL (eI) ([]))), (11, (eI (14 : Int)))]) ⟨[(10, (.sl true 0 (fun _ => .bad))), (11, (eI (14 : Int)))], by kernel_rfl, rfl, ⟨lO, aL.refl _, trivial⟩⟩ ?_
    obtain rfl := oI h0
    exact aD (aP (Q_r hO))
  refine bQ ?_
  refine bE [(0, (eI bT)), (1, (eI hop1)), (3, (eI cD)), (4, (eI bV)), (7, (.rp (bD s2)))] ?_
  refine aS aC 5 [] [(12, (eI (wR (s2.From - bT))))] ?_
  refine iR (fun T H => ∃ s7 : aX, ∃ xD : Int, Has T [(0, (eI bT)), (1, (eI hop1)), (3, (eI cD)), (4, (eI bV)), (7, (.rp (bD s7))), (12, (eI xD))] ∧ aJ ⟨H0, [], []⟩ H [] ∧ mL bT hop1 cD bV s7 xD = some r) ?_ ?_
  · clear hO h0
    rintro T H ⟨s7, xD, hT, hO, h0⟩
    refine bM hT ?_
    clear hT
    unfold mL at h0
    refine aM ?_
    refine aQ aC 2 ?_
    refine uT (xs := []) (k := 1) (by kernel_rfl) (by kernel_rfl) ?_
    refine bC ?_
    refine cC [] [(13, (.sl true 0 (fun _ => .bad)))] ?_
    refine iR (fun T H => ∃ fB : List Int, ∃ lo13 : Nat, Has T [(13, (.msl 1 lo13 0 (List.length fB)))] ∧ aJ ⟨H0, [], []⟩ H [(lo13, 1, List.map (eI) fB)] ∧ oA fB = some r) ?_ ?_
    · clear hO h0
      rintro T H ⟨fB, lo13, hT, hO, h0⟩
      refine bM hT ?_
      clear hT
      unfold oA at h0
      refine cO aC 3 [(10, (.msl 1 lo13 0 (List.length fB))), (11, (eI (0 : Int)))] ?_
      refine bL ?_
      refine gT [(10, (.msl 1 lo13 0 (List.length fB))), (11, (eI (0 : Int)))] ?_
      refine BP (en := (eI)) fB 0 0 10 1 lo13 (List.length fB) hO (by kernel_rfl) (by kernel_rfl) (by kernel_rfl) (L' := []) (by kernel_rfl) ?_
      intro H14 hO
      obtain rfl := oI h0
      exact aD (Q_r hO)
    refine aM ?_
    refine aQ aC 6 ?_
    obtain ⟨c15, h0⟩ := aY h0
    refine rL [hop1 ≠ 0] ⟨c15, trivial⟩ ?_
    refine cC [12] [(14, (eI (wR ((wR (Int.tdiv xD hop1)) * hop1))))] ?_
    refine cI 0 ?_
    refine iA [(0, (eI bT)), (1, (eI hop1)), (3, (eI cD)), (4, (eI bV)), (7, (.rp (bD s7))), (13, (.sl true 0 (fun _ => .bad))), (14, (eI (wR ((wR (Int.tdiv xD hop1)) * hop1))))] ?_
    refine TG (el := (fun _ => .bad)) 5 13 1 hO (by kernel_rfl) ?_
    intro lo27 H28 hO
    refine gY (fun T H => ∃ fB : List Int, ∃ t14 : Int, ∃ lo17 : Nat, Has T [(0, (eI bT)), (1, (eI hop1)), (3, (eI cD)), (4, (eI bV)), (7, (.rp (bD s7))), (13, (.msl 1 lo17 0 (List.length fB))), (14, (eI t14))] ∧ aJ ⟨H0, [], []⟩ H [(lo17, 1, List.map (eI) fB)] ∧ qP bT hop1 cD bV s7 fB t14 = some r) ?_ ⟨([] : List Int), wR ((wR (Int.tdiv xD hop1)) * hop1), lo27, .eq (by kernel_rfl), hO, h0⟩
    clear hO h0
    rintro T H ⟨fB, t14, lo17, hT, hO, h0⟩
    refine bM hT ?_
    clear hT
    unfold qP at h0
    obtain ⟨rr0, hl0, h0⟩ := aT h0
    refine eE (by kernel_rfl) (fun (s : List Int × Int) T H => ∃ lo17 : Nat, Has T [(0, (eI bT)), (1, (eI hop1)), (3, (eI cD)), (4, (eI bV)), (7, (.rp (bD s7))), (13, (.msl 1 lo17 0 (List.length s.1))), (14, (eI s.2))] ∧ aJ ⟨H0, [], []⟩ H [(lo17, 1, List.map (eI) s.1)]) hl0 ⟨lo17, .eq (by kernel_rfl), hO⟩ ?_
    clear hO
    rintro k0 s out1 T H ⟨lo17, hT, hO⟩ h1 ho0
    obtain ⟨fB, t14⟩ := s
    replace h1 : dX bT hop1 cD bV s7 fB t14 = some out1 := h1
    try dsimp only at hT
    refine bM hT ?_
    clear hT
    unfold dX at h1
    refine aM ?_
    refine aS aC 13 [] [(68, (aB (((decide (t14 < bV)) && (decide (t14 < s7.To))) && (decide (t14 < (1125899906842624 : Int))))))] ?_
    refine bP h1 (fun h1 => ?_) (fun h1 => ?_)
    · refine bQ ?_
      refine bE [(0, (eI bT)), (1, (eI hop1)), (3, (eI cD)), (4, (eI bV)), (7, (.rp (bD s7))), (13, (.msl 1 lo17 0 (List.length fB))), (14, (eI t14))] ?_
      refine aM ?_
      refine cI 1 ?_
      refine iR (fun T H => ∃ fB : List Int, ∃ lo19 : Nat, Has T [(0, (eI bT)), (1, (eI hop1)), (3, (eI cD)), (4, (eI bV)), (7, (.rp (bD s7))), (13, (.msl 1 lo19 0 (List.length fB))), (14, (eI t14))] ∧ aJ ⟨H0, [], []⟩ H [(lo19, 1, List.map (eI) fB)] ∧ lF bT hop1 cD bV s7 fB t14 = some out1) ?_ ?_
      · clear hO h1
        rintro T H ⟨fB, lo19, hT, hO, h1⟩
        refine bM hT ?_
        clear hT
        unfold lF at h1
        refine aS aC 3 [] [(89, (aB (decide ((1024 : Int) < (lN fB)))))] ?_
        refine bP h1 (fun h1 => ?_) (fun h1 => ?_)
        · refine aM ?_
          refine aQ aC 2 ?_
          refine bC ?_
          refine gT [(10, (.sl true 0 (fun _ => .bad))), (11, (eI (7 : Int)))] ?_
          replace hO := hO.pick (L' := []) [] (by decide) (by kernel_rfl)
          refine aD (aF (?_))
          refine bL ?_
          refine eF (l := [(10, (eL (eI) ([]))), (11, (eI (7 : Int)))]) ⟨[(10, (.sl true 0 (fun _ => .bad))), (11, (eI (7 : Int)))], by kernel_rfl, rfl, ⟨lO, aL.refl _, trivial⟩⟩ ?_
          obtain rfl := oI h1
          obtain rfl : _ = rr0 := ho0
          replace h0 : some ([], (7 : Int)) = some r := h0
          obtain rfl := oI h0
          exact aD (bG (aP (aP (bG (aP (Q_r hO))))))
        refine bQ ?_
        refine gT [(0, (eI bT)), (1, (eI hop1)), (3, (eI cD)), (4, (eI bV)), (7, (.rp (bD s7))), (13, (.msl 1 lo19 0 (List.length fB))), (14, (eI t14))] ?_
        refine aD (aU (aF (?_)))
        refine aQ aC 4 ?_
        refine bC ?_
        exact aD (aF (⟨rfl, _, (oI h1).symm, _, .eq (by kernel_rfl), hO⟩))
      refine aM ?_
      obtain ⟨x21, hx22, h1⟩ := aT h1
      refine gQ (gM [80]) aC 11 ?_
      refine oK (K := fun T H => Has (lift T) [(0, (eI bT)), (1, (eI hop1)), (3, (eI cD)), (4, (eI bV)), (7, (.rp (bD s7))), (13, (.msl 1 lo17 0 (List.length fB))), (14, (eI t14)), (82, (aB ((decide (cD ≤ t14)) && (decide (s7.From < x21)))))] ∧ aJ ⟨H0, [], []⟩ H [(lo17, 1, List.map (eI) fB)]) ?_ ?_
      · refine lC 4 ?_
        refine nQ (t := 75) (e := decide (cD ≤ t14)) (by kernel_rfl) (fun hg23 => ?_) (fun hg23 => ?_)
        · refine lC 6 ?_
          refine nP 29 [(eI bT), (eI t14)] (eI x21) (by kernel_rfl) (by kernel_rfl) (MY bT t14 _ (jO hx22 hg23)) hO ?_
          intro H hO
          refine kT ?_
          exact ⟨⟨[(0, (eI bT)), (1, (eI hop1)), (3, (eI cD)), (4, (eI bV)), (7, (.rp (bD s7))), (13, (.msl 1 lo17 0 (List.length fB))), (14, (eI t14)), (82, (aB (decide (s7.From < x21))))], by kernel_rfl, rfl, ⟨aL.refl _, aL.refl _, aL.refl _, aL.refl _, aL.refl _, aL.refl _, aL.refl _, aL.eq (congrArg aB (lT hg23 rfl).symm), trivial⟩⟩, hO⟩
        refine kT ?_
        exact ⟨⟨[(0, (eI bT)), (1, (eI hop1)), (3, (eI cD)), (4, (eI bV)), (7, (.rp (bD s7))), (13, (.msl 1 lo17 0 (List.length fB))), (14, (eI t14)), (82, (aB false))], by kernel_rfl, rfl, ⟨aL.refl _, aL.refl _, aL.refl _, aL.refl _, aL.refl _, aL.refl _, aL.refl _, aL.eq (congrArg aB (lT hg23 rfl).symm), trivial⟩⟩, hO⟩
      · rintro T H ⟨hT, hO⟩
        refine eF hT ?_
        clear hT
        refine aD (aF ?_)
        refine bP h1 (fun h1 => ?_) (fun h1 => ?_)
        · refine aQ aC 5 ?_
          refine bO 2 ?_
          refine uT (xs := [(eI t14)]) (k := 1) (by kernel_rfl) (by kernel_rfl) ?_
          obtain ⟨c26, h1⟩ := aY h1
          refine yO (e := (eI)) fB ([t14]) 0 lo17 1 8 (iJ [(eI t14)]) (fun lo25 => [(lo25, 1, List.map (eI) (fB ++ ([t14])))]) (by kernel_rfl) (by kernel_rfl) hO (by kernel_rfl) (by kernel_rfl) c26 (fun _ => by kernel_rfl) ?_
          intro lo25 H hO
          refine bC ?_
          exact aD (aF (⟨rfl, _, _, .eq (by kernel_rfl), hO, h1⟩))
        refine bQ ?_
        exact aD (aF (⟨rfl, _, _, .eq (by kernel_rfl), hO, h1⟩))
    refine jI 0 ?_
    obtain rfl := oI h1
    obtain rfl : _ = rr0 := ho0
    replace h0 : oA fB = some r := h0
    exact aD (aV (aV (cH (aF (⟨rfl, _, _, .eq (by kernel_rfl), hO, h0⟩)))))
  refine aS aC 3 [] [(48, (aB (decide ((wR (s2.From - bT)) < cD))))] ?_
  refine bP h0 (fun h0 => ?_) (fun h0 => ?_)
  · refine aQ aC 2 ?_
    refine bC ?_
    exact aD (aF (⟨rfl, _, _, .eq (by kernel_rfl), hO, h0⟩))
  refine bQ ?_
  exact aD (aF (⟨rfl, _, _, .eq (by kernel_rfl), hO, h0⟩))

theorem IZ (a0 : (List Int)) (b1 : (List Int)) (r : Bool) (h0 : pX a0 b1 = some r) : dU Try.prog 14 [(eL (eI) a0), (eL (eI) b1)] (aB r) := by
  intro H0
  refine dQ Try.func14 ?_
  have hO := aJ.start H0
  unfold pX at h0
  refine aS aC 1 [] [] ?_
  refine aM ?_
  refine aS aC 5 [] [(10, (aB (!decide ((lN a0) = (lN b1)))))] ?_
  refine bP h0 (fun h0 => ?_) (fun h0 => ?_)
  · refine cO aC 1 [(4, (aB false))] ?_
    refine bL ?_
    obtain rfl := oI h0
    exact aD (aP (Q_r hO))
  refine bQ ?_
  refine bE [(0, (eL (eI) a0)), (1, (eL (eI) b1))] ?_
  refine iR (fun T H => Has T [] ∧ aJ ⟨H0, [], []⟩ H [] ∧ oU  = some r) ?_ ?_
  · clear hO h0
    rintro T H ⟨hT, hO, h0⟩
    refine bM hT ?_
    clear hT
    unfold oU at h0
    refine cO aC 1 [(4, (aB true))] ?_
    refine bL ?_
    obtain rfl := oI h0
    exact aD (Q_r hO)
  refine aS aC 1 [] [(5, (eI (0 : Int)))] ?_
  refine cI 0 ?_
  refine iA [(0, (eL (eI) a0)), (1, (eL (eI) b1)), (5, (eI (0 : Int)))] ?_
  refine gY (fun T H => ∃ i5 : Int, Has T [(0, (eL (eI) a0)), (1, (eL (eI) b1)), (5, (eI i5))] ∧ aJ ⟨H0, [], []⟩ H [] ∧ sD a0 b1 i5 = some r) ?_ ⟨(0 : Int), .eq (by kernel_rfl), hO, h0⟩
  clear hO h0
  rintro T H ⟨i5, hT, hO, h0⟩
  refine bM hT ?_
  clear hT
  unfold sD at h0
  obtain ⟨rr0, hl0, h0⟩ := aT h0
  refine eE (by kernel_rfl) (fun (s : Int) T H => Has T [(0, (eL (eI) a0)), (1, (eL (eI) b1)), (5, (eI s))] ∧ aJ ⟨H0, [], []⟩ H []) hl0 ⟨.eq (by kernel_rfl), hO⟩ ?_
  clear hO
  rintro k0 s out1 T H ⟨hT, hO⟩ h1 ho0
  obtain ⟨i5, rfl⟩ : ∃ x, x = s := ⟨_, rfl⟩
  replace h1 : nD a0 b1 i5 = some out1 := h1
  refine bM hT ?_
  clear hT
  unfold nD at h1
  refine aM ?_
  refine aS aC 4 [] [(14, (aB (decide (i5 < (lN a0)))))] ?_
  refine bP h1 (fun h1 => ?_) (fun h1 => ?_)
  · refine bQ ?_
    refine bE [(0, (eL (eI) a0)), (1, (eL (eI) b1)), (5, (eI i5))] ?_
    refine aM ?_
    refine cI 1 ?_
    refine aM ?_
    refine gQ (gM [20, 24]) aC 9 ?_
    obtain ⟨c3, h1⟩ := aY h1
    obtain ⟨c4, h1⟩ := aY h1
    refine FI (Ds := [0 ≤ i5 ∧ i5 < (lN a0), 0 ≤ i5 ∧ i5 < (lN b1)]) (by kernel_rfl) ⟨c3, c4, trivial⟩ ?_
    refine cC [] [(25, (aB (!decide ((gD a0 i5) = (gD b1 i5)))))] ?_
    refine bP h1 (fun h1 => ?_) (fun h1 => ?_)
    · refine cO aC 1 [(4, (aB false))] ?_
      refine bL ?_
      obtain rfl := oI h1
      obtain rfl : _ = rr0 := ho0
      replace h0 : some false = some r := h0
      obtain rfl := oI h0
      exact aD (bG (aP (aP (bG (aP (Q_r hO))))))
    refine bQ ?_
    refine gT [(0, (eL (eI) a0)), (1, (eL (eI) b1)), (5, (eI i5))] ?_
    refine aD (aU (aF (?_)))
    refine aQ aC 3 ?_
    refine bC ?_
    exact aD (aF (⟨rfl, _, (oI h1).symm, .eq (by kernel_rfl), hO⟩))
  refine jI 0 ?_
  obtain rfl := oI h1
  obtain rfl : _ = rr0 := ho0
  replace h0 : oU  = some r := h0
  exact aD (aV (aV (cH (aF (⟨rfl, .eq (by kernel_rfl), hO, h0⟩)))))

theorem CK (bT : Int) (zC : Int) (s2 : aX) (cD : Int) (bV : Int) (r : Bool) (h0 : oD bT zC s2 cD bV = some r) : dU Try.prog 5 [(eI bT), (eI zC), (bD s2), (eI cD), (eI bV)] (aB r) := by
  intro H0
  refine dQ Try.func5 ?_
  have hO := aJ.start H0
  unfold oD at h0
  refine aM ?_
  refine aQ aC 2 ?_
  refine fX 2 (bD s2) (by kernel_rfl) (by kernel_rfl) ?_
  refine bC ?_
  refine cC [2] [(7, (.rp (bD s2)))] ?_
  refine aM ?_
  refine aQ aC 11 ?_
  refine bO 5 ?_
  obtain ⟨x1, hx2, h0⟩ := aT h0
  refine fC (AK bT zC s2 cD bV _ hx2) hO ?_
  intro H hO
  refine bC ?_
  refine cC [] [(11, (eL (eI) x1.1)), (12, (eI x1.2))] ?_
  refine aM ?_
  refine aQ aC 11 ?_
  refine bO 5 ?_
  obtain ⟨x4, hx5, h0⟩ := aT h0
  refine fC (GP bT zC s2 cD bV _ hx5) hO ?_
  intro H hO
  refine bC ?_
  refine cC [0, 1, 3, 4, 7] [(13, (eL (eI) x4.1)), (14, (eI x4.2))] ?_
  refine aM ?_
  refine aQ aC 12 ?_
  obtain ⟨x7, hx8, h0⟩ := aT h0
  refine fC (LR  _ hx8) hO ?_
  intro H hO
  refine bO 9 ?_
  obtain ⟨x10, hx11, h0⟩ := aT h0
  refine mJ [(39, true)] 14 [(eL (eI) x1.1), (eL (eI) x4.1)] (aB x10) (x7 && (decide (x1.2 = x4.2))) (by kernel_rfl) (by kernel_rfl) (by kernel_rfl) (fun hb12 => (IZ x1.1 x4.1 _ (jO hx11 hb12))) hO ?_
  intro H hO
  refine bC ?_
  refine bE [(10, (aB ((x7 && (decide (x1.2 = x4.2))) && x10)))] ?_
  refine bL ?_
  obtain rfl := oI h0
  exact aD (Q_r hO)

end Go.Abs
namespace Go.Abs
open Go Go.RowKit Go.Proofs
theorem CJ {H : Type} {enc : TypeId × Value → H} {w : World} : CD enc Try.prog w 29 bD uO :=
  JU Try.underlying29 (by kernel_rfl) (CW (c' := vX) (ok' := uO) (fun (a : Int) (b : Int × Unit) => (aX.mk a b.1 : aX)) (by kernel_rfl) (HQ Try.underlying3) (CW (c' := fun (b : Int × Unit) => (V.cells (cS .i64 b.1) ++ [])) (ok' := fun b => (xU b.1 ∧ True)) (fun a b => (a, b)) (by kernel_rfl) (HQ Try.underlying3) (QW ()) (fun _ _ => rfl) (fun _ _ h1 h2 => ⟨h1, h2⟩)) (fun _ _ => rfl) (fun _ _ h1 h2 => ⟨h1, h2⟩))

end Go.Abs
namespace Go.Abs
open Go
theorem dK {n : Int} (h1 : -9223372036854775808 ≤ n) (h2 : n ≤ 9223372036854775807) : IntKind.i64.wrap n = n := by
  simp only [IntKind.wrap, IntKind.bits, IntKind.signed]
  simp
  split <;> omega

def qU {α st R : Type} (step : st → α → Option (st ⊕ R)) (fin : st → R) : st → List α → Option R
  | s, [] => some (fin s)
  | s, a :: r => match step s a with
    | some (.inl s') => qU step fin s' r
    | some (.inr x) => some x
    | none => none

theorem FC {α st R : Type} {step : st → α → Option (st ⊕ R)} {fin : st → R} {s s' : st} {a : α} {r : List α} (h : step s a = some (.inl s')) : qU step fin s (a :: r) = qU step fin s' r := by
  simp only [qU, h]

theorem ET {α st R : Type} {step : st → α → Option (st ⊕ R)} {fin : st → R} {s : st} {x : R} {a : α} {r : List α} (h : step s a = some (.inr x)) : qU step fin s (a :: r) = some x := by
  simp only [qU, h]

theorem OA {α S st R : Type} {body : S → Option (S ⊕ R)} {l : List α} (mk : st → Int → S) (step : st → α → Option (st ⊕ R)) (fin : st → R)
    (hn : ∀ (i : Nat) a s, l[i]? = some a → (∀ s', step s a = some (.inl s') → body (mk s i) = some (.inl (mk s' ((i + 1 : Nat) : Int)))) ∧ (∀ x, step s a = some (.inr x) → body (mk s i) = some (.inr x)))
    (he : ∀ s, body (mk s (l.length : Nat)) = some (.inr (fin s))) : ∀ (m k : Nat) (s : st) (r : R), l.length - k = m → k ≤ l.length → qU step fin s (l.drop k) = some r → lp body (mk s k) = some r
  | 0, k, s, r, hm, hk, h => by
    have : k = l.length := by omega
    subst this
    rw [List.drop_length] at h
    simp only [qU, Option.some.injEq] at h
    subst h
    exact cU (he s)
  | m + 1, k, s, r, hm, hk, h => by
    have hlt : k < l.length := by omega
    have hd : l.drop k = l[k] :: l.drop (k + 1) := List.drop_eq_getElem_cons hlt
    rw [hd] at h
    simp only [qU] at h
    obtain ⟨h1, h2⟩ := hn k l[k] s (List.getElem?_eq_getElem hlt)
    split at h
    · rename_i s' hs
      rw [fJ (h1 s' hs)]
      exact OA mk step fin hn he m (k + 1) s' r (by omega) (by omega) h
    · rename_i x hs
      simp at h; subst h
      exact cU (h2 x hs)
    · cases h

theorem KN {α S st R : Type} {body : S → Option (S ⊕ R)} {l : List α} (mk : st → Int → S) (step : st → α → Option (st ⊕ R)) (fin : st → R)
    (hn : ∀ (i : Nat) a s, l[i]? = some a → (∀ s', step s a = some (.inl s') → body (mk s i) = some (.inl (mk s' ((i + 1 : Nat) : Int)))) ∧ (∀ x, step s a = some (.inr x) → body (mk s i) = some (.inr x)))
    (he : ∀ s, body (mk s (l.length : Nat)) = some (.inr (fin s))) {s : st} {r : R} (h : qU step fin s l = some r) : lp body (mk s 0) = some r :=
  OA mk step fin hn he _ 0 s r rfl (Nat.zero_le _) (by simpa using h)

theorem idx {α : Type} [Inhabited α] {l : List α} {i : Nat} {a : α} (h : l[i]? = some a) (hl : l.length < 4611686018427387904) :
    decide ((i : Int) < ((l.length : Nat) : Int)) = true ∧ (0 ≤ (i : Int) ∧ (i : Int) < ((l.length : Nat) : Int)) ∧ l.getD (Int.toNat (i : Int)) default = a ∧ IntKind.i64.wrap ((i : Int) + 1) = ((i + 1 : Nat) : Int) := by
  have hlt : i < l.length := (List.getElem?_eq_some_iff.1 h).1
  refine ⟨by simpa using hlt, ⟨by omega, by omega⟩, ?_, ?_⟩
  · rw [Int.toNat_natCast, List.getD_eq_getElem?_getD, h]; rfl
  · rw [dK (by omega) (by omega)]; omega

theorem nN {n : Nat} : decide (((n : Nat) : Int) < ((n : Nat) : Int)) = false := by simp

theorem aAL {α : Type} {j : α} {r : List α} : (0 : Int) ≤ 0 ∧ (0 : Int) < ((List.length (j :: r) : Nat) : Int) := ⟨by omega, by simp⟩

theorem ZC {α : Type} [Inhabited α] {j : α} {r : List α} : List.getD (j :: r) (Int.toNat (0 : Int)) default = j := rfl

end Go.Abs
namespace Go.Abs
open Go
theorem drop_cons {α : Type} {l r : List α} {a : α} {k : Nat} (h : l.drop k = a :: r) : l[k]? = some a ∧ l.drop (k + 1) = r := by
  have hk : k < l.length := by
    apply Classical.byContradiction; intro hn
    rw [List.drop_eq_nil_of_le (by omega)] at h; cases h
  rw [List.drop_eq_getElem_cons hk] at h
  obtain ⟨h1, h2⟩ := List.cons.inj h
  exact ⟨by rw [List.getElem?_eq_getElem hk, h1], h2⟩

theorem RV {α S st R : Type} {body : S → Option (S ⊕ R)} {l : List α} (mk : st → Int → S) (G : st → List α → R) (Inv : st → List α → Prop)
    (hn : ∀ (i : Nat) a r s, l[i]? = some a → Inv s (a :: r) → (∃ s', body (mk s i) = some (.inl (mk s' ((i + 1 : Nat) : Int))) ∧ Inv s' r ∧ G s' r = G s (a :: r)) ∨ body (mk s i) = some (.inr (G s (a :: r))))
    (he : ∀ s, Inv s [] → body (mk s (l.length : Nat)) = some (.inr (G s []))) : ∀ (r : List α) (k : Nat) (s : st), l.drop k = r → k ≤ l.length → Inv s r → lp body (mk s k) = some (G s r)
  | [], k, s, hd, hk, hi => by
    have : k = l.length := by
      have := congrArg List.length hd
      simp only [List.length_drop, List.length_nil] at this; omega
    subst this
    exact cU (he s hi)
  | a :: r, k, s, hd, hk, hi => by
    obtain ⟨h1, h2⟩ := drop_cons hd
    have hlt : k < l.length := (List.getElem?_eq_some_iff.1 h1).1
    rcases hn k a r s h1 hi with ⟨s', hb, hi', hg⟩ | hb
    · rw [fJ hb, RV mk G Inv hn he r (k + 1) s' h2 (by omega) hi', hg]
    · exact cU hb

theorem CA {α S st R : Type} {body : S → Option (S ⊕ R)} {l : List α} (mk : st → Int → S) (G : st → List α → R) (Inv : st → List α → Prop) (s : st)
    (hn : ∀ (i : Nat) a r s, l[i]? = some a → Inv s (a :: r) → (∃ s', body (mk s i) = some (.inl (mk s' ((i + 1 : Nat) : Int))) ∧ Inv s' r ∧ G s' r = G s (a :: r)) ∨ body (mk s i) = some (.inr (G s (a :: r))))
    (he : ∀ s, Inv s [] → body (mk s (l.length : Nat)) = some (.inr (G s []))) (hi : Inv s l) : lp body (mk s 0) = some (G s l) :=
  RV mk G Inv hn he l 0 s rfl (Nat.zero_le _) hi

theorem ZJ {α S R : Type} {body : S → Option (S ⊕ R)} {l : List α} (mk : Int → S) (bad : α → Bool) (x y : R)
    (hn : ∀ (i : Nat) a, l[i]? = some a → body (mk i) = some (if bad a then .inr x else .inl (mk ((i + 1 : Nat) : Int))))
    (he : body (mk (l.length : Nat)) = some (.inr y)) : lp body (mk 0) = some (if l.any bad then x else y) := by
  refine CA (st := Unit) (fun _ i => mk i) (fun _ r => if r.any bad then x else y) (fun _ _ => True) () ?_ ?_ trivial
  · intro i a r s ha _
    have hb := hn i a ha
    cases h : bad a
    · left; refine ⟨(), ?_, trivial, ?_⟩
      · simpa [h] using hb
      · simp [List.any_cons, h]
    · right; simpa [h, List.any_cons] using hb
  · intro _ _; simpa using he

end Go.Abs
namespace Go.Abs
open Go
variable {α : Type} [Inhabited α]
structure Cmp {β : Type} (ok : β → Prop) (le : β → β → Prop) (cmp : β → β → Option Int) : Prop where
  ans : ∀ x y, ok x → ok y → ∃ v, cmp x y = some v ∧ (v < 0 ↔ ¬ le y x)
  trans : ∀ x y z, ok x → ok y → ok z → le x y → le y z → le x z
  total : ∀ x y, ok x → ok y → le x y ∨ le y x

abbrev Srt {β : Type} (le : β → β → Prop) (l : List β) : Prop := l.Pairwise le

abbrev Oks {β : Type} (ok : β → Prop) (l : List β) : Prop := ∀ x ∈ l, ok x

section ins
variable {ok : α → Prop} {le : α → α → Prop} {cmp : α → α → Option Int}
end ins
end Go.Abs
namespace Go.Abs
open Go
variable {α : Type} [Inhabited α]
section sym
variable {ok : α → Prop} {le : α → α → Prop} {cmp : α → α → Option Int}
theorem Cmp.refl {β : Type} {ok : β → Prop} {le : β → β → Prop} {cmp : β → β → Option Int} (C : Cmp ok le cmp) {x : β} (h : ok x) : le x x := by rcases C.total x x h h with h | h <;> exact h

end sym
end Go.Abs
namespace Go.Abs
open Go
variable {α : Type} [Inhabited α] {ok : α → Prop} {le : α → α → Prop} {cmp : α → α → Option Int}
inductive GO {β : Type} (le : β → β → Prop) (n : Nat) : List β → Prop
  | last {l : List β} : l.length ≤ n → Srt le l → GO le n l
  | cons {x l : List β} : x.length = n → Srt le x → GO le n l → GO le n (x ++ l)

theorem GO.split {β : Type} {le : β → β → Prop} {n : Nat} {l : List β} (h : GO le n l) (hl : n < l.length) : ∃ x r, l = x ++ r ∧ x.length = n ∧ Srt le x ∧ GO le n r := by
  cases h with
  | last h' _ => omega
  | cons hx hs hr => exact ⟨_, _, rfl, hx, hs, hr⟩

theorem Oks.perm {β : Type} {ok : β → Prop} {l l' : List β} (h : Oks ok l) (hp : l'.Perm l) : Oks ok l' := fun x hx => h x (hp.mem_iff.1 hx)

end Go.Abs
namespace Go.Abs
open Go
structure aAF where
  Row : (List aE)
  Span : aX
  deriving Inhabited, DecidableEq

structure aAI where
  Kind : Int
  Input : Int
  Edges : (List bH)
  At : Int
  deriving Inhabited, DecidableEq

structure aAE where
  row : (List aE)
  jumps : (List aH)
  deriving Inhabited, DecidableEq

structure aAz where
  Kind : Int
  Size : Int
  Hop : Int
  deriving Inhabited, DecidableEq

end Go.Abs
namespace Go.Abs
open Go
def JJ (n : Int) : Bool := decide (n ≤ 1048576) && decide (-1048576 ≤ n)

theorem XR (n : Int) : uU n = some (JJ n) := rfl

def DW (last : Int) (j : aH) : Bool := decide (j.At ≤ last) || decide (1125899906842624 ≤ j.At) || decide (j.Net = 0) || !JJ j.Net

def chk (last : Int) : List aH → Bool
  | [] => true
  | j :: r => !DW last j && chk j.At r

def jU (f : List aH) : Bool := decide (f.length ≤ 1024) && chk (-2) f

theorem MH {f : List aH} {i : Nat} {a : aH} {last : Int} (ha : f[i]? = some a) (hl : f.length < 4611686018427387904) :
    lE f (f.length : Nat) last i = some (if DW last a then .inr (.inr false) else .inl (a.At, ((i + 1 : Nat) : Int))) := by
  obtain ⟨d1, d2, d3, d4⟩ := idx ha hl
  simp only [lE, d1, cond_true, aO d2, d3, d4, XR]
  unfold DW
  cases h : (decide (a.At ≤ last) || decide (1125899906842624 ≤ a.At) || decide (a.Net = 0)) <;> cases h2 : JJ a.Net <;> simp [dG]

theorem LX : ∀ (f : List aH) (last : Int), qU (fun last (j : aH) => some (if DW last j then .inr (.inr false) else .inl j.At)) (fun _ => (.inl () : Unit ⊕ Bool)) last f = some (if chk last f then .inl () else .inr false)
  | [], last => by simp [qU, chk]
  | j :: r, last => by
    cases h : DW last j
    · rw [FC (s' := j.At) (by simp [h])]
      rw [LX r j.At]
      simp [chk, h]
    · rw [ET (x := .inr false) (by simp [h])]
      simp [chk, h]

theorem EI (f : List aH) : mX f = some (jU f) := by
  unfold mX jU
  by_cases hl : f.length ≤ 1024
  · have h1 : decide ((1024 : Int) < ((f.length : Nat) : Int)) = false := by simp; omega
    rw [h1, cond_false]
    unfold uN
    have key := KN (l := f) (body := fun s : Int × Int => lE f (f.length : Nat) s.1 s.2) (fun last i => (last, i)) _ _
      (fun i a s ha => by
        constructor
        · intro s' hs
          show lE f (f.length : Nat) s i = _
          rw [MH ha (by omega)]
          split at hs <;> simp_all
        · intro x hs
          show lE f (f.length : Nat) s i = _
          rw [MH ha (by omega)]
          split at hs <;> simp_all)
      (fun s => by show lE f (f.length : Nat) s (f.length : Nat) = _; simp only [lE, nN, cond_false]) (LX f (-2))
    rw [key]
    cases h : chk (-2) f <;> simp [sW, hl]
  · have h1 : decide ((1024 : Int) < ((f.length : Nat) : Int)) = true := by simp; omega
    rw [h1, cond_true]
    simp [hl]

theorem RB {last : Int} {j : aH} : DW last j = false ↔ last < j.At ∧ j.At < 1125899906842624 ∧ j.Net ≠ 0 ∧ j.Net ≤ 1048576 ∧ -1048576 ≤ j.Net := by
  simp [DW, JJ]
  omega

def pE (last : Int) : List aH → Prop
  | [] => True
  | j :: r => (last < j.At ∧ j.At < 1125899906842624 ∧ j.Net ≠ 0 ∧ j.Net ≤ 1048576 ∧ -1048576 ≤ j.Net) ∧ pE j.At r

theorem OV : ∀ {f : List aH} {last : Int}, chk last f = true ↔ pE last f
  | [], last => by simp [chk, pE]
  | j :: r, last => by simp [chk, pE, RB, OV]

theorem qG {f : List aH} : jU f = true ↔ f.length ≤ 1024 ∧ pE (-2) f := by simp [jU, OV]

theorem pE.above : ∀ {f : List aH} {last : Int}, pE last f → ∀ j ∈ f, last < j.At ∧ j.At < 1125899906842624 ∧ j.Net ≠ 0 ∧ j.Net ≤ 1048576 ∧ -1048576 ≤ j.Net
  | [], _, _, j, hj => by simp at hj
  | a :: r, last, h, j, hj => by
    rcases List.mem_cons.1 hj with rfl | hj
    · exact h.1
    · have := h.2.above j hj
      have h1 := h.1.1
      exact ⟨by omega, this.2⟩

def val (f : List aH) (t : Int) : Int := (f.map fun j => if j.At ≤ t then j.Net else 0).sum

theorem CB (t : Int) : val [] t = 0 := rfl

theorem gL (j : aH) (r : List aH) (t : Int) : val (j :: r) t = (if j.At ≤ t then j.Net else 0) + val r t := by simp [val]

theorem IQ : ∀ {f : List aH} {b : Int} (t : Int), 0 ≤ b → (∀ j ∈ f, j.Net ≤ b ∧ -b ≤ j.Net) → val f t ≤ b * f.length ∧ -(b * f.length) ≤ val f t
  | [], b, t, _, _ => by simp [val]
  | j :: r, b, t, hb, h => by
    obtain ⟨h1, h2⟩ := IQ t hb (fun k hk => h k (List.mem_cons_of_mem _ hk))
    have h3 := h j (List.mem_cons_self ..)
    rw [gL]
    simp only [List.length_cons, Int.natCast_add, Int.natCast_one, Int.mul_add, Int.mul_one]
    split <;> omega

theorem rB {f : List aH} {t : Int} (h : ∀ j ∈ f, t < j.At) : val f t = 0 := by
  induction f with
  | nil => rfl
  | cons j r ih =>
    rw [gL, ih (fun k hk => h k (List.mem_cons_of_mem _ hk))]
    have := h j (List.mem_cons_self ..)
    rw [if_neg (by omega)]; rfl

theorem OM {f : List aH} {i : Nat} {a : aH} {t v : Int} (ha : f[i]? = some a) (hl : f.length < 4611686018427387904) :
    mB t f (f.length : Nat) v i = some (if t < a.At then .inr v else .inl (IntKind.i64.wrap (v + a.Net), ((i + 1 : Nat) : Int))) := by
  obtain ⟨d1, d2, d3, d4⟩ := idx ha hl
  simp only [mB, d1, cond_true, aO d2, d3, d4]
  by_cases h : t < a.At <;> simp [h]

theorem XM {t : Int} (f : List aH) : ∀ (last v : Int), pE last f → v ≤ 1048576 * (2048 - f.length) → -(1048576 * (2048 - f.length)) ≤ v → f.length ≤ 1024 →
    qU (fun v (j : aH) => some (if t < j.At then .inr v else .inl (IntKind.i64.wrap (v + j.Net)))) (fun v => (v : Int)) v f = some (v + val f t) := by
  induction f with
  | nil => intro last v _ _ _ _; simp [qU, val]
  | cons j r ih =>
    intro last v h h1 h2 hl
    simp only [List.length_cons] at h1 h2 hl
    by_cases hj : t < j.At
    · rw [ET (x := v) (by simp [hj])]
      rw [rB (fun k hk => by
        rcases List.mem_cons.1 hk with rfl | hk
        · exact hj
        · have := (h.2.above k hk).1; omega)]
      simp
    · have hj1 := h.1
      have hw : IntKind.i64.wrap (v + j.Net) = v + j.Net := dK (by omega) (by omega)
      rw [FC (s' := v + j.Net) (by simp [hj, hw])]
      rw [ih j.At (v + j.Net) h.2 (by omega) (by omega) (by omega), gL, if_pos (by omega)]
      congr 1
      omega

theorem aAq (f : List aH) (t : Int) : vC f t = some (if jU f then val f t else 0) := by
  unfold vC
  rw [EI]
  simp only [Option.bind_some]
  cases h : jU f
  · simp
  · obtain ⟨hl, hr⟩ := qG.1 h
    simp only [Bool.not_true, cond_false, if_true]
    unfold vO
    have key := KN (l := f) (body := fun s : Int × Int => mB t f (f.length : Nat) s.1 s.2) (fun v i => (v, i)) _ _
      (fun i a s ha => by
        constructor
        · intro s' hs
          show mB t f (f.length : Nat) s i = _
          rw [OM ha (by omega)]
          split at hs <;> simp_all
        · intro x hs
          show mB t f (f.length : Nat) s i = _
          rw [OM ha (by omega)]
          split at hs <;> simp_all)
      (fun s => by show mB t f (f.length : Nat) s (f.length : Nat) = _; simp only [mB, nN, cond_false]) (XM (t := t) f (-2) 0 hr (by omega) (by omega) hl)
    rw [key]
    simp [rV]

end Go.Abs
namespace Go.Abs
open Go
section both
variable {op : Int → Int → Option Int} {f g r : List aH} {out : List aH} {a b was t : Int} {j : aH}
end both
def emit (p v was : Int) : List aH := if v = was then [] else [⟨p, v - was⟩]

def WZ (was : Int) : List (Int × Int) → List aH
  | [] => []
  | x :: r => emit x.1 x.2 was ++ WZ x.2 r

def merge (f g : List aH) (a b : Int) : List (Int × Int × Int) :=
  match f, g with
  | [], [] => []
  | j :: f, [] => (j.At, a + j.Net, b) :: merge f [] (a + j.Net) b
  | [], k :: g => (k.At, a, b + k.Net) :: merge [] g a (b + k.Net)
  | j :: f, k :: g =>
    if j.At < k.At then (j.At, a + j.Net, b) :: merge f (k :: g) (a + j.Net) b
    else if k.At < j.At then (k.At, a, b + k.Net) :: merge (j :: f) g a (b + k.Net)
    else (j.At, a + j.Net, b + k.Net) :: merge f g (a + j.Net) (b + k.Net)

termination_by f.length + g.length
end Go.Abs
namespace Go.Abs
open Go
def comb (OP : Int → Int → Int) (f g : List aH) : List aH := WZ 0 ((merge f g 0 0).map fun x => (x.1, OP x.2.1 x.2.2))

def told (f : List aH) : List aH × Int := if jU f then (f, 0) else ([], 7)

def two (OP : Int → Int → Int) (f g : List aH) : List aH × Int := if jU f && jU g then told (comb OP f g) else ([], 2)

end Go.Abs
namespace Go.Abs
open Go
theorem pE.wQ {l t : Int} {f : List aH} (h : pE l f) (ht : t ≤ l) : val f t = 0 := rB fun j hj => by have := (h.above j hj).1; omega

end Go.Abs
namespace Go.Abs
open Go
def ZH (f : List aH) : Int := (f.map aH.Net).sum

def UN (t : Int) : List aH → List aH
  | [] => []
  | j :: r => if t ≤ j.At then [] else j :: UN t r

def aft (t : Int) : List aH → List aH
  | [] => []
  | j :: r => if t ≤ j.At then j :: r else aft t r

end Go.Abs
namespace Go.Abs
open Go
def aAA (t : Int) (f : List aH) : List aH := (if ZH (UN t f) = 0 then [] else [⟨-1, ZH (UN t f)⟩]) ++ aft t f

def rest (f : List aH) (t : Int) : List aH × Int :=
  if jU f then (if 1125899906842624 ≤ t then ([], 0) else if t ≤ -1 then (f, 0) else told (aAA t f)) else ([], 2)

end Go.Abs
namespace Go.Abs
open Go
def Up (last : Int) : List aH → Prop
  | [] => True
  | j :: r => (last < j.At ∧ j.At < 1125899906842624 ∧ j.Net ≠ 0) ∧ Up j.At r

theorem Up.above : ∀ {f : List aH} {last : Int}, Up last f → ∀ j ∈ f, last < j.At ∧ j.At < 1125899906842624 ∧ j.Net ≠ 0
  | [], _, _, j, hj => by simp at hj
  | a :: r, last, h, j, hj => by
    rcases List.mem_cons.1 hj with rfl | hj
    · exact h.1
    · have := h.2.above j hj
      have h1 := h.1.1
      exact ⟨by omega, this.2⟩

theorem Up.wQ {l t : Int} {f : List aH} (h : Up l f) (ht : t ≤ l) : val f t = 0 := rB fun j hj => by have := (h.above j hj).1; omega

theorem Up.weaken {a b : Int} {f : List aH} (h : Up b f) (hab : a ≤ b) : Up a f := by
  cases f with
  | nil => trivial
  | cons j r => exact ⟨⟨by have := h.1.1; omega, h.1.2⟩, h.2⟩

theorem pE.up : ∀ {f : List aH} {last : Int}, pE last f → Up last f
  | [], _, _ => trivial
  | _ :: _, _, h => ⟨⟨h.1.1, h.1.2.1, h.1.2.2.1⟩, h.2.up⟩

theorem Up.ext : ∀ {f g : List aH} {last : Int}, Up last f → Up last g → (∀ t, last < t → t < 1125899906842624 → val f t = val g t) → f = g
  | [], [], _, _, _, _ => rfl
  | j :: r, [], last, hf, _, h => by
    have := h j.At hf.1.1 hf.1.2.1
    rw [gL, if_pos (Int.le_refl _), hf.2.wQ (Int.le_refl _), CB] at this
    exact absurd (by omega) hf.1.2.2
  | [], k :: s, last, _, hg, h => by
    have := h k.At hg.1.1 hg.1.2.1
    rw [gL, if_pos (Int.le_refl _), hg.2.wQ (Int.le_refl _), CB] at this
    exact absurd (by omega) hg.1.2.2
  | j :: r, k :: s, last, hf, hg, h => by
    have h1 := h j.At hf.1.1 hf.1.2.1
    have h2 := h k.At hg.1.1 hg.1.2.1
    rw [gL, if_pos (Int.le_refl _), hf.2.wQ (Int.le_refl _), gL] at h1
    rw [gL, gL k, if_pos (Int.le_refl _), hg.2.wQ (Int.le_refl _)] at h2
    have n1 := hf.1.2.2
    have n2 := hg.1.2.2
    have he : j.At = k.At := by
      rcases Int.lt_trichotomy j.At k.At with h3 | h3 | h3
      · rw [if_neg (by omega), hg.2.wQ (by omega)] at h1; omega
      · exact h3
      · rw [if_neg (by omega), hf.2.wQ (by omega)] at h2; omega
    rw [if_pos (by omega), hg.2.wQ (by omega)] at h1
    have hj : j = k := by
      obtain ⟨a, b⟩ := j; obtain ⟨c, d⟩ := k
      simp only at he h1
      simp only [Int.add_zero] at h1
      rw [he, h1]
    subst hj
    rw [hf.2.ext hg.2 (fun t ht ht' => by
      have := h t (by have := hf.1.1; omega) ht'
      rw [gL, gL] at this; omega)]

def Inc (last : Int) : List Int → Prop
  | [] => True
  | p :: r => (last < p ∧ p < 1125899906842624) ∧ Inc p r

theorem Inc.above : ∀ {ps : List Int} {last : Int}, Inc last ps → ∀ p ∈ ps, last < p ∧ p < 1125899906842624
  | [], _, _, j, hj => by simp at hj
  | a :: r, last, h, j, hj => by
    rcases List.mem_cons.1 hj with rfl | hj
    · exact h.1
    · have := h.2.above j hj
      have h1 := h.1.1
      exact ⟨by omega, this.2⟩

end Go.Abs
namespace Go.Abs
open Go
theorem VE {f : List aH} (h : jU f = true) : ∀ j ∈ f, j.Net ≤ 1048576 ∧ -1048576 ≤ j.Net := fun j hj => by have := (qG.1 h).2.above j hj; omega

def mI (t : Int) : List Int → List Int
  | [] => [t]
  | p :: r => if p = t then p :: r else if t < p then t :: p :: r else p :: mI t r

theorem IE {t x : Int} : ∀ {ps : List Int}, x ∈ mI t ps ↔ x = t ∨ x ∈ ps
  | [] => by simp [mI]
  | p :: r => by
    unfold mI
    split
    · rename_i h; subst h; simp
    · split
      · simp
      · simp only [List.mem_cons, IE (ps := r)]; constructor <;> (intro h; rcases h with h | h | h <;> simp [h])

theorem BV {t : Int} : ∀ {ps : List Int} {last : Int}, Inc last ps → last < t → t < 1125899906842624 → Inc last (mI t ps)
  | [], last, _, h1, h2 => ⟨⟨h1, h2⟩, trivial⟩
  | p :: r, last, h, h1, h2 => by
    unfold mI
    split
    · exact h
    · split
      · rename_i h3 h4
        exact ⟨⟨h1, h2⟩, ⟨h4, h.1.2⟩, h.2⟩
      · exact ⟨h.1, BV h.2 (by omega) h2⟩

theorem GF {t : Int} : ∀ {ps : List Int} {last : Int}, Inc last ps → t ∈ ps → mI t ps = ps
  | [], _, _, h => by simp at h
  | p :: r, last, hi, h => by
    unfold mI
    split
    · rfl
    · rename_i hp
      rcases List.mem_cons.1 h with h | h
      · exact absurd h.symm hp
      · have := (hi.2.above t h).1
        rw [if_neg (by omega), GF hi.2 h]

end Go.Abs
namespace Go.Abs
open Go
def mn (a b : Int) : Int := if b < a then b else a

def parts (v : Int) : List aH → List Int
  | [] => []
  | j :: r => (v + j.Net) :: parts (v + j.Net) r

def yJ (f : List aH) : Int := (f.map fun j => val f j.At).foldl mn (val f (-1))

theorem parts_eq : ∀ {f : List aH} {l v : Int}, pE l f → parts v f = f.map fun j => v + val f j.At
  | [], _, _, _ => rfl
  | j :: r, l, v, h => by
    simp only [parts, List.map_cons]
    rw [parts_eq h.2, gL, if_pos (Int.le_refl _), h.2.wQ (Int.le_refl _), Int.add_zero]
    congr 1
    apply List.map_congr_left
    intro k hk
    have := (h.2.above k hk).1
    rw [gL, if_pos (by omega)]; omega

theorem SW {j : aH} {r : List aH} (h : pE (-2) (j :: r)) : val (j :: r) (-1) = if j.At = -1 then j.Net else 0 := by
  have := h.1.1
  by_cases e : j.At = -1
  · rw [if_pos e, gL, if_pos (by omega), h.2.wQ (by omega)]; omega
  · rw [if_neg e, rB]
    intro k hk
    rcases List.mem_cons.1 hk with rfl | hk
    · omega
    · have := (h.2.above k hk).1; omega

theorem EP {f : List aH} (hf : jU f = true) (m : Int) (hm : -1125899906842624 ≤ m ∧ m ≤ 1125899906842624) : pZ 0 m f (f.length : Nat) 0 = some ((f.map fun j => val f j.At).foldl mn m) := by
  obtain ⟨hl, hr⟩ := qG.1 hf
  unfold pZ
  rw [CA (l := f) (body := fun s : Int × Int × Int => lQ f (f.length : Nat) s.1 s.2.1 s.2.2) (fun (s : Int × Int) i => (s.1, s.2, i)) (fun s r => (parts s.1 r).foldl mn s.2)
    (fun s r => (∀ j ∈ r, j.Net ≤ 1048576 ∧ -1048576 ≤ j.Net) ∧ r.length ≤ 1024 ∧ s.1 ≤ 1048576 * (1024 - r.length) ∧ -(1048576 * (1024 - r.length)) ≤ s.1) (0, m) ?_ ?_ ?_]
  · simp only [Option.bind_some, pV, parts_eq hr, Int.zero_add]
  · rintro i a r ⟨v, m⟩ ha ⟨h1, h2, h3, h4⟩
    obtain ⟨d1, d2, d3, d4⟩ := idx ha (by omega)
    have hj := h1 a (List.mem_cons_self ..)
    simp only [List.length_cons] at h2 h3 h4
    have hw : IntKind.i64.wrap (v + a.Net) = v + a.Net := dK (by omega) (by omega)
    left
    refine ⟨(v + a.Net, mn m (v + a.Net)), ?_, ⟨fun j hj => h1 j (List.mem_cons_of_mem _ hj), by omega, by simp only; omega, by simp only; omega⟩, rfl⟩
    show lQ f (f.length : Nat) v m i = _
    simp only [lQ, d1, cond_true, aO d2, d3, d4, hw, mn]
  · rintro ⟨v, m⟩ _
    show lQ f (f.length : Nat) v m (f.length : Nat) = _
    simp only [lQ, nN, cond_false, parts, List.foldl_nil]
  · exact ⟨VE hf, hl, by simp only; omega, by simp only; omega⟩

theorem UW (f : List aH) : rA f = some (if jU f then yJ f else 0) := by
  unfold rA
  rw [EI]
  cases h : jU f
  · simp
  · cases f with
    | nil => simp [yJ, val]
    | cons j r =>
      obtain ⟨hl, hr⟩ := qG.1 h
      have hne : decide (((List.length (j :: r) : Nat) : Int) = 0) = false := by simp; omega
      simp only [Option.bind_some, Bool.not_true, Bool.false_or, hne, cond_false, aO aAL, ZC, if_true]
      have hj := hr.1
      unfold yJ
      rw [SW hr]
      by_cases e : j.At = -1
      · simp only [e, decide_true, cond_true, if_true, nR]
        exact EP h j.Net (by omega)
      · simp only [e, decide_false, cond_false, if_false, nR]
        exact EP h 0 (by omega)

end Go.Abs
namespace Go.Abs
open Go
theorem w1 : IntKind.i64.wrap (0 + 1) = 1 := by rw [dK] <;> omega

theorem w2 : IntKind.i64.wrap (1 + 1) = 2 := by rw [dK] <;> omega

theorem w3 : IntKind.i64.wrap (1 - 1) = 0 := by rw [dK] <;> omega

theorem v0 : IntKind.i64.wrap 0 = 0 := by rw [dK] <;> omega

theorem v1 : IntKind.i64.wrap 1 = 1 := by rw [dK] <;> omega

theorem v2 : IntKind.i64.wrap 2 = 2 := by rw [dK] <;> omega

theorem v3 : IntKind.i64.wrap (-1) = -1 := by rw [dK] <;> omega

end Go.Abs
namespace Go.Abs
open Go
variable {α : Type} [Inhabited α]
noncomputable def nA (f1 : α → Option Bool) (s0 : (List α)) (t7 : Int) (t8 : Int) : Option ((Int) ⊕ (Unit ⊕ Int)) :=
  cond (decide (t8 < t7))
  (bF (0 ≤ t8 ∧ t8 < ((List.length s0 : Nat) : Int)) <|
  (f1 (List.getD s0 (Int.toNat t8) default)).bind fun x2 =>
  cond x2
  (some (.inr (.inr t8)))
  (some (.inl (IntKind.i64.wrap (t8 + (1 : Int))))))
  (some (.inr (.inl ())))

theorem LW {l : List α} {f : α → Option Bool} {g : α → Bool} (hl : l.length ≤ 1099511627776) (hf : ∀ x ∈ l, f x = some (g x)) : ∀ (r : List α) (k : Nat), l.drop k = r → k ≤ l.length →
    ∃ x, lp (fun s => nA f l (l.length : Nat) s) (k : Int) = some x ∧ ((x = .inl () ∧ r.any g = false) ∨ (∃ i : Nat, x = .inr (i : Int) ∧ k ≤ i ∧ i < l.length ∧ r.any g = true ∧ g (l.getD i default) = true ∧ ∀ j, k ≤ j → j < i → g (l.getD j default) = false))
  | [], k, hd, hk => by
    have : k = l.length := by
      have := congrArg List.length hd
      simp only [List.length_drop, List.length_nil] at this; omega
    subst this
    refine ⟨.inl (), cU ?_, Or.inl ⟨rfl, rfl⟩⟩
    show nA f l _ _ = _
    simp only [nA, nN, cond_false]
  | a :: r, k, hd, hk => by
    obtain ⟨h1, h2⟩ := drop_cons hd
    have hlt : k < l.length := (List.getElem?_eq_some_iff.1 h1).1
    obtain ⟨d1, d2, d3, d4⟩ := idx h1 (by omega)
    have hga : l.getD k default = a := by rw [Int.toNat_natCast] at d3; exact d3
    have hb : (fun s => nA f l (l.length : Nat) s) (k : Int) = some (if g a then .inr (.inr (k : Int)) else .inl ((k + 1 : Nat) : Int)) := by
      show nA f l _ _ = _
      simp only [nA, d1, cond_true, aO d2, d3, d4, hf a (List.mem_of_getElem? h1), Option.bind_some]
      cases g a <;> simp
    cases hg : g a
    · rw [hg] at hb
      obtain ⟨x, e, hx⟩ := LW hl hf r (k + 1) h2 (by omega)
      refine ⟨x, by rw [fJ hb]; exact e, ?_⟩
      rcases hx with ⟨rfl, h⟩ | ⟨i, rfl, h3, h4, h5, h6, h7⟩
      · exact Or.inl ⟨rfl, by simp [hg, h]⟩
      · refine Or.inr ⟨i, rfl, by omega, h4, by simp [h5], h6, fun j hj hj' => ?_⟩
        by_cases e : j = k
        · subst e; rw [hga, hg]
        · exact h7 j (by omega) hj'
    · rw [hg] at hb
      exact ⟨.inr (k : Int), cU hb, Or.inr ⟨k, rfl, Nat.le_refl _, hlt, by simp [hg], by rw [hga, hg], fun j h h' => by omega⟩⟩

end Go.Abs
namespace Go.Abs
open Go
theorem ID (x y : ByteArray) : nU x y = decide (x = y) := by
  unfold nU
  rw [ByteArray.toList_eq, ByteArray.toList_eq]
  by_cases h : x = y
  · simp [h]
  · have : x.data.toList ≠ y.data.toList := by
      intro he
      apply h
      cases x; cases y
      congr 1
      exact Array.toList_inj.1 he
    have h2 : (x.data.toList == y.data.toList) = false := by simpa using this
    rw [h2]; simp [h]

theorem veq (a b : aE) : ((decide (a.Kind = b.Kind)) && ((decide (a.Num = b.Num)) && ((nU a.Text b.Text) && true))) = decide (a = b) := by
  rw [ID]
  obtain ⟨a1, a2, a3⟩ := a
  obtain ⟨b1, b2, b3⟩ := b
  by_cases h1 : a1 = b1 <;> by_cases h2 : a2 = b2 <;> by_cases h3 : a3 = b3 <;> simp [h1, h2, h3]

def zA (v : aE) : Bool := decide (v.Kind = 1) && nU v.Text (⟨#[]⟩ : ByteArray)

def zR (v : aE) : Bool := ((decide (v.Kind = 2)) && (decide (v.Num = 0))) && (decide (((ByteArray.size v.Text : Nat) : Int) ≤ 64))

def zX (v : aE) : Bool := zA v || zR v

def sI (r : List aE) : Bool := decide (r.length ≤ 8) && r.all zX

theorem of_eq (v : aE) : kY v = some (if zA v then (.k_number v.Num, true) else if zR v then (.k_words v.Text, true) else (.none_, false)) := by
  unfold kY zA zR
  cases (decide (v.Kind = 1) && nU v.Text (⟨#[]⟩ : ByteArray)) <;> cases (((decide (v.Kind = 2)) && (decide (v.Num = 0))) && (decide (((ByteArray.size v.Text : Nat) : Int) ≤ 64))) <;> rfl

theorem YT (v : aE) : sO v = some (zX v) := by
  unfold sO zX
  rw [of_eq]
  cases zA v <;> cases zR v <;> rfl

theorem KX {l : List aE} {f : aE → Option Bool} {g : aE → Bool} (hl : l.length ≤ 1099511627776) (hf : ∀ x ∈ l, f x = some (g x)) : eT l f = some (l.any g) := by
  unfold eT iE hU
  obtain ⟨x, e, hx⟩ := LW hl hf l 0 rfl (Nat.zero_le _)
  have e' : lp (fun s => gX f l (l.length : Nat) s) 0 = some x := e
  rw [e']
  rcases hx with ⟨rfl, h⟩ | ⟨i, rfl, _, _, h, _⟩
  · simp [eZ, h]
  · simp [h]

theorem GQ (r : List aE) : rF r = some (sI r) := by
  unfold rF sI
  by_cases h : r.length ≤ 8
  · have h1 : decide ((8 : Int) < ((r.length : Nat) : Int)) = false := by simp; omega
    rw [h1, cond_false, KX (g := fun v => !zX v) (by omega) (fun x _ => by simp [sU, YT])]
    simp only [Option.bind_some, h, decide_true, Bool.true_and]
    congr 1
    rw [List.all_eq_not_any_not]
  · have h1 : decide ((8 : Int) < ((r.length : Nat) : Int)) = true := by simp; omega
    rw [h1, cond_true]
    simp [h]

theorem WY {α : Type} [DecidableEq α] {f g : List α} {body : Int → Option (Int ⊕ (Unit ⊕ Bool))} (he : f.length = g.length)
    (hb : ∀ (i : Nat) a b, f[i]? = some a → g[i]? = some b → body i = some (if a = b then .inl ((i + 1 : Nat) : Int) else .inr (.inr false)))
    (hend : body (f.length : Nat) = some (.inr (.inl ()))) : ∀ (m k : Nat), f.length - k = m → k ≤ f.length → lp body (k : Int) = some (if f.drop k = g.drop k then .inl () else .inr false)
  | 0, k, hm, hk => by
    have : k = f.length := by omega
    subst this
    rw [List.drop_length, he, List.drop_length, if_pos rfl]
    rw [← he]
    exact cU hend
  | m + 1, k, hm, hk => by
    have h1 : k < f.length := by omega
    have h2 : k < g.length := by omega
    have hbk := hb k _ _ (List.getElem?_eq_getElem h1) (List.getElem?_eq_getElem h2)
    have e1 : f.drop k = f[k] :: f.drop (k + 1) := List.drop_eq_getElem_cons h1
    have e2 : g.drop k = g[k] :: g.drop (k + 1) := List.drop_eq_getElem_cons h2
    have hiff : (f.drop k = g.drop k) ↔ (f[k] = g[k] ∧ f.drop (k + 1) = g.drop (k + 1)) := by rw [e1, e2, List.cons.injEq]
    by_cases h : f[k] = g[k]
    · rw [if_pos h] at hbk
      rw [fJ hbk, WY he hb hend m (k + 1) (by omega) (by omega)]
      simp only [hiff, h, true_and]
    · rw [if_neg h] at hbk
      rw [cU hbk]
      simp only [hiff, h, false_and, if_false]

theorem aAf {α : Type} {f g : List α} (h : f.length ≠ g.length) : (!decide (((f.length : Nat) : Int) = ((g.length : Nat) : Int))) = true := by simp; omega

theorem RL {α : Type} {f g : List α} (h : f.length = g.length) : (!decide (((f.length : Nat) : Int) = ((g.length : Nat) : Int))) = false := by simp [h]

theorem FU (a b : List aE) (hl : a.length ≤ 17592186044416) : pI a b = some (decide (a = b)) := by
  unfold pI jD
  by_cases he : a.length = b.length
  · rw [RL he, cond_false]
    unfold jA
    have := WY (f := a) (g := b) (body := fun s => eV a b (a.length : Nat) s) he ?_ ?_ a.length 0 rfl (Nat.zero_le _)
    · simp only [Int.natCast_zero, List.drop_zero] at this
      rw [this]
      by_cases h : a = b <;> simp [h, fZ]
    · intro i x y hx hy
      obtain ⟨d1, d2, d3, d4⟩ := idx hx (by omega)
      obtain ⟨_, e2, e3, _⟩ := idx hy (by omega)
      simp only [eV, d1, cond_true, aO d2, aO e2, d3, e3, d4, veq]
      by_cases h : x = y <;> simp [h]
    · simp only [eV, nN, cond_false]
  · rw [aAf he, cond_true]
    have : a ≠ b := fun h => he (by rw [h])
    simp [this]

structure BL {α : Type} (c : α → α → Int) : Prop where
  eq : ∀ a b, c a b = 0 ↔ a = b
  anti : ∀ a b, c a b < 0 ↔ 0 < c b a
  trans : ∀ a b d, c a b < 0 → c b d < 0 → c a d < 0

def pH (x y : Int) : Int := if x < y then -1 else if y < x then 1 else 0

theorem wB : BL pH where
  eq a b := by unfold pH; (repeat' split) <;> omega
  anti a b := by unfold pH; (repeat' split) <;> omega
  trans a b d := by unfold pH; (repeat' split) <;> omega

def kR {α : Type} [DecidableEq α] (c : α → α → Int) : List α → List α → Int
  | [], [] => 0
  | [], _ :: _ => -1
  | _ :: _, [] => 1
  | a :: r, b :: s => if a = b then kR c r s else c a b

theorem BL.list {α : Type} [DecidableEq α] {c : α → α → Int} (h : BL c) : BL (kR c) where
  eq := by
    intro a
    induction a with
    | nil => intro b; cases b <;> simp [kR]
    | cons x r ih =>
      intro b
      cases b with
      | nil => simp [kR]
      | cons y s =>
        unfold kR
        split
        · rename_i e; subst e; rw [ih]; simp
        · rename_i e
          have := h.eq x y
          constructor
          · intro h0; exact absurd (this.1 h0) e
          · intro h0; cases h0; exact absurd rfl e
  anti := by
    intro a
    induction a with
    | nil => intro b; cases b <;> simp [kR]
    | cons x r ih =>
      intro b
      cases b with
      | nil => simp [kR]
      | cons y s =>
        unfold kR
        by_cases e : x = y
        · subst e; simp only [if_true]; exact ih s
        · rw [if_neg e, if_neg (fun e' => e e'.symm)]; exact h.anti x y
  trans := by
    intro a
    induction a with
    | nil =>
      intro b d
      cases b <;> cases d <;> simp [kR]
    | cons x r ih =>
      intro b d
      cases b with
      | nil => simp [kR]
      | cons y s =>
        cases d with
        | nil => simp [kR]
        | cons z t =>
          unfold kR
          by_cases e1 : x = y
          · subst e1
            rw [if_pos rfl]
            by_cases e2 : x = z
            · subst e2; rw [if_pos rfl, if_pos rfl]; exact ih s t
            · rw [if_neg e2, if_neg e2]; exact fun _ h => h
          · rw [if_neg e1]
            by_cases e2 : y = z
            · have hz : ¬ x = z := fun e => e1 (e.trans e2.symm)
              intro h _
              rw [if_neg hz, ← e2]; exact h
            · rw [if_neg e2]
              intro h1 h2
              by_cases e3 : x = z
              · subst e3
                have h3 := (h.anti x y).1 h1
                omega
              · rw [if_neg e3]; exact h.trans x y z h1 h2

def DM (a b : UInt8) : Int := if a < b then -1 else if b < a then 1 else 0

theorem DF : BL DM where
  eq a b := by
    unfold DM
    constructor
    · intro h
      split at h
      · cases h
      · split at h
        · cases h
        · rename_i h1 h2
          rw [UInt8.lt_iff_toNat_lt] at h1 h2
          exact UInt8.toNat_inj.1 (by omega)
    · rintro rfl
      have : ¬ a < a := by rw [UInt8.lt_iff_toNat_lt]; omega
      simp [this]
  anti a b := by
    unfold DM
    simp only [UInt8.lt_iff_toNat_lt]
    (repeat' split) <;> omega
  trans a b d := by
    unfold DM
    simp only [UInt8.lt_iff_toNat_lt]
    (repeat' split) <;> omega

theorem xN : ∀ (a b : List UInt8), Go.Lib.compareBytes a b = kR DM a b
  | [], [] => rfl
  | [], _ :: _ => rfl
  | _ :: _, [] => rfl
  | a :: r, b :: s => by
    unfold Go.Lib.compareBytes kR
    rw [xN r s]
    by_cases e : a = b
    · subst e
      have : ¬ a < a := by rw [UInt8.lt_iff_toNat_lt]; omega
      simp [this]
    · rw [if_neg e]
      unfold DM
      have : ¬ (¬ a < b ∧ ¬ b < a) := by
        rintro ⟨h1, h2⟩
        rw [UInt8.lt_iff_toNat_lt] at h1 h2
        exact e (UInt8.toNat_inj.1 (by omega))
      by_cases h1 : a < b
      · simp [h1]
      · have h2 : b < a := Classical.byContradiction fun h2 => this ⟨h1, h2⟩
        simp [h1, h2]

def LJ (a b : ByteArray) : Int := kR DM a.data.toList b.data.toList

theorem YR (a b : ByteArray) : GZ a b = LJ a b := xN _ _

theorem data_inj {x y : ByteArray} (h : x.data.toList = y.data.toList) : x = y := by
  cases x; cases y
  congr 1
  exact Array.toList_inj.1 h

theorem zE : BL LJ where
  eq a b := by unfold LJ; rw [(DF.list).eq]; exact ⟨data_inj, fun h => by rw [h]⟩
  anti a b := (DF.list).anti _ _
  trans a b d := (DF.list).trans _ _ _

def wO (a b : aE) : Int := if a.Kind = b.Kind then (if a.Num = b.Num then LJ a.Text b.Text else pH a.Num b.Num) else pH a.Kind b.Kind

theorem WJ : BL wO where
  eq a b := by
    obtain ⟨a1, a2, a3⟩ := a
    obtain ⟨b1, b2, b3⟩ := b
    unfold wO
    simp only [aE.mk.injEq]
    by_cases h1 : a1 = b1
    · by_cases h2 : a2 = b2
      · simp [h1, h2, zE.eq]
      · simp [h1, h2, wB.eq]
    · simp [h1, wB.eq]
  anti a b := by
    unfold wO
    by_cases h1 : a.Kind = b.Kind
    · rw [if_pos h1, if_pos h1.symm]
      by_cases h2 : a.Num = b.Num
      · rw [if_pos h2, if_pos h2.symm]; exact zE.anti _ _
      · rw [if_neg h2, if_neg (fun h => h2 h.symm)]; exact wB.anti _ _
    · rw [if_neg h1, if_neg (fun h => h1 h.symm)]; exact wB.anti _ _
  trans a b d := by
    unfold wO
    intro h1 h2
    have lt : ∀ {x y : Int}, pH x y < 0 → x < y := fun {x y} h => by unfold pH at h; split at h <;> (try split at h) <;> omega
    have mk : ∀ {x y : Int}, x < y → pH x y < 0 := fun {x y} h => by unfold pH; rw [if_pos h]; omega
    by_cases e1 : a.Kind = b.Kind
    · rw [if_pos e1] at h1
      by_cases e2 : b.Kind = d.Kind
      · rw [if_pos e2] at h2
        rw [if_pos (e1.trans e2)]
        by_cases f1 : a.Num = b.Num
        · rw [if_pos f1] at h1
          by_cases f2 : b.Num = d.Num
          · rw [if_pos f2] at h2
            rw [if_pos (f1.trans f2)]
            exact zE.trans _ _ _ h1 h2
          · rw [if_neg f2] at h2
            rw [f1, if_neg f2]; exact h2
        · rw [if_neg f1] at h1
          have g1 := lt h1
          by_cases f2 : b.Num = d.Num
          · rw [← f2, if_neg f1]; exact h1
          · rw [if_neg f2] at h2
            have g2 := lt h2
            rw [if_neg (by omega)]
            exact mk (by omega)
      · rw [if_neg e2] at h2
        rw [e1, if_neg e2]; exact h2
    · rw [if_neg e1] at h1
      have g1 := lt h1
      by_cases e2 : b.Kind = d.Kind
      · rw [← e2, if_neg e1]; exact h1
      · rw [if_neg e2] at h2
        have g2 := lt h2
        rw [if_neg (by omega)]
        exact mk (by omega)

def sG (a b : List aE) : Int := kR wO a b

theorem LN : BL sG := WJ.list

end Go.Abs
namespace Go.Abs
open Go
theorem RP (x y : Int) : mS x y = some (pH x y) := by
  unfold mS kP pH
  by_cases h1 : x < y
  · simp [h1]
  · by_cases h2 : y < x <;> simp [h1, h2]

theorem UL (x y : Int) : fL x y = some (pH x y) := by
  unfold fL kE pH
  by_cases h1 : x < y
  · simp [h1]
  · by_cases h2 : y < x <;> simp [h1, h2]

theorem CF {v : aE} (h : zA v = true) : v.Kind = 1 ∧ v.Text = (⟨#[]⟩ : ByteArray) := by
  simp only [zA, ID, Bool.and_eq_true, decide_eq_true_eq] at h; exact h

theorem yV {v : aE} (h : zR v = true) : v.Kind = 2 ∧ v.Num = 0 ∧ v.Text.size ≤ 64 := by
  simp only [zR, Bool.and_eq_true, decide_eq_true_eq] at h; exact ⟨h.1.1, h.1.2, by omega⟩

theorem OB {v : aE} (h : zX v = true) : zA v = true ∨ (zA v = false ∧ zR v = true) := by
  unfold zX at h
  cases hn : zA v
  · rw [hn] at h; exact .inr ⟨rfl, by simpa using h⟩
  · exact .inl rfl

theorem TE (a : ByteArray) : LJ a a = 0 := (zE.eq a a).2 rfl

theorem BT (a : Int) : pH a a = 0 := (wB.eq a a).2 rfl

theorem SM {a b : aE} (ha : zX a = true) (hb : zX b = true) : nX a b = some (wO a b) := by
  unfold nX
  simp only [of_eq, Option.bind_some]
  rcases OB ha with h1 | ⟨h1, h1'⟩ <;> rcases OB hb with h2 | ⟨h2, h2'⟩
  · obtain ⟨k1, t1⟩ := CF h1
    obtain ⟨k2, t2⟩ := CF h2
    simp only [h1, h2, if_true, Bool.not_true, Bool.or_self, cond_false, UL, Option.bind_some]
    unfold wO
    rw [k1, k2, t1, t2, if_pos rfl, TE]
    by_cases hn : a.Num = b.Num
    · rw [if_pos hn, hn, BT]
    · rw [if_neg hn]
  · obtain ⟨k1, t1⟩ := CF h1
    obtain ⟨k2, n2, _⟩ := yV h2'
    simp only [h1, h2, h2', if_true, Bool.false_eq_true, if_false, Bool.not_true, Bool.or_self, cond_false]
    unfold wO
    rw [k1, k2]; rfl
  · obtain ⟨k1, n1, _⟩ := yV h1'
    obtain ⟨k2, t2⟩ := CF h2
    simp only [h1, h1', h2, if_true, Bool.false_eq_true, if_false, Bool.not_true, Bool.or_self, cond_false]
    unfold wO
    rw [k1, k2]; rfl
  · obtain ⟨k1, n1, _⟩ := yV h1'
    obtain ⟨k2, n2, _⟩ := yV h2'
    simp only [h1, h1', h2, h2', if_true, Bool.false_eq_true, if_false, Bool.not_true, Bool.or_self, cond_false]
    unfold wO lM jH
    rw [k1, k2, n1, n2, if_pos rfl, if_pos rfl]
    simp [YR]

theorem NZ {r : List aE} (h : sI r = true) : r.length ≤ 8 ∧ ∀ v ∈ r, zX v = true := by
  simp only [sI, Bool.and_eq_true, decide_eq_true_eq, List.all_eq_true] at h; exact h

theorem VR {a b : List aE} {k : Nat} (hk : k = a.length ∨ k = b.length) (h1 : k ≤ a.length) (h2 : k ≤ b.length) : sG (a.drop k) (b.drop k) = pH a.length b.length := by
  rcases hk with rfl | rfl
  · rw [List.drop_length]
    by_cases h : a.length = b.length
    · rw [h, List.drop_length, BT]; rfl
    · rw [List.drop_eq_getElem_cons (by omega)]
      show (-1 : Int) = _
      unfold pH; rw [if_pos (by omega)]
  · rw [List.drop_length]
    by_cases h : a.length = b.length
    · rw [← h, List.drop_length, BT]; rfl
    · rw [List.drop_eq_getElem_cons (by omega)]
      show (1 : Int) = _
      unfold pH; rw [if_neg (by omega), if_pos (by omega)]

theorem OX {a b : List aE} (hl : a.length ≤ 8) (hlb : b.length ≤ 8) (n : Nat) (hn : n = min a.length b.length) : ∀ (m k : Nat), n - k = m → k ≤ n →
    ∃ x, lp (fun s : Int × Int => cB (fun st y0 => (jM y0 st b).bind fun o => some (o.2, o.1)) (a.take n) (n : Nat) s.1 s.2) ((k : Int) - 1, (k : Int)) = some x ∧
      ((∃ sg, x = .inl sg ∧ sG (a.drop k) (b.drop k) = pH a.length b.length) ∨
        (∃ i : Nat, x = .inr ((i : Int), (i : Int)) ∧ i < a.length ∧ i < b.length ∧ sG (a.drop k) (b.drop k) = wO (a.getD i default) (b.getD i default)))
  | 0, k, hm, hk => by
    have : k = n := by omega
    subst this
    refine ⟨.inl ((k : Int) - 1), cU ?_, .inl ⟨_, rfl, VR (by omega) (by omega) (by omega)⟩⟩
    show cB _ _ _ _ _ = _
    simp only [cB, nN, cond_false]
  | m + 1, k, hm, hk => by
    have h1 : k < a.length := by omega
    have h2 : k < b.length := by omega
    have ht : (a.take n)[k]? = some a[k] := by
      rw [List.getElem?_take_of_lt (by omega)]; exact List.getElem?_eq_getElem h1
    obtain ⟨d1, d2, d3, d4⟩ := idx ht (by simp; omega)
    have hlt : (a.take n).length = n := by simp; omega
    rw [hlt] at d1 d2
    obtain ⟨_, e2, e3, _⟩ := idx (List.getElem?_eq_getElem h2) (by omega)
    have hw : IntKind.i64.wrap ((k : Int) - 1 + 1) = (k : Int) := by rw [dK (by omega) (by omega)]; omega
    have hb : (fun s : Int × Int => cB (fun st y0 => (jM y0 st b).bind fun o => some (o.2, o.1)) (a.take n) (n : Nat) s.1 s.2) ((k : Int) - 1, (k : Int)) =
        some (if a[k] = b[k] then .inl ((k : Int), ((k + 1 : Nat) : Int)) else .inr (.inr ((k : Int), (k : Int)))) := by
      show cB _ _ _ _ _ = _
      simp only [cB, d1, cond_true, hlt, aO d2, d3, d4, jM, hw, aO e2, e3, veq, Option.bind_some]
      by_cases h : a[k] = b[k] <;> simp [h]
    have ea : a.drop k = a[k] :: a.drop (k + 1) := List.drop_eq_getElem_cons h1
    have eb : b.drop k = b[k] :: b.drop (k + 1) := List.drop_eq_getElem_cons h2
    by_cases h : a[k] = b[k]
    · rw [if_pos h] at hb
      obtain ⟨x, e, hx⟩ := OX hl hlb n hn m (k + 1) (by omega) (by omega)
      have hc : sG (a.drop k) (b.drop k) = sG (a.drop (k + 1)) (b.drop (k + 1)) := by
        rw [ea, eb]; unfold sG; rw [kR, if_pos h]
      refine ⟨x, ?_, by rw [hc]; exact hx⟩
      rw [fJ hb]
      rw [show ((k + 1 : Nat) : Int) - 1 = (k : Int) by omega] at e
      exact e
    · rw [if_neg h] at hb
      refine ⟨_, cU hb, .inr ⟨k, rfl, h1, h2, ?_⟩⟩
      rw [ea, eb]; unfold sG; rw [kR, if_neg h]
      simp [List.getD_eq_getElem?_getD, h1, h2]

theorem SY (a b : List aE) : pS a b = some (if sI a && sI b then sG a b else 0) := by
  unfold pS
  rw [GQ]
  simp only [Option.bind_some]
  cases ha : sI a
  · simp [dG]
  · simp only [Bool.not_true, Bool.not_false, dG, cond_true, GQ, Option.bind_some, Bool.false_or]
    cases hb : sI b
    · simp
    · obtain ⟨la, ma⟩ := NZ ha
      obtain ⟨lb, mb⟩ := NZ hb
      have hif : (if ((List.length b : Nat) : Int) < ((List.length a : Nat) : Int) then ((List.length b : Nat) : Int) else ((List.length a : Nat) : Int)) = ((min a.length b.length : Nat) : Int) := by split <;> omega
      have hlt : (a.take (min a.length b.length)).length = min a.length b.length := by rw [List.length_take]; omega
      simp only [Bool.not_true, cond_false, hif, Int.toNat_natCast, qR, Option.bind_some, gR, gJ, hlt, Bool.and_self, if_true]
      rw [aO ⟨by omega, by omega⟩]
      obtain ⟨x, e, hx⟩ := OX (a := a) (b := b) la lb _ rfl _ 0 rfl (Nat.zero_le _)
      have e' : lp (fun s : Int × Int => cB (fun st y0 => (jM y0 st b).bind fun o => some (o.2, o.1)) (a.take (min a.length b.length)) (min a.length b.length : Nat) s.1 s.2) ((-1 : Int), (0 : Int)) = some x := e
      rw [e']
      simp only [List.drop_zero] at hx
      rcases hx with ⟨sg, rfl, h⟩ | ⟨i, rfl, h1, h2, h⟩
      · simp [eU, RP, h]
      · have hi : decide ((i : Int) < 0) = false := by simp
        simp only [Option.bind_some, Sum.elim_inr, hi, cond_false, Int.toNat_natCast]
        rw [aO ⟨by omega, by omega⟩, aO ⟨by omega, by omega⟩]
        have g1 : a.getD i default ∈ a := by simp [List.getD_eq_getElem?_getD, h1]
        have g2 : b.getD i default ∈ b := by simp [List.getD_eq_getElem?_getD, h2]
        rw [SM (ma _ g1) (mb _ g2), h]
        simp only [Option.bind_some]

end Go.Abs
namespace Go.Abs
open Go
def jE (e : bH) : aH := ⟨e.At, e.Net⟩

def gA (r : List aE) (f : List aH) : List bH → List (List aE × List aH)
  | [] => [(r, f)]
  | e :: l => if e.Row = r then gA r (f ++ [jE e]) l else (r, f) :: gA e.Row [jE e] l

def groups : List bH → List (List aE × List aH)
  | [] => []
  | e :: l => gA e.Row [jE e] l

def itG {σ : Type} (y : σ → List aE → List aH → Option (σ × Bool)) : List (List aE × List aH) → σ → Option σ
  | [], s => some s
  | g :: gs, s => (y s g.1 g.2).bind fun x => if x.2 then itG y gs x.1 else some x.1

def okL (l : List bH) : Prop := l.length ≤ 3518437208783 ∧ ∀ e ∈ l, e.Row.length ≤ 4398046510976

theorem yW {r : List aE} (h : r.length ≤ 4398046510976) : sB r = some r := by
  unfold sB
  rw [aO ⟨by omega, by omega, by omega⟩, aO (by simp only [List.length_nil, Nat.zero_add]; omega)]
  rfl

theorem FH {σ : Type} {y : σ → List aE → List aH → Option (σ × Bool)} {l : List bH} (hl : okL l) (row : List aE) (sg : σ) : ∀ (r : List bH) (k : Nat) (f : List aH), l.drop k = r → k ≤ l.length → f.length ≤ k →
    ∃ k' f', k ≤ k' ∧ k' ≤ l.length ∧ f'.length ≤ k' ∧ lp (fun s : σ × Int × List aH => jF y l row s.1 s.2.1 s.2.2) (sg, (k : Int), f) = some (sg, ((k' : Nat) : Int), f') ∧
      gA row f r = (row, f') :: groups (l.drop k') ∧ (∀ e r', r = e :: r' → e.Row = row → k < k')
  | [], k, f, hd, hk, hf => by
    have : k = l.length := by
      have := congrArg List.length hd
      simp only [List.length_drop, List.length_nil] at this; omega
    subst this
    refine ⟨l.length, f, Nat.le_refl _, Nat.le_refl _, hf, cU ?_, by simp [gA, groups], fun e r' h => by cases h⟩
    show jF _ _ _ _ _ _ = _
    simp only [jF, nN, dG, cond_false, Option.bind_some, Bool.false_and]
    exact aO (fun h => by cases h)
  | a :: r, k, f, hd, hk, hf => by
    obtain ⟨h1, h2⟩ := drop_cons hd
    have hlt : k < l.length := (List.getElem?_eq_some_iff.1 h1).1
    obtain ⟨hll, hlr⟩ := hl
    obtain ⟨d1, d2, d3, d4⟩ := idx h1 (by omega)
    have har := hlr a (List.mem_of_getElem? h1)
    have hb : (fun s : σ × Int × List aH => jF y l row s.1 s.2.1 s.2.2) (sg, (k : Int), f) = some (if a.Row = row then .inl (sg, ((k + 1 : Nat) : Int), f ++ [jE a]) else .inr (sg, (k : Int), f)) := by
      show jF _ _ _ _ _ _ = _
      simp only [jF, d1, d3, d4, dG, cond_true, FU a.Row row (by omega), Option.bind_some, Bool.true_and]
      rw [aO (fun _ => d2)]
      by_cases e : a.Row = row
      · simp only [e, decide_true, cond_true, if_true]
        rw [aO d2, aO d2, aO (by simp only [List.length_cons, List.length_nil]; omega)]
        rfl
      · simp [e]
    by_cases e : a.Row = row
    · rw [if_pos e] at hb
      obtain ⟨k', f', g1, g2, g3, g4, g5, _⟩ := FH ⟨hll, hlr⟩ row sg r (k + 1) (f ++ [jE a]) h2 (by omega) (by simp; omega) (y := y)
      refine ⟨k', f', by omega, g2, g3, by rw [fJ hb]; exact g4, by simp [gA, e, g5], fun _ _ _ _ => by omega⟩
    · rw [if_neg e] at hb
      refine ⟨k, f, Nat.le_refl _, hk, hf, cU hb, ?_, fun b r' h hr => by cases h; exact absurd hr e⟩
      rw [hd]; simp [gA, e, groups]

theorem QX {σ : Type} {y : σ → List aE → List aH → Option (σ × Bool)} {l : List bH} (hl : okL l) : ∀ (m k : Nat) (sg s' : σ), l.length - k ≤ m → k ≤ l.length → itG y (groups (l.drop k)) sg = some s' →
    ∃ x, lp (fun s : σ × Int => iI y l s.1 s.2) (sg, (k : Int)) = some x ∧ Sum.elim id id x = s' := by
  have stop : ∀ (sg s' : σ), itG y (groups (l.drop l.length)) sg = some s' → ∃ x, lp (fun s : σ × Int => iI y l s.1 s.2) (sg, ((l.length : Nat) : Int)) = some x ∧ Sum.elim id id x = s' := by
    intro sg s' h
    rw [List.drop_length] at h
    simp only [groups, itG, Option.some.injEq] at h
    refine ⟨.inl sg, cU ?_, h⟩
    show iI _ _ _ _ = _
    simp only [iI, nN, cond_false]
  intro m
  induction m with
  | zero =>
    intro k sg s' hm hk h
    have : k = l.length := by omega
    subst this; exact stop sg s' h
  | succ m ih =>
    intro k sg s' hm hk h
    by_cases he : k = l.length
    · subst he; exact stop sg s' h
    · have hlt : k < l.length := by omega
      have hd : l.drop k = l[k] :: l.drop (k + 1) := List.drop_eq_getElem_cons hlt
      obtain ⟨d1, d2, d3, d4⟩ := idx (List.getElem?_eq_getElem hlt) (by have := hl.1; omega)
      obtain ⟨k', f', g1, g2, g3, g4, g5, g6⟩ := FH hl l[k].Row sg (l.drop k) k [] rfl hk (by simp) (y := y)
      have hk' := g6 _ _ hd rfl
      have hg : groups (l.drop k) = (l[k].Row, f') :: groups (l.drop k') := by
        rw [← g5, hd]; simp [groups, gA]
      rw [hg] at h
      simp only [itG] at h
      obtain ⟨x, hx, h⟩ := aT h
      have hrow := hl.2 _ (List.getElem_mem hlt)
      have hb : (fun s : σ × Int => iI y l s.1 s.2) (sg, (k : Int)) = some (if x.2 then .inl (x.1, ((k' : Nat) : Int)) else .inr (.inr x.1)) := by
        show iI _ _ _ _ = _
        simp only [iI, d1, cond_true, aO d2, d3, oZ, g4, Option.bind_some, nF, yW hrow, hx]
        cases x.2 <;> simp
      cases hx2 : x.2
      · rw [hx2] at hb h
        simp only [Bool.false_eq_true, if_false, Option.some.injEq] at hb h
        exact ⟨_, cU hb, h⟩
      · rw [hx2] at hb h
        simp only [if_true] at hb h
        obtain ⟨z, hz1, hz2⟩ := ih k' x.1 s' (by omega) g2 h
        exact ⟨z, by rw [fJ hb]; exact hz1, hz2⟩

theorem NX {σ : Type} {y : σ → List aE → List aH → Option (σ × Bool)} {l : List bH} (hl : okL l) {s s' : σ} (h : itG y (groups l) s = some s') : mG y l s = some s' := by
  unfold mG pK
  obtain ⟨x, h1, h2⟩ := QX hl l.length 0 s s' (by omega) (Nat.zero_le _) (by simpa using h)
  simp only [Int.natCast_zero] at h1
  rw [h1]
  cases x <;> simpa using h2

def ahd (last : Option (List aE)) (r : List aE) : Bool := match last with
  | none => true
  | some q => decide (sG q r < 0)

def tB (p : List aH → Bool) : Option (List aE) → List (List aE × List aH) → Bool
  | _, [] => true
  | last, g :: gs => (sI g.1 && ahd last g.1 && p g.2) && tB p (some g.1) gs

theorem OH {holds : List aH → Option Bool} {p : List aH → Bool} (hp : ∀ f, holds f = some (p f)) (c : List bH) (t : Bool) : ∀ (gs : List (List aE × List aH)) (last : List aE) (b : Bool), (b = true → sI last = true) →
    ∃ x, itG (fun st r f => rnd (fun (s : Bool × (List aE) × Bool) => nH holds c s.1 s.2.1 s.2.2 r f) st) gs (.inl (t, last, b)) = some x ∧
      (if tB p (if b then some last else none) gs then ∃ u, x = .inl (t, u) else ∃ u, x = .inr (false, u))
  | [], last, b, _ => ⟨_, rfl, by simp [tB]⟩
  | g :: gs, last, b, hb => by
    have hy : nH holds c t last b g.1 g.2 = some (if sI g.1 && ahd (if b then some last else none) g.1 && p g.2 then .inl (t, g.1, true) else .inr (false, last, b)) := by
      unfold nH
      simp only [GQ, Option.bind_some, SY, hp]
      cases hm : sI g.1
      · simp [dG]
      · cases b
        · cases h2 : p g.2 <;> simp [dG, ahd, h2]
        · have hl := hb rfl
          by_cases h1 : sG last g.1 < 0
          · have h1' : ¬ (0 ≤ sG last g.1) := by omega
            cases h2 : p g.2 <;> simp [dG, ahd, h2, hl, h1, h1']
          · have h1' : 0 ≤ sG last g.1 := by omega
            simp [dG, ahd, hl, h1, h1']
    cases hc : (sI g.1 && ahd (if b then some last else none) g.1 && p g.2)
    · rw [hc] at hy
      simp only [itG, rnd, hy, Option.bind_some, tB, hc]
      exact ⟨.inr (false, last, b), by simp, by simp⟩
    · rw [hc] at hy
      simp only [itG, rnd, hy, Option.bind_some, tB, hc]
      have hm : sI g.1 = true := by simp only [Bool.and_eq_true] at hc; exact hc.1.1
      obtain ⟨x, h1, h2⟩ := OH hp c t gs g.1 true (fun _ => hm)
      refine ⟨x, ?_, ?_⟩
      · simpa [rnd] using h1
      · simpa using h2

theorem OG {l : List bH} (hl : okL l) {holds : List aH → Option Bool} {p : List aH → Bool} (hp : ∀ f, holds f = some (p f)) : qB l holds = some (decide (l.length ≤ 4096) && tB p none (groups l)) := by
  unfold qB
  by_cases h : l.length ≤ 4096
  · have h1 : decide ((4096 : Int) < ((l.length : Nat) : Int)) = false := by simp; omega
    rw [h1, cond_false]
    simp only [qI, Option.bind_some, tP]
    obtain ⟨x, e1, e2⟩ := OH hp l false (groups l) [] false (fun h => by cases h)
    rw [NX hl e1]
    simp only [Bool.false_eq_true, if_false] at e2
    simp only [h, decide_true, Bool.true_and]
    cases hc : tB p none (groups l)
    · rw [hc] at e2
      simp only [Bool.false_eq_true, if_false] at e2
      obtain ⟨u, rfl⟩ := e2
      rfl
    · rw [hc] at e2
      simp only [if_true] at e2
      obtain ⟨u, rfl⟩ := e2
      rfl
  · have h1 : decide ((4096 : Int) < ((l.length : Nat) : Int)) = true := by simp; omega
    rw [h1, cond_true]
    simp [h]

def xV (l : List bH) : Bool := decide (l.length ≤ 4096) && tB jU none (groups l)

theorem OC {l : List bH} (hl : okL l) : rS l = some (xV l) := by
  unfold rS
  rw [OG hl (p := jU) (fun f => EI f)]; rfl

def GL (f : List aH) : Bool := jU f && decide (0 ≤ yJ f)

def yE (l : List bH) : Bool := decide (l.length ≤ 4096) && tB GL none (groups l)

theorem SN {l : List bH} (hl : okL l) : rO l = some (yE l) := by
  unfold rO
  rw [OG hl (p := GL) (fun f => by
    unfold oR GL
    rw [EI]
    cases h : jU f <;> simp [dG, UW, h])]
  rfl

def uS (r : List aE) (f : List aH) : List bH := f.map fun j => ⟨r, j.At, j.Net⟩

def flat (gs : List (List aE × List aH)) : List bH := gs.flatMap fun g => uS g.1 g.2

theorem GN : ∀ (l : List bH) (r : List aE) (f : List aH), flat (gA r f l) = uS r f ++ l
  | [], r, f => by simp [gA, flat]
  | e :: l, r, f => by
    unfold gA
    split
    · rename_i h
      rw [GN l r]
      simp [uS, jE, ← h]
    · have := GN l e.Row [jE e]
      simp only [flat, List.flatMap_cons] at this ⊢
      rw [this]
      simp [uS, jE]

theorem MR (l : List bH) : flat (groups l) = l := by
  cases l with
  | nil => rfl
  | cons e l => unfold groups; rw [GN]; simp [uS, jE]

theorem KG {r : List aE} : ∀ {l : List bH} {f : List aH} {g : List aE × List aH}, g ∈ gA r f l → f ≠ [] → g.2 ≠ [] ∧ (g.1 = r ∨ ∃ e ∈ l, g.1 = e.Row)
  | [], f, g, h, hf => by simp only [gA, List.mem_singleton] at h; subst h; exact ⟨hf, .inl rfl⟩
  | e :: l, f, g, h, hf => by
    unfold gA at h
    split at h
    · obtain ⟨h1, h2⟩ := KG h (by simp)
      exact ⟨h1, h2.imp id fun ⟨x, hx, hx'⟩ => ⟨x, by simp [hx], hx'⟩⟩
    · rcases List.mem_cons.1 h with rfl | h
      · exact ⟨hf, .inl rfl⟩
      · obtain ⟨h1, h2⟩ := KG (r := e.Row) h (by simp)
        refine ⟨h1, .inr ?_⟩
        rcases h2 with h2 | ⟨x, hx, hx'⟩
        · exact ⟨e, by simp, h2⟩
        · exact ⟨x, by simp [hx], hx'⟩

theorem RG {l : List bH} {g : List aE × List aH} (h : g ∈ groups l) : g.2 ≠ [] ∧ ∃ e ∈ l, g.1 = e.Row := by
  cases l with
  | nil => simp [groups] at h
  | cons e l =>
    obtain ⟨h1, h2⟩ := KG h (by simp)
    refine ⟨h1, ?_⟩
    rcases h2 with h2 | ⟨x, hx, hx'⟩
    · exact ⟨e, by simp, h2⟩
    · exact ⟨x, by simp [hx], hx'⟩

end Go.Abs
namespace Go.Abs
open Go
def oV (l : List bH) (r : List aE) : List aH := (l.filter fun e => decide (e.Row = r)).map jE

theorem xZ (a b : List bH) (r : List aE) : oV (a ++ b) r = oV a r ++ oV b r := by simp [oV]

theorem IW (q : List aE) (f : List aH) (r : List aE) : oV (uS q f) r = if q = r then f else [] := by
  induction f with
  | nil => simp [oV, uS]
  | cons j f ih =>
    have h1 : uS q (j :: f) = [⟨q, j.At, j.Net⟩] ++ uS q f := rfl
    rw [h1, xZ, ih]
    by_cases h : q = r <;> simp [oV, jE, h]

def look : List (List aE × List aH) → List aE → List aH
  | [], _ => []
  | g :: gs, r => if g.1 = r then g.2 else look gs r

theorem xF (g : List aE × List aH) (gs : List (List aE × List aH)) (r : List aE) : look (g :: gs) r = if g.1 = r then g.2 else look gs r := rfl

abbrev ltG (a b : List aE × List aH) : Prop := sG a.1 b.1 < 0

abbrev AZ (gs : List (List aE × List aH)) : Prop := gs.Pairwise ltG

theorem yY {a : List aE} : ¬ sG a a < 0 := by rw [(LN.eq a a).2 rfl]; omega

theorem IF : ∀ {gs : List (List aE × List aH)} {r : List aE}, (∀ g ∈ gs, g.1 ≠ r) → look gs r = []
  | [], _, _ => rfl
  | g :: gs, r, h => by
    rw [xF]
    rw [if_neg (h g (by simp))]
    exact IF fun q hq => h q (by simp [hq])

theorem QG (gs : List (List aE × List aH)) (r : List aE) : (look gs r = [] ∧ ∀ g ∈ gs, g.1 ≠ r) ∨ ∃ g ∈ gs, g.1 = r ∧ look gs r = g.2 := by
  induction gs with
  | nil => exact .inl ⟨rfl, by simp⟩
  | cons g gs ih =>
    rw [xF]
    by_cases h : g.1 = r
    · rw [if_pos h]; exact .inr ⟨g, by simp, h, rfl⟩
    · rw [if_neg h]
      rcases ih with ⟨h1, h2⟩ | ⟨q, hq, h1, h2⟩
      · refine .inl ⟨h1, fun q hq => ?_⟩
        rcases List.mem_cons.1 hq with rfl | hq
        · exact h
        · exact h2 q hq
      · exact .inr ⟨q, by simp [hq], h1, h2⟩

theorem KE {gs : List (List aE × List aH)} (hs : AZ gs) {g : List aE × List aH} (hg : g ∈ gs) : look gs g.1 = g.2 := by
  induction gs with
  | nil => simp at hg
  | cons q gs ih =>
    have hs' := List.pairwise_cons.1 hs
    rw [xF]
    rcases List.mem_cons.1 hg with rfl | hg
    · rw [if_pos rfl]
    · rw [if_neg (fun e => by have := hs'.1 g hg; simp only [ltG, e] at this; exact yY this)]
      exact ih hs'.2 hg

theorem RR (g : List aE × List aH) (gs : List (List aE × List aH)) : flat (g :: gs) = uS g.1 g.2 ++ flat gs := rfl

theorem BJ : ∀ {gs : List (List aE × List aH)}, AZ gs → ∀ r, oV (flat gs) r = look gs r
  | [], _, r => rfl
  | g :: gs, hs, r => by
    have hs' := List.pairwise_cons.1 hs
    rw [RR, xZ, IW, BJ hs'.2, xF]
    by_cases h : g.1 = r
    · rw [if_pos h, if_pos h, IF, List.append_nil]
      intro q hq e
      have := hs'.1 q hq
      simp only [ltG, h, e] at this; exact yY this
    · rw [if_neg h, if_neg h]; rfl

theorem vA {p : List aH → Bool} : ∀ {gs : List (List aE × List aH)} {last : Option (List aE)}, tB p last gs = true ↔ (∀ g ∈ gs, sI g.1 = true ∧ p g.2 = true) ∧ AZ gs ∧ (∀ q, last = some q → ∀ g ∈ gs, sG q g.1 < 0)
  | [], last => by simp [tB]
  | g :: gs, last => by
    unfold tB
    simp only [Bool.and_eq_true, vA (gs := gs), List.mem_cons, List.pairwise_cons]
    constructor
    · rintro ⟨⟨⟨h1, h2⟩, h3⟩, h4, h5, h6⟩
      refine ⟨?_, ⟨fun q hq => h6 _ rfl q hq, h5⟩, ?_⟩
      · rintro q (rfl | hq)
        · exact ⟨h1, h3⟩
        · exact h4 q hq
      · rintro q rfl x (rfl | hx)
        · simpa [ahd] using h2
        · simp only [ahd, decide_eq_true_eq] at h2
          exact LN.trans _ _ _ h2 (h6 _ rfl x hx)
    · rintro ⟨h1, ⟨h2, h3⟩, h4⟩
      refine ⟨⟨⟨(h1 g (.inl rfl)).1, ?_⟩, (h1 g (.inl rfl)).2⟩, fun q hq => h1 q (.inr hq), h3, ?_⟩
      · unfold ahd
        split
        · rfl
        · exact decide_eq_true (h4 _ rfl g (.inl rfl))
      · rintro q hq x hx
        cases hq
        exact h2 x hx

theorem OU {l : List bH} (h : xV l = true) : l.length ≤ 4096 ∧ (∀ g ∈ groups l, sI g.1 = true ∧ jU g.2 = true) ∧ AZ (groups l) := by
  simp only [xV, Bool.and_eq_true, decide_eq_true_eq] at h
  obtain ⟨h1, h2, _⟩ := vA.1 h.2
  exact ⟨h.1, h1, h2⟩

theorem yZ {l : List bH} (h : AZ (groups l)) (r : List aE) : look (groups l) r = oV l r := by
  rw [← BJ h, MR]

theorem YC (r : List aE) (f : List aH) (e : bH) (l : List bH) : gA r f (e :: l) = if e.Row = r then gA r (f ++ [jE e]) l else (r, f) :: gA e.Row [jE e] l := rfl

theorem SG {l : List bH} (hl : okL l) {g : List aE × List aH} (hg : g ∈ groups l) : g.1.length ≤ 4398046510976 := by
  obtain ⟨_, e, he, h⟩ := RG hg
  rw [h]; exact hl.2 e he

theorem vH : ∀ (l : List bH) (r : List aE) (f : List aH), (gA r f l).length ≤ l.length + 1
  | [], _, _ => by simp [gA]
  | e :: l, r, f => by
    rw [YC]
    split
    · have := vH l r (f ++ [jE e]); simp only [List.length_cons]; omega
    · have := vH l e.Row [jE e]; simp only [List.length_cons]; omega

theorem PB (l : List bH) : (groups l).length ≤ l.length := by
  cases l with
  | nil => simp [groups]
  | cons e l => exact vH l e.Row [jE e]

end Go.Abs
namespace Go.Abs
open Go
def vL : aE := ⟨1, 1, ByteArray.empty⟩

end Go.Abs
namespace Go.Abs
open Go
theorem DB {σ : Type} {y : σ → List aE → List aH → Option (σ × Bool)} (c : List bH) : ∀ (gs : List (List aE × List aH)) (s s' : σ), itG y gs s = some s' →
    ∃ x, itG (fun st t10 t11 => rnd (fun (s : σ) => kD y c s t10 t11) st) gs (.inl s) = some x ∧ Sum.elim id id x = s'
  | [], s, s', h => by simp only [itG, Option.some.injEq] at h; exact ⟨_, rfl, h⟩
  | g :: gs, s, s', h => by
    simp only [itG] at h
    obtain ⟨z, hz, h⟩ := aT h
    have hl : kD y c s g.1 g.2 = some (if z.2 then .inl z.1 else .inr z.1) := by
      unfold kD
      rw [hz]
      obtain ⟨z1, z2⟩ := z
      cases z2 <;> rfl
    cases h2 : z.2
    · rw [h2] at h hl
      simp only [Bool.false_eq_true, if_false, Option.some.injEq] at h hl
      refine ⟨.inr z.1, ?_, h⟩
      simp [itG, rnd, hl]
    · rw [h2] at h hl
      simp only [if_true] at h hl
      obtain ⟨x, h3, h4⟩ := DB c gs z.1 s' h
      refine ⟨x, ?_, h4⟩
      simp only [itG, rnd, hl, Option.bind_some, Sum.isLeft_inl, if_true]
      exact h3

theorem QH {σ : Type} {y : σ → List aE → List aH → Option (σ × Bool)} {l : List bH} (hl : okL l) {s s' : σ} (h : itG y (if xV l then groups l else []) s = some s') : mV y l s = some s' := by
  unfold mV
  rw [OC hl]
  cases hm : xV l
  · rw [hm] at h
    simp only [Bool.false_eq_true, if_false, itG] at h
    simpa using h
  · rw [hm] at h
    simp only [if_true] at h
    simp only [Option.bind_some, Bool.not_true, cond_false, qI, nY]
    obtain ⟨x, h1, h2⟩ := DB l (groups l) s s' h
    rw [NX hl h1]
    cases x <;> simpa using h2

end Go.Abs
namespace Go.Abs
open Go
theorem OK {c : Int} : ∀ {l : List Int} {m : Int}, c ≤ l.foldl mn m ↔ c ≤ m ∧ ∀ x ∈ l, c ≤ x
  | [], m => by simp
  | a :: l, m => by
    rw [List.foldl_cons, OK]
    unfold mn
    constructor
    · rintro ⟨h1, h2⟩
      have h3 : c ≤ m ∧ c ≤ a := by split at h1 <;> omega
      refine ⟨h3.1, fun x hx => ?_⟩
      rcases List.mem_cons.1 hx with rfl | hx
      · exact h3.2
      · exact h2 x hx
    · rintro ⟨h1, h2⟩
      have := h2 a (by simp)
      exact ⟨by split <;> omega, fun x hx => h2 x (by simp [hx])⟩

theorem HP {t : Int} : ∀ {f : List aH} {l v : Int}, pE l f → v + val f t = v ∨ v + val f t ∈ parts v f
  | [], l, v, _ => .inl (by simp [val])
  | j :: r, l, v, h => by
    unfold parts
    rw [gL]
    by_cases e : j.At ≤ t
    · rw [if_pos e]
      right
      rcases HP (t := t) (v := v + j.Net) h.2 with h1 | h1
      · rw [show v + (j.Net + val r t) = v + j.Net by omega]; simp
      · rw [show v + (j.Net + val r t) = v + j.Net + val r t by omega]; exact List.mem_cons_of_mem _ h1
    · left
      rw [if_neg e, h.2.wQ (by omega)]; omega

theorem HW {f : List aH} (hf : jU f = true) : 0 ≤ yJ f ↔ ∀ t, 0 ≤ val f t := by
  have hr := (qG.1 hf).2
  unfold yJ
  rw [OK]
  constructor
  · rintro ⟨_, h2⟩ t
    rcases HP (t := t) (v := 0) hr with h | h
    · omega
    · rw [parts_eq hr] at h
      obtain ⟨j, hj, h⟩ := List.mem_map.1 h
      have := h2 _ (List.mem_map.2 ⟨j, hj, rfl⟩)
      omega
  · intro h
    refine ⟨h _, fun x hx => ?_⟩
    obtain ⟨j, _, rfl⟩ := List.mem_map.1 hx
    exact h _

theorem PL {l : List bH} : yE l = true ↔ xV l = true ∧ ∀ r t, 0 ≤ val (oV l r) t := by
  constructor
  · intro h
    unfold yE at h
    rw [Bool.and_eq_true, vA] at h
    obtain ⟨h1, h2, h3, _⟩ := h
    have hm : xV l = true := by
      unfold xV
      rw [Bool.and_eq_true]
      exact ⟨h1, vA.2 ⟨fun g hg => ⟨(h2 g hg).1, by have := (h2 g hg).2; unfold GL at this; rw [Bool.and_eq_true] at this; exact this.1⟩, h3, fun q hq => by cases hq⟩⟩
    refine ⟨hm, fun r => ?_⟩
    rw [← yZ h3]
    rcases QG (groups l) r with ⟨e, _⟩ | ⟨g, hg, _, e⟩
    · rw [e]; intro t; simp [val]
    · rw [e]
      have := (h2 g hg).2
      unfold GL at this
      rw [Bool.and_eq_true, decide_eq_true_eq] at this
      exact (HW this.1).1 this.2
  · rintro ⟨hm, h⟩
    obtain ⟨h1, h2, h3⟩ := OU hm
    unfold yE
    rw [Bool.and_eq_true]
    refine ⟨by simpa using h1, vA.2 ⟨fun g hg => ⟨(h2 g hg).1, ?_⟩, h3, fun q hq => by cases hq⟩⟩
    unfold GL
    rw [Bool.and_eq_true, decide_eq_true_eq]
    refine ⟨(h2 g hg).2, (HW (h2 g hg).2).2 ?_⟩
    have : g.2 = oV l g.1 := by rw [← yZ h3, KE h3 hg]
    rw [this]; exact h g.1

end Go.Abs
namespace Go.Abs
open Go
abbrev gN (d : List Int) (i : Nat) : Int := d.getD i default

def swp (d : List Int) (i j : Nat) : List Int := (d.set i (gN d j)).set j (gN d i)

theorem SL {d : List Int} {i k : Nat} {x : Int} (h : i < d.length) : gN (d.set i x) k = if k = i then x else gN d k := by
  simp only [gN, List.getD_eq_getElem?_getD, List.getElem?_set]
  by_cases e : i = k
  · subst e; simp [h]
  · rw [if_neg e, if_neg (fun h => e h.symm)]

theorem gI (d : List Int) (i j : Nat) : (swp d i j).length = d.length := by simp [swp]

theorem qE {d : List Int} {i j : Nat} (hi : i < d.length) (hj : j < d.length) (k : Nat) : gN (swp d i j) k = if k = j then gN d i else if k = i then gN d j else gN d k := by
  unfold swp
  rw [SL (by simpa using hj), SL hi]

theorem WH {d : List Int} {i j : Nat} (hi : i < d.length) (hj : j < d.length) : (swp d i j).Perm d := by
  have h1 : gN d i = d[i] := by simp [gN, List.getD_eq_getElem?_getD, List.getElem?_eq_getElem hi]
  have h2 : gN d j = d[j] := by simp [gN, List.getD_eq_getElem?_getD, List.getElem?_eq_getElem hj]
  unfold swp
  rw [h1, h2]
  exact List.set_set_perm hi hj

structure Rel (a b : Nat) (d d' : List Int) : Prop where
  len : d'.length = d.length
  perm : d'.Perm d
  out : ∀ k, k < a ∨ b ≤ k → gN d' k = gN d k
  src : ∀ k, a ≤ k → k < b → ∃ k', a ≤ k' ∧ k' < b ∧ gN d' k = gN d k'

theorem Rel.refl (a b : Nat) (d : List Int) : Rel a b d d := ⟨rfl, .refl _, fun _ _ => rfl, fun k h1 h2 => ⟨k, h1, h2, rfl⟩⟩

theorem Rel.trans {a b : Nat} {d d' d'' : List Int} (h : Rel a b d d') (h' : Rel a b d' d'') : Rel a b d d'' :=
  ⟨h'.len.trans h.len, h'.perm.trans h.perm, fun k hk => (h'.out k hk).trans (h.out k hk), fun k h1 h2 => by
    obtain ⟨k1, a1, a2, a3⟩ := h'.src k h1 h2
    obtain ⟨k2, b1, b2, b3⟩ := h.src k1 a1 a2
    exact ⟨k2, b1, b2, a3.trans b3⟩⟩

theorem Rel.mono {a b a' b' : Nat} {d d' : List Int} (h : Rel a b d d') (h1 : a' ≤ a) (h2 : b ≤ b') : Rel a' b' d d' :=
  ⟨h.len, h.perm, fun k hk => h.out k (by omega), fun k k1 k2 => by
    by_cases hk : a ≤ k ∧ k < b
    · obtain ⟨k', c1, c2, c3⟩ := h.src k hk.1 hk.2
      exact ⟨k', by omega, by omega, c3⟩
    · exact ⟨k, k1, k2, h.out k (by omega)⟩⟩

theorem Rel.swp {a b : Nat} {d : List Int} {i j : Nat} (hi : i < d.length) (hj : j < d.length) (h1 : a ≤ i ∧ i < b) (h2 : a ≤ j ∧ j < b) : Rel a b d (swp d i j) :=
  ⟨gI .., WH hi hj, fun k hk => by rw [qE hi hj, if_neg (by omega), if_neg (by omega)], fun k k1 k2 => by
    rw [qE hi hj]
    split
    · exact ⟨i, h1.1, h1.2, rfl⟩
    · split
      · exact ⟨j, h2.1, h2.2, rfl⟩
      · exact ⟨k, k1, k2, rfl⟩⟩

theorem Rel.all {a b : Nat} {d d' : List Int} (h : Rel a b d d') {p : Int → Prop} (hp : ∀ k, a ≤ k → k < b → p (gN d k)) : ∀ k, a ≤ k → k < b → p (gN d' k) := fun k k1 k2 => by
  obtain ⟨k', c1, c2, c3⟩ := h.src k k1 k2
  rw [c3]; exact hp k' c1 c2

def nL (a b : Nat) (d : List Int) : Prop := ∀ p q, a ≤ p → p ≤ q → q < b → gN d p ≤ gN d q

theorem pJ (a b : Int) : cZ a b = some (decide (a < b)) := by simp [cZ, kP, dG]

theorem wrN {x : Int} {n : Nat} (h : x = (n : Int)) (hn : n ≤ 9000000000000000000) : IntKind.i64.wrap x = (n : Int) := by
  rw [dK (by omega) (by omega), h]

theorem asN {i n : Nat} (h : i < n) : 0 ≤ (i : Int) ∧ (i : Int) < ((n : Nat) : Int) := by omega

theorem LA {a b i : Int} {d : List Int} {lo j : Nat} (ha : a = (lo : Nat)) (h1 : lo ≤ j) (hj : j < d.length) (hl : d.length < 4611686018427387904) :
    eS a b i d (j : Nat) = if lo < j ∧ gN d j < gN d (j - 1) then some (.inl (swp d j (j - 1), ((j - 1 : Nat) : Int))) else some (.inr d) := by
  subst ha
  unfold eS
  by_cases h : lo < j
  · have e1 : IntKind.i64.wrap ((j : Int) - 1) = ((j - 1 : Nat) : Int) := wrN (by omega) (by omega)
    have d1 : decide (((lo : Nat) : Int) < ((j : Nat) : Int)) = true := by simp; omega
    rw [e1, d1]
    simp only [true_and, Int.toNat_natCast, pJ, dG, cond_true, Option.bind_some, Bool.true_and]
    rw [aO fun _ => asN hj, aO fun _ => asN (by omega)]
    by_cases h2 : gN d j < gN d (j - 1)
    · rw [if_pos ⟨h, h2⟩]
      simp only [gN] at h2
      simp only [h2, decide_true, cond_true]
      rw [aO (asN (by omega)), aO (asN hj), aO (asN hj), aO (asN (by omega))]
      rfl
    · rw [if_neg (fun hh => h2 hh.2)]
      simp only [gN] at h2
      simp only [h2, decide_false, cond_false]
  · have d1 : decide (((lo : Nat) : Int) < ((j : Nat) : Int)) = false := by simp; omega
    rw [if_neg (fun hh => h hh.1), d1]
    simp only [Bool.false_eq_true, false_implies, dG, cond_false, Option.bind_some, Bool.false_and]
    rw [aO trivial, aO trivial]

structure BE (a j i : Nat) (d : List Int) : Prop where
  oth : ∀ p q, a ≤ p → p ≤ q → q ≤ i → p ≠ j → q ≠ j → gN d p ≤ gN d q
  up : ∀ q, j < q → q ≤ i → gN d j ≤ gN d q

theorem BE.done {a j i : Nat} {d : List Int} (h : BE a j i d) (hj : a ≤ j) (hn : ¬ (a < j ∧ gN d j < gN d (j - 1))) : nL a (i + 1) d := by
  intro p q h1 h2 h3
  by_cases hp : p = j
  · by_cases hq : q = j
    · subst hp; subst hq; exact Int.le_refl _
    · subst hp; exact h.up q (by omega) (by omega)
  · by_cases hq : q = j
    · subst hq
      have h4 : ¬ gN d q < gN d (q - 1) := fun hh => hn ⟨by omega, hh⟩
      have := h.oth p (q - 1) h1 (by omega) (by omega) hp (by omega)
      omega
    · exact h.oth p q h1 h2 (by omega) hp hq

theorem BE.next {a j i : Nat} {d : List Int} (h : BE a j i d) (hj : a < j) (hji : j ≤ i) (hi : i < d.length) (hlt : gN d j < gN d (j - 1)) : BE a (j - 1) i (swp d j (j - 1)) := by
  have g := qE (d := d) (i := j) (j := j - 1) (by omega) (by omega)
  refine ⟨fun p q h1 h2 h3 hp hq => ?_, fun q h1 h2 => ?_⟩
  · rw [g, g, if_neg hp, if_neg hq]
    by_cases hpj : p = j
    · rw [if_pos hpj]
      by_cases hqj : q = j
      · rw [if_pos hqj]; exact Int.le_refl _
      · rw [if_neg hqj]; exact h.oth (j - 1) q (by omega) (by omega) h3 (by omega) hqj
    · rw [if_neg hpj]
      by_cases hqj : q = j
      · rw [if_pos hqj]; exact h.oth p (j - 1) h1 (by omega) (by omega) hpj (by omega)
      · rw [if_neg hqj]; exact h.oth p q h1 h2 h3 hpj hqj
  · rw [g, g, if_pos rfl, if_neg (by omega)]
    by_cases hqj : q = j
    · rw [if_pos hqj]; omega
    · rw [if_neg hqj]; exact h.up q (by omega) h2

theorem aAa {a b i : Int} {lo hi : Nat} (ha : a = (lo : Nat)) : ∀ (j : Nat) (d : List Int), lo ≤ j → j ≤ hi → hi < d.length → d.length < 4611686018427387904 → BE lo j hi d →
    ∃ d', lp (fun s : List Int × Int => eS a b i s.1 s.2) (d, (j : Int)) = some d' ∧ Rel lo (hi + 1) d d' ∧ nL lo (hi + 1) d' := by
  intro j
  induction j with
  | zero =>
    intro d h1 h2 h3 h4 h5
    have hs := LA (a := a) (b := b) (i := i) ha h1 (by omega) h4 (d := d)
    rw [if_neg (by omega)] at hs
    exact ⟨d, cU hs, Rel.refl .., h5.done h1 (by omega)⟩
  | succ j ih =>
    intro d h1 h2 h3 h4 h5
    have hs := LA (a := a) (b := b) (i := i) ha h1 (by omega) h4 (d := d)
    by_cases h : lo < j + 1 ∧ gN d (j + 1) < gN d (j + 1 - 1)
    · rw [if_pos h] at hs
      obtain ⟨d', e, r, s⟩ := ih (swp d (j + 1) (j + 1 - 1)) (by omega) (by omega) (by rw [gI]; omega) (by rw [gI]; omega) (h5.next h.1 h2 h3 h.2)
      exact ⟨d', (fJ hs).trans e, (Rel.swp (by omega) (by omega) (by omega) (by omega)).trans r, s⟩
    · rw [if_neg h] at hs
      exact ⟨d, cU hs, Rel.refl .., h5.done h1 h⟩

theorem NO {a b : Int} {lo hi : Nat} (ha : a = (lo : Nat)) (hb : b = (hi : Nat)) : ∀ (n i : Nat) (d : List Int), hi - i = n → lo < i → hi ≤ d.length → d.length < 4611686018427387904 → nL lo i d → (i ≤ hi ∨ hi ≤ i) →
    ∃ d', lp (fun s : List Int × Int => dA a b s.1 s.2) (d, (i : Int)) = some d' ∧ Rel lo hi d d' ∧ nL lo hi d' := by
  intro n
  induction n with
  | zero =>
    intro i d h1 h2 h3 h4 h5 _
    refine ⟨d, cU ?_, Rel.refl .., fun p q p1 p2 p3 => h5 p q p1 p2 (by omega)⟩
    show dA _ _ _ _ = _
    have : decide (((i : Nat) : Int) < b) = false := by simp; omega
    simp only [dA, this, cond_false]
  | succ n ih =>
    intro i d h1 h2 h3 h4 h5 _
    obtain ⟨d1, e, r, s⟩ := aAa (a := a) (b := b) (i := (i : Int)) (hi := i) ha i d (by omega) (Nat.le_refl _) (by omega) h4 ⟨fun p q p1 p2 p3 p4 p5 => h5 p q p1 p2 (by omega), fun q q1 q2 => by omega⟩
    obtain ⟨d2, e2, r2, s2⟩ := ih (i + 1) d1 (by omega) (by omega) (by rw [r.len]; exact h3) (by rw [r.len]; exact h4) s (by omega)
    refine ⟨d2, ?_, (r.mono (Nat.le_refl _) (by omega)).trans r2, s2⟩
    rw [fJ (s' := (d1, ((i + 1 : Nat) : Int))) ?_, e2]
    show dA _ _ _ _ = _
    have : decide (((i : Nat) : Int) < b) = true := by simp; omega
    simp only [dA, this, cond_true, iV]
    rw [e]
    simp only [Option.bind_some, fR]
    rw [wrN (n := i + 1) (by omega) (by omega)]

theorem DN (lo : Nat) (d : List Int) : nL lo (lo + 1) d := fun p q p1 p2 p3 => by
  have : p = q := by omega
  subst this
  exact Int.le_refl _

theorem UU {lo hi : Nat} {d : List Int} (h3 : hi ≤ d.length) (h4 : d.length < 4611686018427387904) (h0 : lo ≤ hi) : ∃ d', fY d (lo : Int) (hi : Int) = some d' ∧ Rel lo hi d d' ∧ nL lo hi d' := by
  unfold fY iW
  obtain ⟨d', e, r, s⟩ := NO (a := (lo : Int)) (b := (hi : Int)) (lo := lo) (hi := hi) rfl rfl (hi - (lo + 1)) (lo + 1) d rfl (by omega) h3 h4 (DN lo d) (by omega)
  rw [wrN (n := lo + 1) (by omega) (by omega), e]
  exact ⟨d', rfl, r, s⟩

theorem ZP {lo hi : Nat} : ∀ (n i j : Nat) (d : List Int), j + 1 - i = n → lo ≤ i → j + 1 ≤ hi ∨ j ≤ i → hi ≤ d.length → d.length < 4611686018427387904 → i < 4611686018427387904 → j < 4611686018427387904 →
    ∃ d', lp (fun s : List Int × Int × Int => dD s.1 s.2.1 s.2.2) (d, (i : Int), (j : Int)) = some d' ∧ Rel lo hi d d' := by
  intro n
  induction n using Nat.strongRecOn with
  | ind n ih =>
    intro i j d h1 h2 h3 h4 h5 h6 h7
    by_cases h : i < j
    · obtain ⟨d', e, r⟩ := ih (j - 1 + 1 - (i + 1)) (by omega) (i + 1) (j - 1) (swp d i j) rfl (by omega) (by omega) (by rw [gI]; exact h4) (by rw [gI]; exact h5) (by omega) (by omega)
      refine ⟨d', ?_, (Rel.swp (by omega) (by omega) (by omega) (by omega)).trans r⟩
      rw [fJ (s' := (swp d i j, ((i + 1 : Nat) : Int), ((j - 1 : Nat) : Int))) ?_, e]
      show dD _ _ _ = _
      have : decide (((i : Nat) : Int) < ((j : Nat) : Int)) = true := by simp; omega
      simp only [dD, this, cond_true, Int.toNat_natCast]
      rw [aO (asN (by omega)), aO (asN (by omega)), aO (asN (by omega)), aO (asN (by omega)), wrN (n := i + 1) (by omega) (by omega), wrN (n := j - 1) (by omega) (by omega)]
      rfl
    · refine ⟨d, cU ?_, Rel.refl ..⟩
      show dD _ _ _ = _
      have : decide (((i : Nat) : Int) < ((j : Nat) : Int)) = false := by simp; omega
      simp only [dD, this, cond_false]

theorem SH {lo hi : Nat} {d : List Int} (h0 : lo < hi) (h3 : hi ≤ d.length) (h4 : d.length < 4611686018427387904) : ∃ d', gP d (lo : Int) (hi : Int) = some d' ∧ Rel lo hi d d' := by
  unfold gP iZ
  obtain ⟨d', e, r⟩ := ZP (lo := lo) (hi := hi) (hi - 1 + 1 - lo) lo (hi - 1) d rfl (Nat.le_refl _) (by omega) h3 h4 (by omega) (by omega)
  rw [wrN (n := hi - 1) (by omega) (by omega), e]
  exact ⟨d', rfl, r⟩

end Go.Abs
namespace Go.Abs
open Go
def uA (f hi : Nat) (d : List Int) (r : Nat) : Nat := if 2 * r + 2 < hi ∧ gN d (f + (2 * r + 1)) < gN d (f + (2 * r + 2)) then 2 * r + 2 else 2 * r + 1

theorem HG {f hi r c : Nat} {d : List Int} (hf : f + hi ≤ d.length) (hr : r < hi) (hc : c < hi) (hl : d.length < 2305843009213693951) :
    fU d (hi : Nat) (f : Nat) (r : Nat) (c : Nat) = if gN d (f + r) < gN d (f + c) then some (.inl (swp d (f + r) (f + c), (c : Int))) else some (.inr (.inr d)) := by
  unfold fU
  have e1 : IntKind.i64.wrap ((f : Int) + (r : Int)) = ((f + r : Nat) : Int) := wrN (by omega) (by omega)
  have e2 : IntKind.i64.wrap ((f : Int) + (c : Int)) = ((f + c : Nat) : Int) := wrN (by omega) (by omega)
  rw [e1, e2]
  simp only [Int.toNat_natCast, pJ, Option.bind_some]
  rw [aO (asN (by omega)), aO (asN (by omega))]
  by_cases h : gN d (f + r) < gN d (f + c)
  · rw [if_pos h]
    simp only [gN] at h
    simp only [h, decide_true, Bool.not_true, cond_false]
    rw [aO (asN (by omega)), aO (asN (by omega)), aO (asN (by omega)), aO (asN (by omega))]
    rfl
  · rw [if_neg h]
    simp only [gN] at h
    simp only [h, decide_false, Bool.not_false, cond_true]

end Go.Abs
