/- What the law SnapBack stands on: the framework, the given functions as plain functions, their walks, and the plain laws; part 4. -/
import Derived.Test.YtfhaegpflbcmgaaGreatSnapBackZ3
set_option linter.unusedSimpArgs false
set_option linter.unusedVariables false
namespace Go.Abs
open Go Go.RowKit Go.Proofs
theorem wG (lo0p : Nat) (aA : (List Int)) (a1 : Int) (b2 : Int) (r : (Bool × List Int)) (h0 : fH aA a1 b2 = some r) : iG Tryz.prog 80 lo0p 1 (List.map (eI) aA) (List.map (eI) r.2) [(.msl 1 lo0p 0 (List.length aA)), (eI a1), (eI b2)] (aJ r.1) := by
 intro H0 hl0
 refine cP Tryz.func80 ?_
 have hO := aK.nP hl0
 clear hl0
 obtain ⟨N0, hN0⟩ : ∃ n, n = List.length aA := ⟨_, rfl⟩
 have hN : List.length aA = N0 := hN0.symm
 unfold fH at h0
 refine aS aG 1 [] [] ?_
 refine aS aG 3 [] [(7, (eI (wR (a1 + (1 : Int)))))] ?_
 refine dA (fun T H => ∃ aA : List Int, Has T [(0, (.msl 1 lo0p 0 (List.length aA)))] ∧ aK ⟨H0, [lo0p], []⟩ H [(lo0p, 1, List.map (eI) aA)] ∧ List.length aA = N0 ∧ fB aA = some r) ?_ ?_
 ·clear hO hN h0
  rintro T H ⟨aA, hT, hO, hN, h0⟩
  refine aY hT ?_
  clear hT
  unfold fB at h0
  refine aS aG 1 [] [(6, (aJ false))] ?_
  refine bL ?_
  obtain rfl := oI h0
  exact aH (mB (x := (aJ false)) (by kernel_rfl) (aL.refl _) ⟨rfl, hO.ext, hO.at 0 (by kernel_rfl), by first | rfl | (simp only [List.length_map]; exact hN.trans hN0)⟩)
 refine aS aG 1 [] [(8, (eI (0 : Int)))] ?_
 refine bN 0 ?_
 refine dK [(0, (.msl 1 lo0p 0 (List.length aA))), (1, (eI a1)), (2, (eI b2)), (7, (eI (wR (a1 + (1 : Int))))), (8, (eI (0 : Int)))] ?_
 refine cQ (fun T H => ∃ aA : List Int, ∃ i7 : Int, ∃ j8 : Int, Has T [(0, (.msl 1 lo0p 0 (List.length aA))), (1, (eI a1)), (2, (eI b2)), (7, (eI i7)), (8, (eI j8))] ∧ aK ⟨H0, [lo0p], []⟩ H [(lo0p, 1, List.map (eI) aA)] ∧ List.length aA = N0 ∧ gY aA a1 b2 i7 j8 = some r) ?_ ⟨aA, wR (a1 + (1 : Int)), (0 : Int), .eq (by kernel_rfl), hO, hN, h0⟩
 clear hO hN h0
 rintro T H ⟨aA, i7, j8, hT, hO, hN, h0⟩
 refine aY hT ?_
 clear hT
 unfold gY at h0
 obtain ⟨rr0, hl0, h0⟩ := aW h0
 refine cB (by kernel_rfl) (fun (s : List Int × Int × Int) T H => Has T [(0, (.msl 1 lo0p 0 (List.length s.1))), (1, (eI a1)), (2, (eI b2)), (7, (eI s.2.1)), (8, (eI s.2.2))] ∧ aK ⟨H0, [lo0p], []⟩ H [(lo0p, 1, List.map (eI) s.1)] ∧ List.length s.1 = N0) hl0 ⟨.eq (by kernel_rfl), hO, hN⟩ ?_
 clear hO hN
 rintro k0 s out1 T H ⟨hT, hO, hN⟩ h1 ho0
 obtain ⟨aA, i7, j8⟩ := s
 replace h1 : bY a1 b2 aA i7 j8 = some out1 := h1
 try dsimp only at hT
 refine aY hT ?_
 clear hT
 unfold bY at h1
 refine aO ?_
 refine aS aG 2 [] [(14, (aJ (decide (j8 < (5 : Int)))))] ?_
 refine bE h1 (fun h1 => ?_) (fun h1 => ?_)
 ·refine bG ?_
  refine bD [(0, (.msl 1 lo0p 0 (List.length aA))), (1, (eI a1)), (2, (eI b2)), (7, (eI i7)), (8, (eI j8))] ?_
  refine dA (fun T H => ∃ aA : List Int, ∃ i7 : Int, Has T [(0, (.msl 1 lo0p 0 (List.length aA))), (1, (eI a1)), (2, (eI b2)), (7, (eI i7)), (8, (eI j8))] ∧ aK ⟨H0, [lo0p], []⟩ H [(lo0p, 1, List.map (eI) aA)] ∧ List.length aA = N0 ∧ dZ aA a1 b2 i7 j8 = some out1) ?_ ?_
  ·clear hO hN h1
   rintro T H ⟨aA, i7, hT, hO, hN, h1⟩
   refine aY hT ?_
   clear hT
   unfold dZ at h1
   refine aT aG 3 ?_
   refine bC ?_
   exact aH (aF (⟨rfl, _, (oI h1).symm, .eq (by kernel_rfl), hO, hN⟩))
  refine bN 1 ?_
  refine dA (fun T H => ∃ aA : List Int, ∃ i7 : Int, Has T [(0, (.msl 1 lo0p 0 (List.length aA))), (1, (eI a1)), (2, (eI b2)), (7, (eI i7)), (8, (eI j8))] ∧ aK ⟨H0, [lo0p], []⟩ H [(lo0p, 1, List.map (eI) aA)] ∧ List.length aA = N0 ∧ fE aA a1 b2 i7 j8 = some out1) ?_ ?_
  ·clear hO hN h1
   rintro T H ⟨aA, i7, hT, hO, hN, h1⟩
   refine aY hT ?_
   clear hT
   unfold fE at h1
   refine aO ?_
   refine aS aG 3 [] [(37, (aJ (decide (i7 = b2))))] ?_
   refine bE h1 (fun h1 => ?_) (fun h1 => ?_)
   ·refine aS aG 1 [1, 2, 7, 8, 37] [(6, (aJ true))] ?_
    refine bL ?_
    obtain rfl := oI h1
    obtain rfl : _ = rr0 := ho0
    replace h0 : some (true, aA) = some r := h0
    obtain rfl := oI h0
    exact aH (bB (bT (bB (bB (bT (bB (mB (x := (aJ true)) (by kernel_rfl) (aL.refl _) ⟨rfl, hO.ext, hO.at 0 (by kernel_rfl), by first | rfl | (simp only [List.length_map]; exact hN.trans hN0)⟩)))))))
   refine bG ?_
   refine bD [(0, (.msl 1 lo0p 0 (List.length aA))), (1, (eI a1)), (2, (eI b2)), (7, (eI i7)), (8, (eI j8))] ?_
   refine aO ?_
   refine aS aG 4 [] [(41, (aJ (decide ((wR (b2 - a1)) < (50 : Int)))))] ?_
   refine bE h1 (fun h1 => ?_) (fun h1 => ?_)
   ·refine aS aG 1 [1, 2, 7, 8, 41] [(6, (aJ false))] ?_
    refine bL ?_
    obtain rfl := oI h1
    obtain rfl : _ = rr0 := ho0
    replace h0 : some (false, aA) = some r := h0
    obtain rfl := oI h0
    exact aH (bB (bT (bB (bB (bT (bB (mB (x := (aJ false)) (by kernel_rfl) (aL.refl _) ⟨rfl, hO.ext, hO.at 0 (by kernel_rfl), by first | rfl | (simp only [List.length_map]; exact hN.trans hN0)⟩)))))))
   refine bG ?_
   refine bD [(0, (.msl 1 lo0p 0 (List.length aA))), (1, (eI a1)), (2, (eI b2)), (7, (eI i7)), (8, (eI j8))] ?_
   refine aO ?_
   refine eR (eP []) aG 18 ?_
   obtain ⟨c4, h1⟩ := aX h1
   refine bQ 9 [0 ≤ (wR (i7 - (1 : Int))) ∧ (wR (i7 - (1 : Int))) < (lN aA)] ⟨c4, trivial⟩ ?_
   refine dN 0 lo0p 1 (0 + Int.toNat (wR (i7 - (1 : Int)))) (eI (gD aA (wR (i7 - (1 : Int))))) (eI (gD aA (wR (i7 - (1 : Int))))) (List.map (eI) aA) hO (bJ c4) ?_
   obtain ⟨c5, h1⟩ := aX h1
   refine bQ 13 [0 ≤ i7 ∧ i7 < (lN aA)] ⟨c5, trivial⟩ ?_
   refine dN 0 lo0p 1 (0 + Int.toNat i7) (eI (gD aA i7)) (eI (gD aA i7)) (List.map (eI) aA) hO (bJ c5) ?_
   obtain ⟨c6, h1⟩ := aX h1
   refine bQ 15 [0 ≤ i7 ∧ i7 < (lN aA)] ⟨c6, trivial⟩ ?_
   refine iD 0 lo0p 1 (0 + Int.toNat i7) (eI (gD aA i7)) (eI (gD aA (wR (i7 - (1 : Int))))) (List.map (eI) aA) [(lo0p, 1, List.map (eI) (List.set aA (Int.toNat i7) (gD aA (wR (i7 - (1 : Int))))))] hO (bJ c6) (by simp only [List.set, eA]) ?_
   intro H hO
   replace hN : List.length (List.set aA (Int.toNat i7) (gD aA (wR (i7 - (1 : Int))))) = N0 := by simpa using hN
   obtain ⟨c7, h1⟩ := aX h1
   refine bQ 17 [0 ≤ (wR (i7 - (1 : Int))) ∧ (wR (i7 - (1 : Int))) < (lN aA)] ⟨c7, trivial⟩ ?_
   refine iD 0 lo0p 1 (0 + Int.toNat (wR (i7 - (1 : Int)))) (eI (gD (List.set aA (Int.toNat i7) (gD aA (wR (i7 - (1 : Int))))) (wR (i7 - (1 : Int))))) (eI (gD aA i7)) (List.map (eI) (List.set aA (Int.toNat i7) (gD aA (wR (i7 - (1 : Int)))))) [(lo0p, 1, List.map (eI) (List.set (List.set aA (Int.toNat i7) (gD aA (wR (i7 - (1 : Int))))) (Int.toNat (wR (i7 - (1 : Int)))) (gD aA i7)))] hO (lQ c7 (by simp [])) (by simp only [List.set, eA]) ?_
   intro H hO
   replace hN : List.length (List.set (List.set aA (Int.toNat i7) (gD aA (wR (i7 - (1 : Int))))) (Int.toNat (wR (i7 - (1 : Int)))) (gD aA i7)) = N0 := by simpa using hN
   refine nU (by kernel_rfl) ?_
   refine cA (l := [(0, (.msl 1 lo0p 0 (List.length (List.set (List.set aA (Int.toNat i7) (gD aA (wR (i7 - (1 : Int))))) (Int.toNat (wR (i7 - (1 : Int)))) (gD aA i7))))), (1, (eI a1)), (2, (eI b2)), (7, (eI i7)), (8, (eI j8))]) ⟨[(0, (.msl 1 lo0p 0 (List.length aA))), (1, (eI a1)), (2, (eI b2)), (7, (eI i7)), (8, (eI j8))], by kernel_rfl, rfl, ⟨aL.eq (by simp []), aL.refl _, aL.refl _, aL.refl _, aL.refl _, trivial⟩⟩ ?_
   refine aH (aF (?_))
   refine dA (fun T H => ∃ aA : List Int, Has T [(0, (.msl 1 lo0p 0 (List.length aA))), (1, (eI a1)), (2, (eI b2)), (7, (eI i7)), (8, (eI j8))] ∧ aK ⟨H0, [lo0p], []⟩ H [(lo0p, 1, List.map (eI) aA)] ∧ List.length aA = N0 ∧ cL aA a1 b2 i7 j8 = some out1) ?_ ?_
   ·clear hO hN h1
    rintro T H ⟨aA, hT, hO, hN, h1⟩
    refine aY hT ?_
    clear hT
    unfold cL at h1
    refine aS aG 4 [] [(98, (aJ (decide ((2 : Int) ≤ (wR (b2 - i7))))))] ?_
    refine bE h1 (fun h1 => ?_) (fun h1 => ?_)
    ·refine aS aG 3 [98] [(10, (eI (wR (i7 + (1 : Int)))))] ?_
     refine bN 6 ?_
     refine dK [(0, (.msl 1 lo0p 0 (List.length aA))), (1, (eI a1)), (2, (eI b2)), (7, (eI i7)), (8, (eI j8)), (10, (eI (wR (i7 + (1 : Int)))))] ?_
     refine cQ (fun T H => ∃ aA : List Int, ∃ j10 : Int, Has T [(0, (.msl 1 lo0p 0 (List.length aA))), (1, (eI a1)), (2, (eI b2)), (7, (eI i7)), (8, (eI j8)), (10, (eI j10))] ∧ aK ⟨H0, [lo0p], []⟩ H [(lo0p, 1, List.map (eI) aA)] ∧ List.length aA = N0 ∧ gW aA a1 b2 i7 j8 j10 = some out1) ?_ ⟨aA, wR (i7 + (1 : Int)), .eq (by kernel_rfl), hO, hN, h1⟩
     clear hO hN h1
     rintro T H ⟨aA, j10, hT, hO, hN, h1⟩
     refine aY hT ?_
     clear hT
     unfold gW at h1
     obtain ⟨rr1, hl1, h1⟩ := aW h1
     refine cB (by kernel_rfl) (fun (s : List Int × Int) T H => Has T [(0, (.msl 1 lo0p 0 (List.length s.1))), (1, (eI a1)), (2, (eI b2)), (7, (eI i7)), (8, (eI j8)), (10, (eI s.2))] ∧ aK ⟨H0, [lo0p], []⟩ H [(lo0p, 1, List.map (eI) s.1)] ∧ List.length s.1 = N0) hl1 ⟨.eq (by kernel_rfl), hO, hN⟩ ?_
     clear hO hN
     rintro k1 s out2 T H ⟨hT, hO, hN⟩ h2 ho1
     obtain ⟨aA, j10⟩ := s
     replace h2 : cT a1 b2 i7 j8 aA j10 = some out2 := h2
     try dsimp only at hT
     refine aY hT ?_
     clear hT
     unfold cT at h2
     refine aO ?_
     refine aS aG 3 [] [(103, (aJ (decide (j10 < b2))))] ?_
     refine bE h2 (fun h2 => ?_) (fun h2 => ?_)
     ·refine bG ?_
      refine bD [(0, (.msl 1 lo0p 0 (List.length aA))), (1, (eI a1)), (2, (eI b2)), (7, (eI i7)), (8, (eI j8)), (10, (eI j10))] ?_
      refine aO ?_
      refine bN 7 ?_
      refine aO ?_
      refine aO ?_
      refine eR (eP [115]) aG 11 ?_
      obtain ⟨c10, h2⟩ := aX h2
      refine bQ 3 [0 ≤ j10 ∧ j10 < (lN aA)] ⟨c10, trivial⟩ ?_
      refine dN 0 lo0p 1 (0 + Int.toNat j10) (eI (gD aA j10)) (eI (gD aA j10)) (List.map (eI) aA) hO (bJ c10) ?_
      obtain ⟨c11, h2⟩ := aX h2
      refine bQ 8 [0 ≤ (wR (j10 - (1 : Int))) ∧ (wR (j10 - (1 : Int))) < (lN aA)] ⟨c11, trivial⟩ ?_
      refine dN 0 lo0p 1 (0 + Int.toNat (wR (j10 - (1 : Int)))) (eI (gD aA (wR (j10 - (1 : Int))))) (eI (gD aA (wR (j10 - (1 : Int))))) (List.map (eI) aA) hO (bJ c11) ?_
      obtain ⟨x12, hx13, h2⟩ := aW h2
      refine BA (gQ (gD aA j10) (gD aA (wR (j10 - (1 : Int)))) _ hx13) hO ?_
      intro H hO
      refine jI ?_
      refine bP [] [(116, (aJ (!x12)))] ?_
      refine bE h2 (fun h2 => ?_) (fun h2 => ?_)
      ·refine dW 6 ?_
       obtain rfl := oI h2
       obtain rfl : _ = rr1 := ho1
       replace h1 : dZ aA a1 b2 i7 j8 = some out1 := h1
       exact aH (aR (vF (by kernel_rfl) (aR (aR (bF (aU (aF (⟨rfl, _, _, .eq (by kernel_rfl), hO, hN, h1⟩))))))))
      refine bG ?_
      refine bD [(0, (.msl 1 lo0p 0 (List.length aA))), (1, (eI a1)), (2, (eI b2)), (7, (eI i7)), (8, (eI j8)), (10, (eI j10))] ?_
      refine eR (eP []) aG 18 ?_
      obtain ⟨c16, h2⟩ := aX h2
      refine bQ 9 [0 ≤ (wR (j10 - (1 : Int))) ∧ (wR (j10 - (1 : Int))) < (lN aA)] ⟨c16, trivial⟩ ?_
      refine dN 0 lo0p 1 (0 + Int.toNat (wR (j10 - (1 : Int)))) (eI (gD aA (wR (j10 - (1 : Int))))) (eI (gD aA (wR (j10 - (1 : Int))))) (List.map (eI) aA) hO (bJ c16) ?_
      obtain ⟨c17, h2⟩ := aX h2
      refine bQ 13 [0 ≤ j10 ∧ j10 < (lN aA)] ⟨c17, trivial⟩ ?_
      refine dN 0 lo0p 1 (0 + Int.toNat j10) (eI (gD aA j10)) (eI (gD aA j10)) (List.map (eI) aA) hO (bJ c17) ?_
      obtain ⟨c18, h2⟩ := aX h2
      refine bQ 15 [0 ≤ j10 ∧ j10 < (lN aA)] ⟨c18, trivial⟩ ?_
      refine iD 0 lo0p 1 (0 + Int.toNat j10) (eI (gD aA j10)) (eI (gD aA (wR (j10 - (1 : Int))))) (List.map (eI) aA) [(lo0p, 1, List.map (eI) (List.set aA (Int.toNat j10) (gD aA (wR (j10 - (1 : Int))))))] hO (bJ c18) (by simp only [List.set, eA]) ?_
      intro H hO
      replace hN : List.length (List.set aA (Int.toNat j10) (gD aA (wR (j10 - (1 : Int))))) = N0 := by simpa using hN
      obtain ⟨c19, h2⟩ := aX h2
      refine bQ 17 [0 ≤ (wR (j10 - (1 : Int))) ∧ (wR (j10 - (1 : Int))) < (lN aA)] ⟨c19, trivial⟩ ?_
      refine iD 0 lo0p 1 (0 + Int.toNat (wR (j10 - (1 : Int)))) (eI (gD (List.set aA (Int.toNat j10) (gD aA (wR (j10 - (1 : Int))))) (wR (j10 - (1 : Int))))) (eI (gD aA j10)) (List.map (eI) (List.set aA (Int.toNat j10) (gD aA (wR (j10 - (1 : Int)))))) [(lo0p, 1, List.map (eI) (List.set (List.set aA (Int.toNat j10) (gD aA (wR (j10 - (1 : Int))))) (Int.toNat (wR (j10 - (1 : Int)))) (gD aA j10)))] hO (lQ c19 (by simp [])) (by simp only [List.set, eA]) ?_
      intro H hO
      replace hN : List.length (List.set (List.set aA (Int.toNat j10) (gD aA (wR (j10 - (1 : Int))))) (Int.toNat (wR (j10 - (1 : Int)))) (gD aA j10)) = N0 := by simpa using hN
      refine nU (by kernel_rfl) ?_
      refine cA (l := [(0, (.msl 1 lo0p 0 (List.length (List.set (List.set aA (Int.toNat j10) (gD aA (wR (j10 - (1 : Int))))) (Int.toNat (wR (j10 - (1 : Int)))) (gD aA j10))))), (1, (eI a1)), (2, (eI b2)), (7, (eI i7)), (8, (eI j8)), (10, (eI j10))]) ⟨[(0, (.msl 1 lo0p 0 (List.length aA))), (1, (eI a1)), (2, (eI b2)), (7, (eI i7)), (8, (eI j8)), (10, (eI j10))], by kernel_rfl, rfl, ⟨aL.eq (by simp []), aL.refl _, aL.refl _, aL.refl _, aL.refl _, aL.refl _, trivial⟩⟩ ?_
      refine aH (aU (aF (?_)))
      refine aT aG 3 ?_
      refine bC ?_
      exact aH (aF (⟨rfl, _, (oI h2).symm, .eq (by kernel_rfl), hO, hN⟩))
     refine dW 6 ?_
     obtain rfl := oI h2
     obtain rfl : _ = rr1 := ho1
     replace h1 : dZ aA a1 b2 i7 j8 = some out1 := h1
     exact aH (aR (aR (bF (aU (aF (⟨rfl, _, _, .eq (by kernel_rfl), hO, hN, h1⟩))))))
    refine bG ?_
    exact aH (aU (aF (⟨rfl, _, _, .eq (by kernel_rfl), hO, hN, h1⟩)))
   refine aS aG 4 [] [(61, (aJ (decide ((2 : Int) ≤ (wR (i7 - a1))))))] ?_
   refine bE h1 (fun h1 => ?_) (fun h1 => ?_)
   ·refine aS aG 3 [61] [(9, (eI (wR (i7 - (1 : Int)))))] ?_
    refine bN 4 ?_
    refine dK [(0, (.msl 1 lo0p 0 (List.length (List.set (List.set aA (Int.toNat i7) (gD aA (wR (i7 - (1 : Int))))) (Int.toNat (wR (i7 - (1 : Int)))) (gD aA i7))))), (1, (eI a1)), (2, (eI b2)), (7, (eI i7)), (8, (eI j8)), (9, (eI (wR (i7 - (1 : Int)))))] ?_
    refine cQ (fun T H => ∃ aA : List Int, ∃ j9 : Int, Has T [(0, (.msl 1 lo0p 0 (List.length aA))), (1, (eI a1)), (2, (eI b2)), (7, (eI i7)), (8, (eI j8)), (9, (eI j9))] ∧ aK ⟨H0, [lo0p], []⟩ H [(lo0p, 1, List.map (eI) aA)] ∧ List.length aA = N0 ∧ gX aA a1 b2 i7 j8 j9 = some out1) ?_ ⟨List.set (List.set aA (Int.toNat i7) (gD aA (wR (i7 - (1 : Int))))) (Int.toNat (wR (i7 - (1 : Int)))) (gD aA i7), wR (i7 - (1 : Int)), .eq (by kernel_rfl), hO, hN, h1⟩
    clear hO hN h1
    rintro T H ⟨aA, j9, hT, hO, hN, h1⟩
    refine aY hT ?_
    clear hT
    unfold gX at h1
    obtain ⟨rr1, hl1, h1⟩ := aW h1
    refine cB (by kernel_rfl) (fun (s : List Int × Int) T H => Has T [(0, (.msl 1 lo0p 0 (List.length s.1))), (1, (eI a1)), (2, (eI b2)), (7, (eI i7)), (8, (eI j8)), (9, (eI s.2))] ∧ aK ⟨H0, [lo0p], []⟩ H [(lo0p, 1, List.map (eI) s.1)] ∧ List.length s.1 = N0) hl1 ⟨.eq (by kernel_rfl), hO, hN⟩ ?_
    clear hO hN
    rintro k1 s out2 T H ⟨hT, hO, hN⟩ h2 ho1
    obtain ⟨aA, j9⟩ := s
    replace h2 : cK a1 b2 i7 j8 aA j9 = some out2 := h2
    try dsimp only at hT
    refine aY hT ?_
    clear hT
    unfold cK at h2
    refine aO ?_
    refine aS aG 2 [] [(65, (aJ (decide ((1 : Int) ≤ j9))))] ?_
    refine bE h2 (fun h2 => ?_) (fun h2 => ?_)
    ·refine bG ?_
     refine bD [(0, (.msl 1 lo0p 0 (List.length aA))), (1, (eI a1)), (2, (eI b2)), (7, (eI i7)), (8, (eI j8)), (9, (eI j9))] ?_
     refine aO ?_
     refine bN 5 ?_
     refine aO ?_
     refine aO ?_
     refine eR (eP [77]) aG 11 ?_
     obtain ⟨c22, h2⟩ := aX h2
     refine bQ 3 [0 ≤ j9 ∧ j9 < (lN aA)] ⟨c22, trivial⟩ ?_
     refine dN 0 lo0p 1 (0 + Int.toNat j9) (eI (gD aA j9)) (eI (gD aA j9)) (List.map (eI) aA) hO (bJ c22) ?_
     obtain ⟨c23, h2⟩ := aX h2
     refine bQ 8 [0 ≤ (wR (j9 - (1 : Int))) ∧ (wR (j9 - (1 : Int))) < (lN aA)] ⟨c23, trivial⟩ ?_
     refine dN 0 lo0p 1 (0 + Int.toNat (wR (j9 - (1 : Int)))) (eI (gD aA (wR (j9 - (1 : Int))))) (eI (gD aA (wR (j9 - (1 : Int))))) (List.map (eI) aA) hO (bJ c23) ?_
     obtain ⟨x24, hx25, h2⟩ := aW h2
     refine BA (gQ (gD aA j9) (gD aA (wR (j9 - (1 : Int)))) _ hx25) hO ?_
     intro H hO
     refine jI ?_
     refine bP [] [(78, (aJ (!x24)))] ?_
     refine bE h2 (fun h2 => ?_) (fun h2 => ?_)
     ·refine dW 4 ?_
      obtain rfl := oI h2
      obtain rfl : _ = rr1 := ho1
      replace h1 : cL aA a1 b2 i7 j8 = some out1 := h1
      exact aH (aR (vF (by kernel_rfl) (aR (aR (bF (aF (⟨rfl, _, .eq (by kernel_rfl), hO, hN, h1⟩)))))))
     refine bG ?_
     refine bD [(0, (.msl 1 lo0p 0 (List.length aA))), (1, (eI a1)), (2, (eI b2)), (7, (eI i7)), (8, (eI j8)), (9, (eI j9))] ?_
     refine eR (eP []) aG 18 ?_
     obtain ⟨c28, h2⟩ := aX h2
     refine bQ 9 [0 ≤ (wR (j9 - (1 : Int))) ∧ (wR (j9 - (1 : Int))) < (lN aA)] ⟨c28, trivial⟩ ?_
     refine dN 0 lo0p 1 (0 + Int.toNat (wR (j9 - (1 : Int)))) (eI (gD aA (wR (j9 - (1 : Int))))) (eI (gD aA (wR (j9 - (1 : Int))))) (List.map (eI) aA) hO (bJ c28) ?_
     obtain ⟨c29, h2⟩ := aX h2
     refine bQ 13 [0 ≤ j9 ∧ j9 < (lN aA)] ⟨c29, trivial⟩ ?_
     refine dN 0 lo0p 1 (0 + Int.toNat j9) (eI (gD aA j9)) (eI (gD aA j9)) (List.map (eI) aA) hO (bJ c29) ?_
     obtain ⟨c30, h2⟩ := aX h2
     refine bQ 15 [0 ≤ j9 ∧ j9 < (lN aA)] ⟨c30, trivial⟩ ?_
     refine iD 0 lo0p 1 (0 + Int.toNat j9) (eI (gD aA j9)) (eI (gD aA (wR (j9 - (1 : Int))))) (List.map (eI) aA) [(lo0p, 1, List.map (eI) (List.set aA (Int.toNat j9) (gD aA (wR (j9 - (1 : Int))))))] hO (bJ c30) (by simp only [List.set, eA]) ?_
     intro H hO
     replace hN : List.length (List.set aA (Int.toNat j9) (gD aA (wR (j9 - (1 : Int))))) = N0 := by simpa using hN
     obtain ⟨c31, h2⟩ := aX h2
     refine bQ 17 [0 ≤ (wR (j9 - (1 : Int))) ∧ (wR (j9 - (1 : Int))) < (lN aA)] ⟨c31, trivial⟩ ?_
     refine iD 0 lo0p 1 (0 + Int.toNat (wR (j9 - (1 : Int)))) (eI (gD (List.set aA (Int.toNat j9) (gD aA (wR (j9 - (1 : Int))))) (wR (j9 - (1 : Int))))) (eI (gD aA j9)) (List.map (eI) (List.set aA (Int.toNat j9) (gD aA (wR (j9 - (1 : Int)))))) [(lo0p, 1, List.map (eI) (List.set (List.set aA (Int.toNat j9) (gD aA (wR (j9 - (1 : Int))))) (Int.toNat (wR (j9 - (1 : Int)))) (gD aA j9)))] hO (lQ c31 (by simp [])) (by simp only [List.set, eA]) ?_
     intro H hO
     replace hN : List.length (List.set (List.set aA (Int.toNat j9) (gD aA (wR (j9 - (1 : Int))))) (Int.toNat (wR (j9 - (1 : Int)))) (gD aA j9)) = N0 := by simpa using hN
     refine nU (by kernel_rfl) ?_
     refine cA (l := [(0, (.msl 1 lo0p 0 (List.length (List.set (List.set aA (Int.toNat j9) (gD aA (wR (j9 - (1 : Int))))) (Int.toNat (wR (j9 - (1 : Int)))) (gD aA j9))))), (1, (eI a1)), (2, (eI b2)), (7, (eI i7)), (8, (eI j8)), (9, (eI j9))]) ⟨[(0, (.msl 1 lo0p 0 (List.length aA))), (1, (eI a1)), (2, (eI b2)), (7, (eI i7)), (8, (eI j8)), (9, (eI j9))], by kernel_rfl, rfl, ⟨aL.eq (by simp []), aL.refl _, aL.refl _, aL.refl _, aL.refl _, aL.refl _, trivial⟩⟩ ?_
     refine aH (aU (aF (?_)))
     refine aT aG 3 ?_
     refine bC ?_
     exact aH (aF (⟨rfl, _, (oI h2).symm, .eq (by kernel_rfl), hO, hN⟩))
    refine dW 4 ?_
    obtain rfl := oI h2
    obtain rfl : _ = rr1 := ho1
    replace h1 : cL aA a1 b2 i7 j8 = some out1 := h1
    exact aH (aR (aR (bF (aF (⟨rfl, _, .eq (by kernel_rfl), hO, hN, h1⟩)))))
   refine bG ?_
   exact aH (aF (⟨rfl, _, .eq (by kernel_rfl), hO, hN, h1⟩))
  refine bN 2 ?_
  refine dK [(0, (.msl 1 lo0p 0 (List.length aA))), (1, (eI a1)), (2, (eI b2)), (7, (eI i7)), (8, (eI j8))] ?_
  refine cQ (fun T H => ∃ aA : List Int, ∃ i7 : Int, Has T [(0, (.msl 1 lo0p 0 (List.length aA))), (1, (eI a1)), (2, (eI b2)), (7, (eI i7)), (8, (eI j8))] ∧ aK ⟨H0, [lo0p], []⟩ H [(lo0p, 1, List.map (eI) aA)] ∧ List.length aA = N0 ∧ dJ aA a1 b2 i7 j8 = some out1) ?_ ⟨aA, i7, .eq (by kernel_rfl), hO, hN, h1⟩
  clear hO hN h1
  rintro T H ⟨aA, i7, hT, hO, hN, h1⟩
  refine aY hT ?_
  clear hT
  unfold dJ at h1
  obtain ⟨rr1, hl1, h1⟩ := aW h1
  refine cB (by kernel_rfl) (fun (s : List Int × Int) T H => Has T [(0, (.msl 1 lo0p 0 (List.length s.1))), (1, (eI a1)), (2, (eI b2)), (7, (eI s.2)), (8, (eI j8))] ∧ aK ⟨H0, [lo0p], []⟩ H [(lo0p, 1, List.map (eI) s.1)] ∧ List.length s.1 = N0) hl1 ⟨.eq (by kernel_rfl), hO, hN⟩ ?_
  clear hO hN
  rintro k1 s out2 T H ⟨hT, hO, hN⟩ h2 ho1
  obtain ⟨aA, i7⟩ := s
  replace h2 : cS a1 b2 j8 aA i7 = some out2 := h2
  try dsimp only at hT
  refine aY hT ?_
  clear hT
  unfold cS at h2
  refine aO ?_
  refine aO ?_
  obtain ⟨c32, h2⟩ := aX h2
  obtain ⟨c33, h2⟩ := aX h2
  obtain ⟨x34, hx35, h2⟩ := aW h2
  refine eR (eP []) aG 16 ?_
  refine uF (K := fun T H => Has (lift T) [(0, (.msl 1 lo0p 0 (List.length aA))), (1, (eI a1)), (2, (eI b2)), (7, (eI i7)), (8, (eI j8)), (32, (aJ ((decide (i7 < b2)) && (!x34))))] ∧ aK ⟨H0, [lo0p], []⟩ H [(lo0p, 1, List.map (eI) aA)]) ?_ ?_
  ·refine qV 4 ?_
   refine sE (t := 20) (e := decide (i7 < b2)) (by kernel_rfl) (fun hg36 => ?_) (fun hg36 => ?_)
   ·refine bQ 7 [0 ≤ i7 ∧ i7 < (lN aA)] ⟨(c32 hg36), trivial⟩ ?_
    refine jH 0 lo0p 1 (0 + Int.toNat i7) (eI (gD aA i7)) (eI (gD aA i7)) (List.map (eI) aA) (by kernel_rfl) (by kernel_rfl) (by kernel_rfl) hO (by kernel_rfl) (bJ (c32 hg36)) ?_
    refine bQ 12 [0 ≤ (wR (i7 - (1 : Int))) ∧ (wR (i7 - (1 : Int))) < (lN aA)] ⟨(c33 hg36), trivial⟩ ?_
    refine jH 0 lo0p 1 (0 + Int.toNat (wR (i7 - (1 : Int)))) (eI (gD aA (wR (i7 - (1 : Int))))) (eI (gD aA (wR (i7 - (1 : Int))))) (List.map (eI) aA) (by kernel_rfl) (by kernel_rfl) (by kernel_rfl) hO (by kernel_rfl) (bJ (c33 hg36)) ?_
    refine tX 81 [(eI (gD aA i7)), (eI (gD aA (wR (i7 - (1 : Int)))))] (aJ x34) (by kernel_rfl) (by kernel_rfl) (gQ (gD aA i7) (gD aA (wR (i7 - (1 : Int)))) _ (pN hx35 hg36)) hO ?_
    intro H hO
    refine jI ?_
    exact ⟨⟨[(0, (.msl 1 lo0p 0 (List.length aA))), (1, (eI a1)), (2, (eI b2)), (7, (eI i7)), (8, (eI j8)), (32, (aJ (!x34)))], by kernel_rfl, rfl, ⟨aL.refl _, aL.refl _, aL.refl _, aL.refl _, aL.refl _, aL.eq (congrArg aJ (qD hg36 rfl).symm), trivial⟩⟩, hO⟩
   refine jI ?_
   exact ⟨⟨[(0, (.msl 1 lo0p 0 (List.length aA))), (1, (eI a1)), (2, (eI b2)), (7, (eI i7)), (8, (eI j8)), (32, (aJ false))], by kernel_rfl, rfl, ⟨aL.refl _, aL.refl _, aL.refl _, aL.refl _, aL.refl _, aL.eq (congrArg aJ (qD hg36 rfl).symm), trivial⟩⟩, hO⟩
  ·rintro T H ⟨hT, hO⟩
   refine cA hT ?_
   clear hT
   refine aH (aF ?_)
   refine bE h2 (fun h2 => ?_) (fun h2 => ?_)
   ·refine bG ?_
    refine bD [(0, (.msl 1 lo0p 0 (List.length aA))), (1, (eI a1)), (2, (eI b2)), (7, (eI i7)), (8, (eI j8))] ?_
    refine bN 3 ?_
    refine aT aG 3 ?_
    refine bC ?_
    exact aH (aU (aF (⟨rfl, _, (oI h2).symm, .eq (by kernel_rfl), hO, hN⟩)))
   refine dW 2 ?_
   obtain rfl := oI h2
   obtain rfl : _ = rr1 := ho1
   replace h1 : fE aA a1 b2 i7 j8 = some out1 := h1
   exact aH (aR (aR (bF (aF (⟨rfl, _, _, .eq (by kernel_rfl), hO, hN, h1⟩)))))
 refine dW 0 ?_
 obtain rfl := oI h1
 obtain rfl : _ = rr0 := ho0
 replace h0 : fB aA = some r := h0
 exact aH (aR (aR (bF (aF (⟨rfl, _, .eq (by kernel_rfl), hO, hN, h0⟩)))))

theorem zT (lo0p : Nat) (aA : (List Int)) (a1 : Int) (b2 : Int) (cM : Int) (r : (Int × List Int)) (h0 : fO aA a1 b2 cM = some r) : iG Tryz.prog 82 lo0p 1 (List.map (eI) aA) (List.map (eI) r.2) [(.msl 1 lo0p 0 (List.length aA)), (eI a1), (eI b2), (eI cM)] (eI r.1) := by
 intro H0 hl0
 refine cP Tryz.func82 ?_
 have hO := aK.nP hl0
 clear hl0
 obtain ⟨N0, hN0⟩ : ∃ n, n = List.length aA := ⟨_, rfl⟩
 have hN : List.length aA = N0 := hN0.symm
 unfold fO at h0
 refine aS aG 1 [] [] ?_
 refine aO ?_
 refine eR (eP []) aG 16 ?_
 obtain ⟨c1, h0⟩ := aX h0
 refine bQ 7 [0 ≤ cM ∧ cM < (lN aA)] ⟨c1, trivial⟩ ?_
 refine dN 0 lo0p 1 (0 + Int.toNat cM) (eI (gD aA cM)) (eI (gD aA cM)) (List.map (eI) aA) hO (bJ c1) ?_
 obtain ⟨c2, h0⟩ := aX h0
 refine bQ 11 [0 ≤ a1 ∧ a1 < (lN aA)] ⟨c2, trivial⟩ ?_
 refine dN 0 lo0p 1 (0 + Int.toNat a1) (eI (gD aA a1)) (eI (gD aA a1)) (List.map (eI) aA) hO (bJ c2) ?_
 obtain ⟨c3, h0⟩ := aX h0
 refine bQ 13 [0 ≤ a1 ∧ a1 < (lN aA)] ⟨c3, trivial⟩ ?_
 refine iD 0 lo0p 1 (0 + Int.toNat a1) (eI (gD aA a1)) (eI (gD aA cM)) (List.map (eI) aA) [(lo0p, 1, List.map (eI) (List.set aA (Int.toNat a1) (gD aA cM)))] hO (bJ c3) (by simp only [List.set, eA]) ?_
 intro H hO
 replace hN : List.length (List.set aA (Int.toNat a1) (gD aA cM)) = N0 := by simpa using hN
 obtain ⟨c4, h0⟩ := aX h0
 refine bQ 15 [0 ≤ cM ∧ cM < (lN aA)] ⟨c4, trivial⟩ ?_
 refine iD 0 lo0p 1 (0 + Int.toNat cM) (eI (gD (List.set aA (Int.toNat a1) (gD aA cM)) cM)) (eI (gD aA a1)) (List.map (eI) (List.set aA (Int.toNat a1) (gD aA cM))) [(lo0p, 1, List.map (eI) (List.set (List.set aA (Int.toNat a1) (gD aA cM)) (Int.toNat cM) (gD aA a1)))] hO (lQ c4 (by simp [])) (by simp only [List.set, eA]) ?_
 intro H hO
 replace hN : List.length (List.set (List.set aA (Int.toNat a1) (gD aA cM)) (Int.toNat cM) (gD aA a1)) = N0 := by simpa using hN
 refine nU (by kernel_rfl) ?_
 refine cA (l := [(0, (.msl 1 lo0p 0 (List.length (List.set (List.set aA (Int.toNat a1) (gD aA cM)) (Int.toNat cM) (gD aA a1))))), (1, (eI a1)), (2, (eI b2))]) ⟨[(0, (.msl 1 lo0p 0 (List.length aA))), (1, (eI a1)), (2, (eI b2))], by kernel_rfl, rfl, ⟨aL.eq (by simp []), aL.refl _, aL.refl _, trivial⟩⟩ ?_
 refine aH (aF (?_))
 refine aS aG 6 [2] [(9, (eI (wR (a1 + (1 : Int))))), (10, (eI (wR (b2 - (1 : Int)))))] ?_
 refine dA (fun T H => ∃ aA : List Int, ∃ i9 : Int, Has T [(0, (.msl 1 lo0p 0 (List.length aA))), (9, (eI i9))] ∧ aK ⟨H0, [lo0p], []⟩ H [(lo0p, 1, List.map (eI) aA)] ∧ List.length aA = N0 ∧ kJ aA i9 = some r) ?_ ?_
 ·clear hO hN h0
  rintro T H ⟨aA, i9, hT, hO, hN, h0⟩
  refine aY hT ?_
  clear hT
  unfold kJ at h0
  refine aS aG 2 [9] [(8, (eI i9))] ?_
  refine bL ?_
  obtain rfl := oI h0
  exact aH (mB (x := (eI i9)) (by kernel_rfl) (aL.refl _) ⟨rfl, hO.ext, hO.at 0 (by kernel_rfl), by first | rfl | (simp only [List.length_map]; exact hN.trans hN0)⟩)
 refine bN 0 ?_
 refine dK [(0, (.msl 1 lo0p 0 (List.length (List.set (List.set aA (Int.toNat a1) (gD aA cM)) (Int.toNat cM) (gD aA a1))))), (1, (eI a1)), (9, (eI (wR (a1 + (1 : Int))))), (10, (eI (wR (b2 - (1 : Int)))))] ?_
 refine cQ (fun T H => ∃ aA : List Int, ∃ i9 : Int, ∃ j10 : Int, Has T [(0, (.msl 1 lo0p 0 (List.length aA))), (1, (eI a1)), (9, (eI i9)), (10, (eI j10))] ∧ aK ⟨H0, [lo0p], []⟩ H [(lo0p, 1, List.map (eI) aA)] ∧ List.length aA = N0 ∧ kN aA a1 i9 j10 = some r) ?_ ⟨List.set (List.set aA (Int.toNat a1) (gD aA cM)) (Int.toNat cM) (gD aA a1), wR (a1 + (1 : Int)), wR (b2 - (1 : Int)), .eq (by kernel_rfl), hO, hN, h0⟩
 clear hO hN h0
 rintro T H ⟨aA, i9, j10, hT, hO, hN, h0⟩
 refine aY hT ?_
 clear hT
 unfold kN at h0
 obtain ⟨rr0, hl0, h0⟩ := aW h0
 refine cB (by kernel_rfl) (fun (s : List Int × Int × Int) T H => Has T [(0, (.msl 1 lo0p 0 (List.length s.1))), (1, (eI a1)), (9, (eI s.2.1)), (10, (eI s.2.2))] ∧ aK ⟨H0, [lo0p], []⟩ H [(lo0p, 1, List.map (eI) s.1)] ∧ List.length s.1 = N0) hl0 ⟨.eq (by kernel_rfl), hO, hN⟩ ?_
 clear hO hN
 rintro k0 s out1 T H ⟨hT, hO, hN⟩ h1 ho0
 obtain ⟨aA, i9, j10⟩ := s
 replace h1 : cX a1 aA i9 j10 = some out1 := h1
 try dsimp only at hT
 refine aY hT ?_
 clear hT
 unfold cX at h1
 refine bN 1 ?_
 refine dA (fun T H => ∃ aA : List Int, ∃ i9 : Int, Has T [(0, (.msl 1 lo0p 0 (List.length aA))), (1, (eI a1)), (9, (eI i9)), (10, (eI j10))] ∧ aK ⟨H0, [lo0p], []⟩ H [(lo0p, 1, List.map (eI) aA)] ∧ List.length aA = N0 ∧ gM aA a1 i9 j10 = some out1) ?_ ?_
 ·clear hO hN h1
  rintro T H ⟨aA, i9, hT, hO, hN, h1⟩
  refine aY hT ?_
  clear hT
  unfold gM at h1
  refine dA (fun T H => ∃ aA : List Int, ∃ j10 : Int, Has T [(0, (.msl 1 lo0p 0 (List.length aA))), (1, (eI a1)), (9, (eI i9)), (10, (eI j10))] ∧ aK ⟨H0, [lo0p], []⟩ H [(lo0p, 1, List.map (eI) aA)] ∧ List.length aA = N0 ∧ eB aA a1 i9 j10 = some out1) ?_ ?_
  ·clear hO hN h1
   rintro T H ⟨aA, j10, hT, hO, hN, h1⟩
   refine aY hT ?_
   clear hT
   unfold eB at h1
   refine aO ?_
   refine aS aG 3 [] [(64, (aJ (decide (j10 < i9))))] ?_
   refine bE h1 (fun h1 => ?_) (fun h1 => ?_)
   ·refine dW 0 ?_
    obtain rfl := oI h1
    obtain rfl : _ = rr0 := ho0
    replace h0 : kJ aA i9 = some r := h0
    exact aH (aR (vF (by kernel_rfl) (aR (bF (aF (⟨rfl, _, _, .eq (by kernel_rfl), hO, hN, h0⟩))))))
   refine bG ?_
   refine bD [(0, (.msl 1 lo0p 0 (List.length aA))), (1, (eI a1)), (9, (eI i9)), (10, (eI j10))] ?_
   refine aO ?_
   refine eR (eP []) aG 16 ?_
   obtain ⟨c6, h1⟩ := aX h1
   refine bQ 7 [0 ≤ j10 ∧ j10 < (lN aA)] ⟨c6, trivial⟩ ?_
   refine dN 0 lo0p 1 (0 + Int.toNat j10) (eI (gD aA j10)) (eI (gD aA j10)) (List.map (eI) aA) hO (bJ c6) ?_
   obtain ⟨c7, h1⟩ := aX h1
   refine bQ 11 [0 ≤ i9 ∧ i9 < (lN aA)] ⟨c7, trivial⟩ ?_
   refine dN 0 lo0p 1 (0 + Int.toNat i9) (eI (gD aA i9)) (eI (gD aA i9)) (List.map (eI) aA) hO (bJ c7) ?_
   obtain ⟨c8, h1⟩ := aX h1
   refine bQ 13 [0 ≤ i9 ∧ i9 < (lN aA)] ⟨c8, trivial⟩ ?_
   refine iD 0 lo0p 1 (0 + Int.toNat i9) (eI (gD aA i9)) (eI (gD aA j10)) (List.map (eI) aA) [(lo0p, 1, List.map (eI) (List.set aA (Int.toNat i9) (gD aA j10)))] hO (bJ c8) (by simp only [List.set, eA]) ?_
   intro H hO
   replace hN : List.length (List.set aA (Int.toNat i9) (gD aA j10)) = N0 := by simpa using hN
   obtain ⟨c9, h1⟩ := aX h1
   refine bQ 15 [0 ≤ j10 ∧ j10 < (lN aA)] ⟨c9, trivial⟩ ?_
   refine iD 0 lo0p 1 (0 + Int.toNat j10) (eI (gD (List.set aA (Int.toNat i9) (gD aA j10)) j10)) (eI (gD aA i9)) (List.map (eI) (List.set aA (Int.toNat i9) (gD aA j10))) [(lo0p, 1, List.map (eI) (List.set (List.set aA (Int.toNat i9) (gD aA j10)) (Int.toNat j10) (gD aA i9)))] hO (lQ c9 (by simp [])) (by simp only [List.set, eA]) ?_
   intro H hO
   replace hN : List.length (List.set (List.set aA (Int.toNat i9) (gD aA j10)) (Int.toNat j10) (gD aA i9)) = N0 := by simpa using hN
   refine nU (by kernel_rfl) ?_
   refine cA (l := [(0, (.msl 1 lo0p 0 (List.length (List.set (List.set aA (Int.toNat i9) (gD aA j10)) (Int.toNat j10) (gD aA i9))))), (1, (eI a1)), (9, (eI i9)), (10, (eI j10))]) ⟨[(0, (.msl 1 lo0p 0 (List.length aA))), (1, (eI a1)), (9, (eI i9)), (10, (eI j10))], by kernel_rfl, rfl, ⟨aL.eq (by simp []), aL.refl _, aL.refl _, aL.refl _, trivial⟩⟩ ?_
   refine aH (aF (?_))
   refine aS aG 3 [9] [(9, (eI (wR (i9 + (1 : Int)))))] ?_
   refine aT aG 3 ?_
   refine bC ?_
   exact aH (aU (aF (⟨rfl, _, (oI h1).symm, .eq (by kernel_rfl), hO, hN⟩)))
  refine bN 4 ?_
  refine dK [(0, (.msl 1 lo0p 0 (List.length aA))), (1, (eI a1)), (9, (eI i9)), (10, (eI j10))] ?_
  refine cQ (fun T H => ∃ aA : List Int, ∃ j10 : Int, Has T [(0, (.msl 1 lo0p 0 (List.length aA))), (1, (eI a1)), (9, (eI i9)), (10, (eI j10))] ∧ aK ⟨H0, [lo0p], []⟩ H [(lo0p, 1, List.map (eI) aA)] ∧ List.length aA = N0 ∧ kH aA a1 i9 j10 = some out1) ?_ ⟨aA, j10, .eq (by kernel_rfl), hO, hN, h1⟩
  clear hO hN h1
  rintro T H ⟨aA, j10, hT, hO, hN, h1⟩
  refine aY hT ?_
  clear hT
  unfold kH at h1
  obtain ⟨rr1, hl1, h1⟩ := aW h1
  refine cB (by kernel_rfl) (fun (s : List Int × Int) T H => Has T [(0, (.msl 1 lo0p 0 (List.length s.1))), (1, (eI a1)), (9, (eI i9)), (10, (eI s.2))] ∧ aK ⟨H0, [lo0p], []⟩ H [(lo0p, 1, List.map (eI) s.1)] ∧ List.length s.1 = N0) hl1 ⟨.eq (by kernel_rfl), hO, hN⟩ ?_
  clear hO hN
  rintro k1 s out2 T H ⟨hT, hO, hN⟩ h2 ho1
  obtain ⟨aA, j10⟩ := s
  replace h2 : eC a1 i9 aA j10 = some out2 := h2
  try dsimp only at hT
  refine aY hT ?_
  clear hT
  unfold eC at h2
  refine aO ?_
  refine aO ?_
  obtain ⟨c10, h2⟩ := aX h2
  obtain ⟨c11, h2⟩ := aX h2
  obtain ⟨x12, hx13, h2⟩ := aW h2
  refine eR (eP []) aG 14 ?_
  refine uF (K := fun T H => Has (lift T) [(0, (.msl 1 lo0p 0 (List.length aA))), (1, (eI a1)), (9, (eI i9)), (10, (eI j10)), (59, (aJ ((decide (i9 ≤ j10)) && x12)))] ∧ aK ⟨H0, [lo0p], []⟩ H [(lo0p, 1, List.map (eI) aA)]) ?_ ?_
  ·refine qV 4 ?_
   refine sE (t := 49) (e := decide (i9 ≤ j10)) (by kernel_rfl) (fun hg14 => ?_) (fun hg14 => ?_)
   ·refine bQ 7 [0 ≤ a1 ∧ a1 < (lN aA)] ⟨(c10 hg14), trivial⟩ ?_
    refine jH 0 lo0p 1 (0 + Int.toNat a1) (eI (gD aA a1)) (eI (gD aA a1)) (List.map (eI) aA) (by kernel_rfl) (by kernel_rfl) (by kernel_rfl) hO (by kernel_rfl) (bJ (c10 hg14)) ?_
    refine bQ 11 [0 ≤ j10 ∧ j10 < (lN aA)] ⟨(c11 hg14), trivial⟩ ?_
    refine jH 0 lo0p 1 (0 + Int.toNat j10) (eI (gD aA j10)) (eI (gD aA j10)) (List.map (eI) aA) (by kernel_rfl) (by kernel_rfl) (by kernel_rfl) hO (by kernel_rfl) (bJ (c11 hg14)) ?_
    refine tX 81 [(eI (gD aA a1)), (eI (gD aA j10))] (aJ x12) (by kernel_rfl) (by kernel_rfl) (gQ (gD aA a1) (gD aA j10) _ (pN hx13 hg14)) hO ?_
    intro H hO
    refine jI ?_
    exact ⟨⟨[(0, (.msl 1 lo0p 0 (List.length aA))), (1, (eI a1)), (9, (eI i9)), (10, (eI j10)), (59, (aJ x12))], by kernel_rfl, rfl, ⟨aL.refl _, aL.refl _, aL.refl _, aL.refl _, aL.eq (congrArg aJ (qD hg14 rfl).symm), trivial⟩⟩, hO⟩
   refine jI ?_
   exact ⟨⟨[(0, (.msl 1 lo0p 0 (List.length aA))), (1, (eI a1)), (9, (eI i9)), (10, (eI j10)), (59, (aJ false))], by kernel_rfl, rfl, ⟨aL.refl _, aL.refl _, aL.refl _, aL.refl _, aL.eq (congrArg aJ (qD hg14 rfl).symm), trivial⟩⟩, hO⟩
  ·rintro T H ⟨hT, hO⟩
   refine cA hT ?_
   clear hT
   refine aH (aF ?_)
   refine bE h2 (fun h2 => ?_) (fun h2 => ?_)
   ·refine bG ?_
    refine bD [(0, (.msl 1 lo0p 0 (List.length aA))), (1, (eI a1)), (9, (eI i9)), (10, (eI j10))] ?_
    refine bN 5 ?_
    refine aT aG 3 ?_
    refine bC ?_
    exact aH (aU (aF (⟨rfl, _, (oI h2).symm, .eq (by kernel_rfl), hO, hN⟩)))
   refine dW 4 ?_
   obtain rfl := oI h2
   obtain rfl : _ = rr1 := ho1
   replace h1 : eB aA a1 i9 j10 = some out1 := h1
   exact aH (aR (aR (bF (aF (⟨rfl, _, _, .eq (by kernel_rfl), hO, hN, h1⟩)))))
 refine bN 2 ?_
 refine dK [(0, (.msl 1 lo0p 0 (List.length aA))), (1, (eI a1)), (9, (eI i9)), (10, (eI j10))] ?_
 refine cQ (fun T H => ∃ aA : List Int, ∃ i9 : Int, Has T [(0, (.msl 1 lo0p 0 (List.length aA))), (1, (eI a1)), (9, (eI i9)), (10, (eI j10))] ∧ aK ⟨H0, [lo0p], []⟩ H [(lo0p, 1, List.map (eI) aA)] ∧ List.length aA = N0 ∧ kG aA a1 i9 j10 = some out1) ?_ ⟨aA, i9, .eq (by kernel_rfl), hO, hN, h1⟩
 clear hO hN h1
 rintro T H ⟨aA, i9, hT, hO, hN, h1⟩
 refine aY hT ?_
 clear hT
 unfold kG at h1
 obtain ⟨rr1, hl1, h1⟩ := aW h1
 refine cB (by kernel_rfl) (fun (s : List Int × Int) T H => Has T [(0, (.msl 1 lo0p 0 (List.length s.1))), (1, (eI a1)), (9, (eI s.2)), (10, (eI j10))] ∧ aK ⟨H0, [lo0p], []⟩ H [(lo0p, 1, List.map (eI) s.1)] ∧ List.length s.1 = N0) hl1 ⟨.eq (by kernel_rfl), hO, hN⟩ ?_
 clear hO hN
 rintro k1 s out2 T H ⟨hT, hO, hN⟩ h2 ho1
 obtain ⟨aA, i9⟩ := s
 replace h2 : eF a1 j10 aA i9 = some out2 := h2
 try dsimp only at hT
 refine aY hT ?_
 clear hT
 unfold eF at h2
 refine aO ?_
 refine aO ?_
 obtain ⟨c16, h2⟩ := aX h2
 obtain ⟨c17, h2⟩ := aX h2
 obtain ⟨x18, hx19, h2⟩ := aW h2
 refine eR (eP []) aG 15 ?_
 refine uF (K := fun T H => Has (lift T) [(0, (.msl 1 lo0p 0 (List.length aA))), (1, (eI a1)), (9, (eI i9)), (10, (eI j10)), (43, (aJ ((decide (i9 ≤ j10)) && (!x18))))] ∧ aK ⟨H0, [lo0p], []⟩ H [(lo0p, 1, List.map (eI) aA)]) ?_ ?_
 ·refine qV 4 ?_
  refine sE (t := 32) (e := decide (i9 ≤ j10)) (by kernel_rfl) (fun hg20 => ?_) (fun hg20 => ?_)
  ·refine bQ 7 [0 ≤ a1 ∧ a1 < (lN aA)] ⟨(c16 hg20), trivial⟩ ?_
   refine jH 0 lo0p 1 (0 + Int.toNat a1) (eI (gD aA a1)) (eI (gD aA a1)) (List.map (eI) aA) (by kernel_rfl) (by kernel_rfl) (by kernel_rfl) hO (by kernel_rfl) (bJ (c16 hg20)) ?_
   refine bQ 11 [0 ≤ i9 ∧ i9 < (lN aA)] ⟨(c17 hg20), trivial⟩ ?_
   refine jH 0 lo0p 1 (0 + Int.toNat i9) (eI (gD aA i9)) (eI (gD aA i9)) (List.map (eI) aA) (by kernel_rfl) (by kernel_rfl) (by kernel_rfl) hO (by kernel_rfl) (bJ (c17 hg20)) ?_
   refine tX 81 [(eI (gD aA a1)), (eI (gD aA i9))] (aJ x18) (by kernel_rfl) (by kernel_rfl) (gQ (gD aA a1) (gD aA i9) _ (pN hx19 hg20)) hO ?_
   intro H hO
   refine jI ?_
   exact ⟨⟨[(0, (.msl 1 lo0p 0 (List.length aA))), (1, (eI a1)), (9, (eI i9)), (10, (eI j10)), (43, (aJ (!x18)))], by kernel_rfl, rfl, ⟨aL.refl _, aL.refl _, aL.refl _, aL.refl _, aL.eq (congrArg aJ (qD hg20 rfl).symm), trivial⟩⟩, hO⟩
  refine jI ?_
  exact ⟨⟨[(0, (.msl 1 lo0p 0 (List.length aA))), (1, (eI a1)), (9, (eI i9)), (10, (eI j10)), (43, (aJ false))], by kernel_rfl, rfl, ⟨aL.refl _, aL.refl _, aL.refl _, aL.refl _, aL.eq (congrArg aJ (qD hg20 rfl).symm), trivial⟩⟩, hO⟩
 ·rintro T H ⟨hT, hO⟩
  refine cA hT ?_
  clear hT
  refine aH (aF ?_)
  refine bE h2 (fun h2 => ?_) (fun h2 => ?_)
  ·refine bG ?_
   refine bD [(0, (.msl 1 lo0p 0 (List.length aA))), (1, (eI a1)), (9, (eI i9)), (10, (eI j10))] ?_
   refine bN 3 ?_
   refine aT aG 3 ?_
   refine bC ?_
   exact aH (aU (aF (⟨rfl, _, (oI h2).symm, .eq (by kernel_rfl), hO, hN⟩)))
  refine dW 2 ?_
  obtain rfl := oI h2
  obtain rfl : _ = rr1 := ho1
  replace h1 : gM aA a1 i9 j10 = some out1 := h1
  exact aH (aR (aR (bF (aF (⟨rfl, _, _, .eq (by kernel_rfl), hO, hN, h1⟩)))))

theorem DA (lo0p : Nat) (aA : (List Int)) (a1 : Int) (b2 : Int) (cM : Int) (r : ((Int × Bool) × List Int)) (h0 : iF aA a1 b2 cM = some r) : iG Tryz.prog 83 lo0p 1 (List.map (eI) aA) (List.map (eI) r.2) [(.msl 1 lo0p 0 (List.length aA)), (eI a1), (eI b2), (eI cM)] (.tup [(eI r.1.1), (aJ r.1.2)]) := by
 intro H0 hl0
 refine cP Tryz.func83 ?_
 have hO := aK.nP hl0
 clear hl0
 obtain ⟨N0, hN0⟩ : ∃ n, n = List.length aA := ⟨_, rfl⟩
 have hN : List.length aA = N0 := hN0.symm
 unfold iF at h0
 refine aS aG 2 [] [] ?_
 refine aO ?_
 refine eR (eP []) aG 16 ?_
 obtain ⟨c1, h0⟩ := aX h0
 refine bQ 7 [0 ≤ cM ∧ cM < (lN aA)] ⟨c1, trivial⟩ ?_
 refine dN 0 lo0p 1 (0 + Int.toNat cM) (eI (gD aA cM)) (eI (gD aA cM)) (List.map (eI) aA) hO (bJ c1) ?_
 obtain ⟨c2, h0⟩ := aX h0
 refine bQ 11 [0 ≤ a1 ∧ a1 < (lN aA)] ⟨c2, trivial⟩ ?_
 refine dN 0 lo0p 1 (0 + Int.toNat a1) (eI (gD aA a1)) (eI (gD aA a1)) (List.map (eI) aA) hO (bJ c2) ?_
 obtain ⟨c3, h0⟩ := aX h0
 refine bQ 13 [0 ≤ a1 ∧ a1 < (lN aA)] ⟨c3, trivial⟩ ?_
 refine iD 0 lo0p 1 (0 + Int.toNat a1) (eI (gD aA a1)) (eI (gD aA cM)) (List.map (eI) aA) [(lo0p, 1, List.map (eI) (List.set aA (Int.toNat a1) (gD aA cM)))] hO (bJ c3) (by simp only [List.set, eA]) ?_
 intro H hO
 replace hN : List.length (List.set aA (Int.toNat a1) (gD aA cM)) = N0 := by simpa using hN
 obtain ⟨c4, h0⟩ := aX h0
 refine bQ 15 [0 ≤ cM ∧ cM < (lN aA)] ⟨c4, trivial⟩ ?_
 refine iD 0 lo0p 1 (0 + Int.toNat cM) (eI (gD (List.set aA (Int.toNat a1) (gD aA cM)) cM)) (eI (gD aA a1)) (List.map (eI) (List.set aA (Int.toNat a1) (gD aA cM))) [(lo0p, 1, List.map (eI) (List.set (List.set aA (Int.toNat a1) (gD aA cM)) (Int.toNat cM) (gD aA a1)))] hO (lQ c4 (by simp [])) (by simp only [List.set, eA]) ?_
 intro H hO
 replace hN : List.length (List.set (List.set aA (Int.toNat a1) (gD aA cM)) (Int.toNat cM) (gD aA a1)) = N0 := by simpa using hN
 refine nU (by kernel_rfl) ?_
 refine cA (l := [(0, (.msl 1 lo0p 0 (List.length (List.set (List.set aA (Int.toNat a1) (gD aA cM)) (Int.toNat cM) (gD aA a1))))), (1, (eI a1)), (2, (eI b2))]) ⟨[(0, (.msl 1 lo0p 0 (List.length aA))), (1, (eI a1)), (2, (eI b2))], by kernel_rfl, rfl, ⟨aL.eq (by simp []), aL.refl _, aL.refl _, trivial⟩⟩ ?_
 refine aH (aF (?_))
 refine aS aG 6 [2] [(10, (eI (wR (a1 + (1 : Int))))), (11, (eI (wR (b2 - (1 : Int)))))] ?_
 refine dA (fun T H => ∃ aA : List Int, ∃ i10 : Int, ∃ j11 : Int, Has T [(0, (.msl 1 lo0p 0 (List.length aA))), (1, (eI a1)), (10, (eI i10)), (11, (eI j11))] ∧ aK ⟨H0, [lo0p], []⟩ H [(lo0p, 1, List.map (eI) aA)] ∧ List.length aA = N0 ∧ kA aA a1 i10 j11 = some r) ?_ ?_
 ·clear hO hN h0
  rintro T H ⟨aA, i10, j11, hT, hO, hN, h0⟩
  refine aY hT ?_
  clear hT
  unfold kA at h0
  refine dA (fun T H => ∃ aA : List Int, ∃ j11 : Int, Has T [(0, (.msl 1 lo0p 0 (List.length aA))), (1, (eI a1)), (10, (eI i10)), (11, (eI j11))] ∧ aK ⟨H0, [lo0p], []⟩ H [(lo0p, 1, List.map (eI) aA)] ∧ List.length aA = N0 ∧ fF aA a1 i10 j11 = some r) ?_ ?_
  ·clear hO hN h0
   rintro T H ⟨aA, j11, hT, hO, hN, h0⟩
   refine aY hT ?_
   clear hT
   unfold fF at h0
   refine aO ?_
   refine aS aG 3 [] [(65, (aJ (decide (j11 < i10))))] ?_
   refine bE h0 (fun h0 => ?_) (fun h0 => ?_)
   ·refine aO ?_
    refine eR (eP []) aG 16 ?_
    obtain ⟨c6, h0⟩ := aX h0
    refine bQ 7 [0 ≤ a1 ∧ a1 < (lN aA)] ⟨c6, trivial⟩ ?_
    refine dN 0 lo0p 1 (0 + Int.toNat a1) (eI (gD aA a1)) (eI (gD aA a1)) (List.map (eI) aA) hO (bJ c6) ?_
    obtain ⟨c7, h0⟩ := aX h0
    refine bQ 11 [0 ≤ j11 ∧ j11 < (lN aA)] ⟨c7, trivial⟩ ?_
    refine dN 0 lo0p 1 (0 + Int.toNat j11) (eI (gD aA j11)) (eI (gD aA j11)) (List.map (eI) aA) hO (bJ c7) ?_
    obtain ⟨c8, h0⟩ := aX h0
    refine bQ 13 [0 ≤ j11 ∧ j11 < (lN aA)] ⟨c8, trivial⟩ ?_
    refine iD 0 lo0p 1 (0 + Int.toNat j11) (eI (gD aA j11)) (eI (gD aA a1)) (List.map (eI) aA) [(lo0p, 1, List.map (eI) (List.set aA (Int.toNat j11) (gD aA a1)))] hO (bJ c8) (by simp only [List.set, eA]) ?_
    intro H hO
    replace hN : List.length (List.set aA (Int.toNat j11) (gD aA a1)) = N0 := by simpa using hN
    obtain ⟨c9, h0⟩ := aX h0
    refine bQ 15 [0 ≤ a1 ∧ a1 < (lN aA)] ⟨c9, trivial⟩ ?_
    refine iD 0 lo0p 1 (0 + Int.toNat a1) (eI (gD (List.set aA (Int.toNat j11) (gD aA a1)) a1)) (eI (gD aA j11)) (List.map (eI) (List.set aA (Int.toNat j11) (gD aA a1))) [(lo0p, 1, List.map (eI) (List.set (List.set aA (Int.toNat j11) (gD aA a1)) (Int.toNat a1) (gD aA j11)))] hO (lQ c9 (by simp [])) (by simp only [List.set, eA]) ?_
    intro H hO
    replace hN : List.length (List.set (List.set aA (Int.toNat j11) (gD aA a1)) (Int.toNat a1) (gD aA j11)) = N0 := by simpa using hN
    refine nU (by kernel_rfl) ?_
    refine cA (l := [(0, (.msl 1 lo0p 0 (List.length (List.set (List.set aA (Int.toNat j11) (gD aA a1)) (Int.toNat a1) (gD aA j11))))), (11, (eI j11))]) ⟨[(0, (.msl 1 lo0p 0 (List.length aA))), (11, (eI j11))], by kernel_rfl, rfl, ⟨aL.eq (by simp []), aL.refl _, trivial⟩⟩ ?_
    refine aH (aF (?_))
    refine aS aG 3 [11] [(8, (eI j11)), (9, (aJ true))] ?_
    refine bL ?_
    obtain rfl := oI h0
    exact aH (bB (mB (x := (.tup [(eI j11), (aJ true)])) (by kernel_rfl) (aL.refl _) ⟨rfl, hO.ext, hO.at 0 (by kernel_rfl), by simp only [List.length_map]; exact hN.trans hN0⟩))
   refine bG ?_
   refine bD [(0, (.msl 1 lo0p 0 (List.length aA))), (1, (eI a1)), (10, (eI i10)), (11, (eI j11))] ?_
   refine aO ?_
   refine eR (eP []) aG 16 ?_
   obtain ⟨c10, h0⟩ := aX h0
   refine bQ 7 [0 ≤ j11 ∧ j11 < (lN aA)] ⟨c10, trivial⟩ ?_
   refine dN 0 lo0p 1 (0 + Int.toNat j11) (eI (gD aA j11)) (eI (gD aA j11)) (List.map (eI) aA) hO (bJ c10) ?_
   obtain ⟨c11, h0⟩ := aX h0
   refine bQ 11 [0 ≤ i10 ∧ i10 < (lN aA)] ⟨c11, trivial⟩ ?_
   refine dN 0 lo0p 1 (0 + Int.toNat i10) (eI (gD aA i10)) (eI (gD aA i10)) (List.map (eI) aA) hO (bJ c11) ?_
   obtain ⟨c12, h0⟩ := aX h0
   refine bQ 13 [0 ≤ i10 ∧ i10 < (lN aA)] ⟨c12, trivial⟩ ?_
   refine iD 0 lo0p 1 (0 + Int.toNat i10) (eI (gD aA i10)) (eI (gD aA j11)) (List.map (eI) aA) [(lo0p, 1, List.map (eI) (List.set aA (Int.toNat i10) (gD aA j11)))] hO (bJ c12) (by simp only [List.set, eA]) ?_
   intro H hO
   replace hN : List.length (List.set aA (Int.toNat i10) (gD aA j11)) = N0 := by simpa using hN
   obtain ⟨c13, h0⟩ := aX h0
   refine bQ 15 [0 ≤ j11 ∧ j11 < (lN aA)] ⟨c13, trivial⟩ ?_
   refine iD 0 lo0p 1 (0 + Int.toNat j11) (eI (gD (List.set aA (Int.toNat i10) (gD aA j11)) j11)) (eI (gD aA i10)) (List.map (eI) (List.set aA (Int.toNat i10) (gD aA j11))) [(lo0p, 1, List.map (eI) (List.set (List.set aA (Int.toNat i10) (gD aA j11)) (Int.toNat j11) (gD aA i10)))] hO (lQ c13 (by simp [])) (by simp only [List.set, eA]) ?_
   intro H hO
   replace hN : List.length (List.set (List.set aA (Int.toNat i10) (gD aA j11)) (Int.toNat j11) (gD aA i10)) = N0 := by simpa using hN
   refine nU (by kernel_rfl) ?_
   refine cA (l := [(0, (.msl 1 lo0p 0 (List.length (List.set (List.set aA (Int.toNat i10) (gD aA j11)) (Int.toNat j11) (gD aA i10))))), (1, (eI a1)), (10, (eI i10)), (11, (eI j11))]) ⟨[(0, (.msl 1 lo0p 0 (List.length aA))), (1, (eI a1)), (10, (eI i10)), (11, (eI j11))], by kernel_rfl, rfl, ⟨aL.eq (by simp []), aL.refl _, aL.refl _, aL.refl _, trivial⟩⟩ ?_
   refine aH (aF (?_))
   refine aS aG 3 [10] [(10, (eI (wR (i10 + (1 : Int)))))] ?_
   refine aS aG 3 [11] [(11, (eI (wR (j11 - (1 : Int)))))] ?_
   refine dA (fun T H => ∃ aA : List Int, ∃ j11 : Int, Has T [(0, (.msl 1 lo0p 0 (List.length aA))), (1, (eI a1)), (11, (eI j11))] ∧ aK ⟨H0, [lo0p], []⟩ H [(lo0p, 1, List.map (eI) aA)] ∧ List.length aA = N0 ∧ jZ aA a1 j11 = some r) ?_ ?_
   ·clear hO hN h0
    rintro T H ⟨aA, j11, hT, hO, hN, h0⟩
    refine aY hT ?_
    clear hT
    unfold jZ at h0
    refine aO ?_
    refine eR (eP []) aG 16 ?_
    obtain ⟨c14, h0⟩ := aX h0
    refine bQ 7 [0 ≤ a1 ∧ a1 < (lN aA)] ⟨c14, trivial⟩ ?_
    refine dN 0 lo0p 1 (0 + Int.toNat a1) (eI (gD aA a1)) (eI (gD aA a1)) (List.map (eI) aA) hO (bJ c14) ?_
    obtain ⟨c15, h0⟩ := aX h0
    refine bQ 11 [0 ≤ j11 ∧ j11 < (lN aA)] ⟨c15, trivial⟩ ?_
    refine dN 0 lo0p 1 (0 + Int.toNat j11) (eI (gD aA j11)) (eI (gD aA j11)) (List.map (eI) aA) hO (bJ c15) ?_
    obtain ⟨c16, h0⟩ := aX h0
    refine bQ 13 [0 ≤ j11 ∧ j11 < (lN aA)] ⟨c16, trivial⟩ ?_
    refine iD 0 lo0p 1 (0 + Int.toNat j11) (eI (gD aA j11)) (eI (gD aA a1)) (List.map (eI) aA) [(lo0p, 1, List.map (eI) (List.set aA (Int.toNat j11) (gD aA a1)))] hO (bJ c16) (by simp only [List.set, eA]) ?_
    intro H hO
    replace hN : List.length (List.set aA (Int.toNat j11) (gD aA a1)) = N0 := by simpa using hN
    obtain ⟨c17, h0⟩ := aX h0
    refine bQ 15 [0 ≤ a1 ∧ a1 < (lN aA)] ⟨c17, trivial⟩ ?_
    refine iD 0 lo0p 1 (0 + Int.toNat a1) (eI (gD (List.set aA (Int.toNat j11) (gD aA a1)) a1)) (eI (gD aA j11)) (List.map (eI) (List.set aA (Int.toNat j11) (gD aA a1))) [(lo0p, 1, List.map (eI) (List.set (List.set aA (Int.toNat j11) (gD aA a1)) (Int.toNat a1) (gD aA j11)))] hO (lQ c17 (by simp [])) (by simp only [List.set, eA]) ?_
    intro H hO
    replace hN : List.length (List.set (List.set aA (Int.toNat j11) (gD aA a1)) (Int.toNat a1) (gD aA j11)) = N0 := by simpa using hN
    refine nU (by kernel_rfl) ?_
    refine cA (l := [(0, (.msl 1 lo0p 0 (List.length (List.set (List.set aA (Int.toNat j11) (gD aA a1)) (Int.toNat a1) (gD aA j11))))), (11, (eI j11))]) ⟨[(0, (.msl 1 lo0p 0 (List.length aA))), (11, (eI j11))], by kernel_rfl, rfl, ⟨aL.eq (by simp []), aL.refl _, trivial⟩⟩ ?_
    refine aH (aF (?_))
    refine aS aG 3 [11] [(8, (eI j11)), (9, (aJ false))] ?_
    refine bL ?_
    obtain rfl := oI h0
    exact aH (mB (x := (.tup [(eI j11), (aJ false)])) (by kernel_rfl) (aL.refl _) ⟨rfl, hO.ext, hO.at 0 (by kernel_rfl), by simp only [List.length_map]; exact hN.trans hN0⟩)
   refine bN 4 ?_
   refine dK [(0, (.msl 1 lo0p 0 (List.length (List.set (List.set aA (Int.toNat i10) (gD aA j11)) (Int.toNat j11) (gD aA i10))))), (1, (eI a1)), (10, (eI (wR (i10 + (1 : Int))))), (11, (eI (wR (j11 - (1 : Int)))))] ?_
   refine cQ (fun T H => ∃ aA : List Int, ∃ i10 : Int, ∃ j11 : Int, Has T [(0, (.msl 1 lo0p 0 (List.length aA))), (1, (eI a1)), (10, (eI i10)), (11, (eI j11))] ∧ aK ⟨H0, [lo0p], []⟩ H [(lo0p, 1, List.map (eI) aA)] ∧ List.length aA = N0 ∧ nM aA a1 i10 j11 = some r) ?_ ⟨List.set (List.set aA (Int.toNat i10) (gD aA j11)) (Int.toNat j11) (gD aA i10), wR (i10 + (1 : Int)), wR (j11 - (1 : Int)), .eq (by kernel_rfl), hO, hN, h0⟩
   clear hO hN h0
   rintro T H ⟨aA, i10, j11, hT, hO, hN, h0⟩
   refine aY hT ?_
   clear hT
   unfold nM at h0
   obtain ⟨rr0, hl0, h0⟩ := aW h0
   refine cB (by kernel_rfl) (fun (s : List Int × Int × Int) T H => Has T [(0, (.msl 1 lo0p 0 (List.length s.1))), (1, (eI a1)), (10, (eI s.2.1)), (11, (eI s.2.2))] ∧ aK ⟨H0, [lo0p], []⟩ H [(lo0p, 1, List.map (eI) s.1)] ∧ List.length s.1 = N0) hl0 ⟨.eq (by kernel_rfl), hO, hN⟩ ?_
   clear hO hN
   rintro k0 s out1 T H ⟨hT, hO, hN⟩ h1 ho0
   obtain ⟨aA, i10, j11⟩ := s
   replace h1 : dU a1 aA i10 j11 = some out1 := h1
   try dsimp only at hT
   refine aY hT ?_
   clear hT
   unfold dU at h1
   refine bN 5 ?_
   refine dA (fun T H => ∃ aA : List Int, ∃ i10 : Int, Has T [(0, (.msl 1 lo0p 0 (List.length aA))), (1, (eI a1)), (10, (eI i10)), (11, (eI j11))] ∧ aK ⟨H0, [lo0p], []⟩ H [(lo0p, 1, List.map (eI) aA)] ∧ List.length aA = N0 ∧ jY aA a1 i10 j11 = some out1) ?_ ?_
   ·clear hO hN h1
    rintro T H ⟨aA, i10, hT, hO, hN, h1⟩
    refine aY hT ?_
    clear hT
    unfold jY at h1
    refine dA (fun T H => ∃ aA : List Int, ∃ j11 : Int, Has T [(0, (.msl 1 lo0p 0 (List.length aA))), (1, (eI a1)), (10, (eI i10)), (11, (eI j11))] ∧ aK ⟨H0, [lo0p], []⟩ H [(lo0p, 1, List.map (eI) aA)] ∧ List.length aA = N0 ∧ fK aA a1 i10 j11 = some out1) ?_ ?_
    ·clear hO hN h1
     rintro T H ⟨aA, j11, hT, hO, hN, h1⟩
     refine aY hT ?_
     clear hT
     unfold fK at h1
     refine aO ?_
     refine aS aG 3 [] [(134, (aJ (decide (j11 < i10))))] ?_
     refine bE h1 (fun h1 => ?_) (fun h1 => ?_)
     ·refine dW 4 ?_
      obtain rfl := oI h1
      obtain rfl : _ = rr0 := ho0
      replace h0 : jZ aA a1 j11 = some r := h0
      exact aH (aR (vF (by kernel_rfl) (aR (bF (aF (⟨rfl, _, _, .eq (by kernel_rfl), hO, hN, h0⟩))))))
     refine bG ?_
     refine bD [(0, (.msl 1 lo0p 0 (List.length aA))), (1, (eI a1)), (10, (eI i10)), (11, (eI j11))] ?_
     refine aO ?_
     refine eR (eP []) aG 16 ?_
     obtain ⟨c19, h1⟩ := aX h1
     refine bQ 7 [0 ≤ j11 ∧ j11 < (lN aA)] ⟨c19, trivial⟩ ?_
     refine dN 0 lo0p 1 (0 + Int.toNat j11) (eI (gD aA j11)) (eI (gD aA j11)) (List.map (eI) aA) hO (bJ c19) ?_
     obtain ⟨c20, h1⟩ := aX h1
     refine bQ 11 [0 ≤ i10 ∧ i10 < (lN aA)] ⟨c20, trivial⟩ ?_
     refine dN 0 lo0p 1 (0 + Int.toNat i10) (eI (gD aA i10)) (eI (gD aA i10)) (List.map (eI) aA) hO (bJ c20) ?_
     obtain ⟨c21, h1⟩ := aX h1
     refine bQ 13 [0 ≤ i10 ∧ i10 < (lN aA)] ⟨c21, trivial⟩ ?_
     refine iD 0 lo0p 1 (0 + Int.toNat i10) (eI (gD aA i10)) (eI (gD aA j11)) (List.map (eI) aA) [(lo0p, 1, List.map (eI) (List.set aA (Int.toNat i10) (gD aA j11)))] hO (bJ c21) (by simp only [List.set, eA]) ?_
     intro H hO
     replace hN : List.length (List.set aA (Int.toNat i10) (gD aA j11)) = N0 := by simpa using hN
     obtain ⟨c22, h1⟩ := aX h1
     refine bQ 15 [0 ≤ j11 ∧ j11 < (lN aA)] ⟨c22, trivial⟩ ?_
     refine iD 0 lo0p 1 (0 + Int.toNat j11) (eI (gD (List.set aA (Int.toNat i10) (gD aA j11)) j11)) (eI (gD aA i10)) (List.map (eI) (List.set aA (Int.toNat i10) (gD aA j11))) [(lo0p, 1, List.map (eI) (List.set (List.set aA (Int.toNat i10) (gD aA j11)) (Int.toNat j11) (gD aA i10)))] hO (lQ c22 (by simp [])) (by simp only [List.set, eA]) ?_
     intro H hO
     replace hN : List.length (List.set (List.set aA (Int.toNat i10) (gD aA j11)) (Int.toNat j11) (gD aA i10)) = N0 := by simpa using hN
     refine nU (by kernel_rfl) ?_
     refine cA (l := [(0, (.msl 1 lo0p 0 (List.length (List.set (List.set aA (Int.toNat i10) (gD aA j11)) (Int.toNat j11) (gD aA i10))))), (1, (eI a1)), (10, (eI i10)), (11, (eI j11))]) ⟨[(0, (.msl 1 lo0p 0 (List.length aA))), (1, (eI a1)), (10, (eI i10)), (11, (eI j11))], by kernel_rfl, rfl, ⟨aL.eq (by simp []), aL.refl _, aL.refl _, aL.refl _, trivial⟩⟩ ?_
     refine aH (aF (?_))
     refine aS aG 3 [10] [(10, (eI (wR (i10 + (1 : Int)))))] ?_
     refine aT aG 3 ?_
     refine bC ?_
     exact aH (aU (aF (⟨rfl, _, (oI h1).symm, .eq (by kernel_rfl), hO, hN⟩)))
    refine bN 8 ?_
    refine dK [(0, (.msl 1 lo0p 0 (List.length aA))), (1, (eI a1)), (10, (eI i10)), (11, (eI j11))] ?_
    refine cQ (fun T H => ∃ aA : List Int, ∃ j11 : Int, Has T [(0, (.msl 1 lo0p 0 (List.length aA))), (1, (eI a1)), (10, (eI i10)), (11, (eI j11))] ∧ aK ⟨H0, [lo0p], []⟩ H [(lo0p, 1, List.map (eI) aA)] ∧ List.length aA = N0 ∧ nG aA a1 i10 j11 = some out1) ?_ ⟨aA, j11, .eq (by kernel_rfl), hO, hN, h1⟩
    clear hO hN h1
    rintro T H ⟨aA, j11, hT, hO, hN, h1⟩
    refine aY hT ?_
    clear hT
    unfold nG at h1
    obtain ⟨rr1, hl1, h1⟩ := aW h1
    refine cB (by kernel_rfl) (fun (s : List Int × Int) T H => Has T [(0, (.msl 1 lo0p 0 (List.length s.1))), (1, (eI a1)), (10, (eI i10)), (11, (eI s.2))] ∧ aK ⟨H0, [lo0p], []⟩ H [(lo0p, 1, List.map (eI) s.1)] ∧ List.length s.1 = N0) hl1 ⟨.eq (by kernel_rfl), hO, hN⟩ ?_
    clear hO hN
    rintro k1 s out2 T H ⟨hT, hO, hN⟩ h2 ho1
    obtain ⟨aA, j11⟩ := s
    replace h2 : fJ a1 i10 aA j11 = some out2 := h2
    try dsimp only at hT
    refine aY hT ?_
    clear hT
    unfold fJ at h2
    refine aO ?_
    refine aO ?_
    obtain ⟨c23, h2⟩ := aX h2
    obtain ⟨c24, h2⟩ := aX h2
    obtain ⟨x25, hx26, h2⟩ := aW h2
    refine eR (eP []) aG 15 ?_
    refine uF (K := fun T H => Has (lift T) [(0, (.msl 1 lo0p 0 (List.length aA))), (1, (eI a1)), (10, (eI i10)), (11, (eI j11)), (129, (aJ ((decide (i10 ≤ j11)) && (!x25))))] ∧ aK ⟨H0, [lo0p], []⟩ H [(lo0p, 1, List.map (eI) aA)]) ?_ ?_
    ·refine qV 4 ?_
     refine sE (t := 118) (e := decide (i10 ≤ j11)) (by kernel_rfl) (fun hg27 => ?_) (fun hg27 => ?_)
     ·refine bQ 7 [0 ≤ j11 ∧ j11 < (lN aA)] ⟨(c23 hg27), trivial⟩ ?_
      refine jH 0 lo0p 1 (0 + Int.toNat j11) (eI (gD aA j11)) (eI (gD aA j11)) (List.map (eI) aA) (by kernel_rfl) (by kernel_rfl) (by kernel_rfl) hO (by kernel_rfl) (bJ (c23 hg27)) ?_
      refine bQ 11 [0 ≤ a1 ∧ a1 < (lN aA)] ⟨(c24 hg27), trivial⟩ ?_
      refine jH 0 lo0p 1 (0 + Int.toNat a1) (eI (gD aA a1)) (eI (gD aA a1)) (List.map (eI) aA) (by kernel_rfl) (by kernel_rfl) (by kernel_rfl) hO (by kernel_rfl) (bJ (c24 hg27)) ?_
      refine tX 81 [(eI (gD aA j11)), (eI (gD aA a1))] (aJ x25) (by kernel_rfl) (by kernel_rfl) (gQ (gD aA j11) (gD aA a1) _ (pN hx26 hg27)) hO ?_
      intro H hO
      refine jI ?_
      exact ⟨⟨[(0, (.msl 1 lo0p 0 (List.length aA))), (1, (eI a1)), (10, (eI i10)), (11, (eI j11)), (129, (aJ (!x25)))], by kernel_rfl, rfl, ⟨aL.refl _, aL.refl _, aL.refl _, aL.refl _, aL.eq (congrArg aJ (qD hg27 rfl).symm), trivial⟩⟩, hO⟩
     refine jI ?_
     exact ⟨⟨[(0, (.msl 1 lo0p 0 (List.length aA))), (1, (eI a1)), (10, (eI i10)), (11, (eI j11)), (129, (aJ false))], by kernel_rfl, rfl, ⟨aL.refl _, aL.refl _, aL.refl _, aL.refl _, aL.eq (congrArg aJ (qD hg27 rfl).symm), trivial⟩⟩, hO⟩
    ·rintro T H ⟨hT, hO⟩
     refine cA hT ?_
     clear hT
     refine aH (aF ?_)
     refine bE h2 (fun h2 => ?_) (fun h2 => ?_)
     ·refine bG ?_
      refine bD [(0, (.msl 1 lo0p 0 (List.length aA))), (1, (eI a1)), (10, (eI i10)), (11, (eI j11))] ?_
      refine bN 9 ?_
      refine aT aG 3 ?_
      refine bC ?_
      exact aH (aU (aF (⟨rfl, _, (oI h2).symm, .eq (by kernel_rfl), hO, hN⟩)))
     refine dW 8 ?_
     obtain rfl := oI h2
     obtain rfl : _ = rr1 := ho1
     replace h1 : fK aA a1 i10 j11 = some out1 := h1
     exact aH (aR (aR (bF (aF (⟨rfl, _, _, .eq (by kernel_rfl), hO, hN, h1⟩)))))
   refine bN 6 ?_
   refine dK [(0, (.msl 1 lo0p 0 (List.length aA))), (1, (eI a1)), (10, (eI i10)), (11, (eI j11))] ?_
   refine cQ (fun T H => ∃ aA : List Int, ∃ i10 : Int, Has T [(0, (.msl 1 lo0p 0 (List.length aA))), (1, (eI a1)), (10, (eI i10)), (11, (eI j11))] ∧ aK ⟨H0, [lo0p], []⟩ H [(lo0p, 1, List.map (eI) aA)] ∧ List.length aA = N0 ∧ nR aA a1 i10 j11 = some out1) ?_ ⟨aA, i10, .eq (by kernel_rfl), hO, hN, h1⟩
   clear hO hN h1
   rintro T H ⟨aA, i10, hT, hO, hN, h1⟩
   refine aY hT ?_
   clear hT
   unfold nR at h1
   obtain ⟨rr1, hl1, h1⟩ := aW h1
   refine cB (by kernel_rfl) (fun (s : List Int × Int) T H => Has T [(0, (.msl 1 lo0p 0 (List.length s.1))), (1, (eI a1)), (10, (eI s.2)), (11, (eI j11))] ∧ aK ⟨H0, [lo0p], []⟩ H [(lo0p, 1, List.map (eI) s.1)] ∧ List.length s.1 = N0) hl1 ⟨.eq (by kernel_rfl), hO, hN⟩ ?_
   clear hO hN
   rintro k1 s out2 T H ⟨hT, hO, hN⟩ h2 ho1
   obtain ⟨aA, i10⟩ := s
   replace h2 : fL a1 j11 aA i10 = some out2 := h2
   try dsimp only at hT
   refine aY hT ?_
   clear hT
   unfold fL at h2
   refine aO ?_
   refine aO ?_
   obtain ⟨c29, h2⟩ := aX h2
   obtain ⟨c30, h2⟩ := aX h2
   obtain ⟨x31, hx32, h2⟩ := aW h2
   refine eR (eP []) aG 14 ?_
   refine uF (K := fun T H => Has (lift T) [(0, (.msl 1 lo0p 0 (List.length aA))), (1, (eI a1)), (10, (eI i10)), (11, (eI j11)), (112, (aJ ((decide (i10 ≤ j11)) && x31)))] ∧ aK ⟨H0, [lo0p], []⟩ H [(lo0p, 1, List.map (eI) aA)]) ?_ ?_
   ·refine qV 4 ?_
    refine sE (t := 102) (e := decide (i10 ≤ j11)) (by kernel_rfl) (fun hg33 => ?_) (fun hg33 => ?_)
    ·refine bQ 7 [0 ≤ i10 ∧ i10 < (lN aA)] ⟨(c29 hg33), trivial⟩ ?_
     refine jH 0 lo0p 1 (0 + Int.toNat i10) (eI (gD aA i10)) (eI (gD aA i10)) (List.map (eI) aA) (by kernel_rfl) (by kernel_rfl) (by kernel_rfl) hO (by kernel_rfl) (bJ (c29 hg33)) ?_
     refine bQ 11 [0 ≤ a1 ∧ a1 < (lN aA)] ⟨(c30 hg33), trivial⟩ ?_
     refine jH 0 lo0p 1 (0 + Int.toNat a1) (eI (gD aA a1)) (eI (gD aA a1)) (List.map (eI) aA) (by kernel_rfl) (by kernel_rfl) (by kernel_rfl) hO (by kernel_rfl) (bJ (c30 hg33)) ?_
     refine tX 81 [(eI (gD aA i10)), (eI (gD aA a1))] (aJ x31) (by kernel_rfl) (by kernel_rfl) (gQ (gD aA i10) (gD aA a1) _ (pN hx32 hg33)) hO ?_
     intro H hO
     refine jI ?_
     exact ⟨⟨[(0, (.msl 1 lo0p 0 (List.length aA))), (1, (eI a1)), (10, (eI i10)), (11, (eI j11)), (112, (aJ x31))], by kernel_rfl, rfl, ⟨aL.refl _, aL.refl _, aL.refl _, aL.refl _, aL.eq (congrArg aJ (qD hg33 rfl).symm), trivial⟩⟩, hO⟩
    refine jI ?_
    exact ⟨⟨[(0, (.msl 1 lo0p 0 (List.length aA))), (1, (eI a1)), (10, (eI i10)), (11, (eI j11)), (112, (aJ false))], by kernel_rfl, rfl, ⟨aL.refl _, aL.refl _, aL.refl _, aL.refl _, aL.eq (congrArg aJ (qD hg33 rfl).symm), trivial⟩⟩, hO⟩
   ·rintro T H ⟨hT, hO⟩
    refine cA hT ?_
    clear hT
    refine aH (aF ?_)
    refine bE h2 (fun h2 => ?_) (fun h2 => ?_)
    ·refine bG ?_
     refine bD [(0, (.msl 1 lo0p 0 (List.length aA))), (1, (eI a1)), (10, (eI i10)), (11, (eI j11))] ?_
     refine bN 7 ?_
     refine aT aG 3 ?_
     refine bC ?_
     exact aH (aU (aF (⟨rfl, _, (oI h2).symm, .eq (by kernel_rfl), hO, hN⟩)))
    refine dW 6 ?_
    obtain rfl := oI h2
    obtain rfl : _ = rr1 := ho1
    replace h1 : jY aA a1 i10 j11 = some out1 := h1
    exact aH (aR (aR (bF (aF (⟨rfl, _, _, .eq (by kernel_rfl), hO, hN, h1⟩)))))
  refine bN 2 ?_
  refine dK [(0, (.msl 1 lo0p 0 (List.length aA))), (1, (eI a1)), (10, (eI i10)), (11, (eI j11))] ?_
  refine cQ (fun T H => ∃ aA : List Int, ∃ j11 : Int, Has T [(0, (.msl 1 lo0p 0 (List.length aA))), (1, (eI a1)), (10, (eI i10)), (11, (eI j11))] ∧ aK ⟨H0, [lo0p], []⟩ H [(lo0p, 1, List.map (eI) aA)] ∧ List.length aA = N0 ∧ nK aA a1 i10 j11 = some r) ?_ ⟨aA, j11, .eq (by kernel_rfl), hO, hN, h0⟩
  clear hO hN h0
  rintro T H ⟨aA, j11, hT, hO, hN, h0⟩
  refine aY hT ?_
  clear hT
  unfold nK at h0
  obtain ⟨rr0, hl0, h0⟩ := aW h0
  refine cB (by kernel_rfl) (fun (s : List Int × Int) T H => Has T [(0, (.msl 1 lo0p 0 (List.length s.1))), (1, (eI a1)), (10, (eI i10)), (11, (eI s.2))] ∧ aK ⟨H0, [lo0p], []⟩ H [(lo0p, 1, List.map (eI) s.1)] ∧ List.length s.1 = N0) hl0 ⟨.eq (by kernel_rfl), hO, hN⟩ ?_
  clear hO hN
  rintro k0 s out1 T H ⟨hT, hO, hN⟩ h1 ho0
  obtain ⟨aA, j11⟩ := s
  replace h1 : fG a1 i10 aA j11 = some out1 := h1
  try dsimp only at hT
  refine aY hT ?_
  clear hT
  unfold fG at h1
  refine aO ?_
  refine aO ?_
  obtain ⟨c35, h1⟩ := aX h1
  obtain ⟨c36, h1⟩ := aX h1
  obtain ⟨x37, hx38, h1⟩ := aW h1
  refine eR (eP []) aG 15 ?_
  refine uF (K := fun T H => Has (lift T) [(0, (.msl 1 lo0p 0 (List.length aA))), (1, (eI a1)), (10, (eI i10)), (11, (eI j11)), (60, (aJ ((decide (i10 ≤ j11)) && (!x37))))] ∧ aK ⟨H0, [lo0p], []⟩ H [(lo0p, 1, List.map (eI) aA)]) ?_ ?_
  ·refine qV 4 ?_
   refine sE (t := 49) (e := decide (i10 ≤ j11)) (by kernel_rfl) (fun hg39 => ?_) (fun hg39 => ?_)
   ·refine bQ 7 [0 ≤ j11 ∧ j11 < (lN aA)] ⟨(c35 hg39), trivial⟩ ?_
    refine jH 0 lo0p 1 (0 + Int.toNat j11) (eI (gD aA j11)) (eI (gD aA j11)) (List.map (eI) aA) (by kernel_rfl) (by kernel_rfl) (by kernel_rfl) hO (by kernel_rfl) (bJ (c35 hg39)) ?_
    refine bQ 11 [0 ≤ a1 ∧ a1 < (lN aA)] ⟨(c36 hg39), trivial⟩ ?_
    refine jH 0 lo0p 1 (0 + Int.toNat a1) (eI (gD aA a1)) (eI (gD aA a1)) (List.map (eI) aA) (by kernel_rfl) (by kernel_rfl) (by kernel_rfl) hO (by kernel_rfl) (bJ (c36 hg39)) ?_
    refine tX 81 [(eI (gD aA j11)), (eI (gD aA a1))] (aJ x37) (by kernel_rfl) (by kernel_rfl) (gQ (gD aA j11) (gD aA a1) _ (pN hx38 hg39)) hO ?_
    intro H hO
    refine jI ?_
    exact ⟨⟨[(0, (.msl 1 lo0p 0 (List.length aA))), (1, (eI a1)), (10, (eI i10)), (11, (eI j11)), (60, (aJ (!x37)))], by kernel_rfl, rfl, ⟨aL.refl _, aL.refl _, aL.refl _, aL.refl _, aL.eq (congrArg aJ (qD hg39 rfl).symm), trivial⟩⟩, hO⟩
   refine jI ?_
   exact ⟨⟨[(0, (.msl 1 lo0p 0 (List.length aA))), (1, (eI a1)), (10, (eI i10)), (11, (eI j11)), (60, (aJ false))], by kernel_rfl, rfl, ⟨aL.refl _, aL.refl _, aL.refl _, aL.refl _, aL.eq (congrArg aJ (qD hg39 rfl).symm), trivial⟩⟩, hO⟩
  ·rintro T H ⟨hT, hO⟩
   refine cA hT ?_
   clear hT
   refine aH (aF ?_)
   refine bE h1 (fun h1 => ?_) (fun h1 => ?_)
   ·refine bG ?_
    refine bD [(0, (.msl 1 lo0p 0 (List.length aA))), (1, (eI a1)), (10, (eI i10)), (11, (eI j11))] ?_
    refine bN 3 ?_
    refine aT aG 3 ?_
    refine bC ?_
    exact aH (aU (aF (⟨rfl, _, (oI h1).symm, .eq (by kernel_rfl), hO, hN⟩)))
   refine dW 2 ?_
   obtain rfl := oI h1
   obtain rfl : _ = rr0 := ho0
   replace h0 : fF aA a1 i10 j11 = some r := h0
   exact aH (aR (aR (bF (aF (⟨rfl, _, _, .eq (by kernel_rfl), hO, hN, h0⟩)))))
 refine bN 0 ?_
 refine dK [(0, (.msl 1 lo0p 0 (List.length (List.set (List.set aA (Int.toNat a1) (gD aA cM)) (Int.toNat cM) (gD aA a1))))), (1, (eI a1)), (10, (eI (wR (a1 + (1 : Int))))), (11, (eI (wR (b2 - (1 : Int)))))] ?_
 refine cQ (fun T H => ∃ aA : List Int, ∃ i10 : Int, ∃ j11 : Int, Has T [(0, (.msl 1 lo0p 0 (List.length aA))), (1, (eI a1)), (10, (eI i10)), (11, (eI j11))] ∧ aK ⟨H0, [lo0p], []⟩ H [(lo0p, 1, List.map (eI) aA)] ∧ List.length aA = N0 ∧ gF aA a1 i10 j11 = some r) ?_ ⟨List.set (List.set aA (Int.toNat a1) (gD aA cM)) (Int.toNat cM) (gD aA a1), wR (a1 + (1 : Int)), wR (b2 - (1 : Int)), .eq (by kernel_rfl), hO, hN, h0⟩
 clear hO hN h0
 rintro T H ⟨aA, i10, j11, hT, hO, hN, h0⟩
 refine aY hT ?_
 clear hT
 unfold gF at h0
 obtain ⟨rr0, hl0, h0⟩ := aW h0
 refine cB (by kernel_rfl) (fun (s : List Int × Int) T H => Has T [(0, (.msl 1 lo0p 0 (List.length s.1))), (1, (eI a1)), (10, (eI s.2)), (11, (eI j11))] ∧ aK ⟨H0, [lo0p], []⟩ H [(lo0p, 1, List.map (eI) s.1)] ∧ List.length s.1 = N0) hl0 ⟨.eq (by kernel_rfl), hO, hN⟩ ?_
 clear hO hN
 rintro k0 s out1 T H ⟨hT, hO, hN⟩ h1 ho0
 obtain ⟨aA, i10⟩ := s
 replace h1 : eY a1 j11 aA i10 = some out1 := h1
 try dsimp only at hT
 refine aY hT ?_
 clear hT
 unfold eY at h1
 refine aO ?_
 refine aO ?_
 obtain ⟨c41, h1⟩ := aX h1
 obtain ⟨c42, h1⟩ := aX h1
 obtain ⟨x43, hx44, h1⟩ := aW h1
 refine eR (eP []) aG 14 ?_
 refine uF (K := fun T H => Has (lift T) [(0, (.msl 1 lo0p 0 (List.length aA))), (1, (eI a1)), (10, (eI i10)), (11, (eI j11)), (43, (aJ ((decide (i10 ≤ j11)) && x43)))] ∧ aK ⟨H0, [lo0p], []⟩ H [(lo0p, 1, List.map (eI) aA)]) ?_ ?_
 ·refine qV 4 ?_
  refine sE (t := 33) (e := decide (i10 ≤ j11)) (by kernel_rfl) (fun hg45 => ?_) (fun hg45 => ?_)
  ·refine bQ 7 [0 ≤ i10 ∧ i10 < (lN aA)] ⟨(c41 hg45), trivial⟩ ?_
   refine jH 0 lo0p 1 (0 + Int.toNat i10) (eI (gD aA i10)) (eI (gD aA i10)) (List.map (eI) aA) (by kernel_rfl) (by kernel_rfl) (by kernel_rfl) hO (by kernel_rfl) (bJ (c41 hg45)) ?_
   refine bQ 11 [0 ≤ a1 ∧ a1 < (lN aA)] ⟨(c42 hg45), trivial⟩ ?_
   refine jH 0 lo0p 1 (0 + Int.toNat a1) (eI (gD aA a1)) (eI (gD aA a1)) (List.map (eI) aA) (by kernel_rfl) (by kernel_rfl) (by kernel_rfl) hO (by kernel_rfl) (bJ (c42 hg45)) ?_
   refine tX 81 [(eI (gD aA i10)), (eI (gD aA a1))] (aJ x43) (by kernel_rfl) (by kernel_rfl) (gQ (gD aA i10) (gD aA a1) _ (pN hx44 hg45)) hO ?_
   intro H hO
   refine jI ?_
   exact ⟨⟨[(0, (.msl 1 lo0p 0 (List.length aA))), (1, (eI a1)), (10, (eI i10)), (11, (eI j11)), (43, (aJ x43))], by kernel_rfl, rfl, ⟨aL.refl _, aL.refl _, aL.refl _, aL.refl _, aL.eq (congrArg aJ (qD hg45 rfl).symm), trivial⟩⟩, hO⟩
  refine jI ?_
  exact ⟨⟨[(0, (.msl 1 lo0p 0 (List.length aA))), (1, (eI a1)), (10, (eI i10)), (11, (eI j11)), (43, (aJ false))], by kernel_rfl, rfl, ⟨aL.refl _, aL.refl _, aL.refl _, aL.refl _, aL.eq (congrArg aJ (qD hg45 rfl).symm), trivial⟩⟩, hO⟩
 ·rintro T H ⟨hT, hO⟩
  refine cA hT ?_
  clear hT
  refine aH (aF ?_)
  refine bE h1 (fun h1 => ?_) (fun h1 => ?_)
  ·refine bG ?_
   refine bD [(0, (.msl 1 lo0p 0 (List.length aA))), (1, (eI a1)), (10, (eI i10)), (11, (eI j11))] ?_
   refine bN 1 ?_
   refine aT aG 3 ?_
   refine bC ?_
   exact aH (aU (aF (⟨rfl, _, (oI h1).symm, .eq (by kernel_rfl), hO, hN⟩)))
  refine dW 0 ?_
  obtain rfl := oI h1
  obtain rfl : _ = rr0 := ho0
  replace h0 : kA aA a1 i10 j11 = some r := h0
  exact aH (aR (aR (bF (aF (⟨rfl, _, _, _, .eq (by kernel_rfl), hO, hN, h0⟩)))))

end Go.Abs
namespace Go.Abs
open Go Go.RowKit Go.Proofs
theorem AY  (rec : (List Int) → Int → Int → Int → Option (List Int)) (ih : ∀ (lo0p : Nat) (aA : (List Int)) (a1 : Int) (b2 : Int) (cD : Int) (r : List Int), rec aA a1 b2 cD = some r → iG Tryz.prog 63 lo0p 1 (List.map (eI) aA) (List.map (eI) r) [(.msl 1 lo0p 0 (List.length aA)), (eI a1), (eI b2), (eI cD)] (.tup [])) (lo0p : Nat) (aA : (List Int)) (a1 : Int) (b2 : Int) (cD : Int) (r : List Int) (h0 : gP rec aA a1 b2 cD = some r) : iG Tryz.prog 63 lo0p 1 (List.map (eI) aA) (List.map (eI) r) [(.msl 1 lo0p 0 (List.length aA)), (eI a1), (eI b2), (eI cD)] (.tup []) := by
 intro H0 hl0
 refine cP Tryz.func63 ?_
 have hO := aK.nP hl0
 clear hl0
 obtain ⟨N0, hN0⟩ : ∃ n, n = List.length aA := ⟨_, rfl⟩
 have hN : List.length aA = N0 := hN0.symm
 unfold gP at h0
 refine aS aG 1 [] [(8, (aJ true))] ?_
 refine aS aG 1 [] [(9, (aJ true))] ?_
 refine bN 0 ?_
 refine dK [(0, (.msl 1 lo0p 0 (List.length aA))), (1, (eI a1)), (2, (eI b2)), (3, (eI cD)), (8, (aJ true)), (9, (aJ true))] ?_
 refine cQ (fun T H => ∃ aA : List Int, ∃ a1 : Int, ∃ b2 : Int, ∃ cD : Int, ∃ bW : Bool, ∃ bO : Bool, Has T [(0, (.msl 1 lo0p 0 (List.length aA))), (1, (eI a1)), (2, (eI b2)), (3, (eI cD)), (8, (aJ bW)), (9, (aJ bO))] ∧ aK ⟨H0, [lo0p], []⟩ H [(lo0p, 1, List.map (eI) aA)] ∧ List.length aA = N0 ∧ pH rec aA a1 b2 cD bW bO = some r) ?_ ⟨aA, a1, b2, cD, true, true, .eq (by kernel_rfl), hO, hN, h0⟩
 clear hO hN h0
 rintro T H ⟨aA, a1, b2, cD, bW, bO, hT, hO, hN, h0⟩
 refine aY hT ?_
 clear hT
 unfold pH at h0
 obtain ⟨rr0, hl0, h0⟩ := aW h0
 refine cB (by kernel_rfl) (fun (s : List Int × Int × Int × Int × Bool × Bool) T H => Has T [(0, (.msl 1 lo0p 0 (List.length s.1))), (1, (eI s.2.1)), (2, (eI s.2.2.1)), (3, (eI s.2.2.2.1)), (8, (aJ s.2.2.2.2.1)), (9, (aJ s.2.2.2.2.2))] ∧ aK ⟨H0, [lo0p], []⟩ H [(lo0p, 1, List.map (eI) s.1)] ∧ List.length s.1 = N0) hl0 ⟨.eq (by kernel_rfl), hO, hN⟩ ?_
 clear hO hN
 rintro k0 s out1 T H ⟨hT, hO, hN⟩ h1 ho0
 obtain ⟨aA, a1, b2, cD, bW, bO⟩ := s
 replace h1 : eX rec aA a1 b2 cD bW bO = some out1 := h1
 try dsimp only at hT
 refine aY hT ?_
 clear hT
 unfold eX at h1
 refine bN 1 ?_
 refine aS aG 4 [] [(10, (eI (wR (b2 - a1))))] ?_
 refine aO ?_
 refine aS aG 2 [] [(23, (aJ (decide ((wR (b2 - a1)) ≤ (12 : Int)))))] ?_
 refine bE h1 (fun h1 => ?_) (fun h1 => ?_)
 ·refine aO ?_
  refine aT aG 4 ?_
  refine bI 3 ?_
  obtain ⟨x2, hx3, h1⟩ := aW h1
  refine nE [(lo0p, 1, List.map (eI) x2)] 0 (AD lo0p aA a1 b2 _ hx3) hO ?_
  intro H hO hl4
  simp only [List.length_map] at hl4
  replace hN := hl4.trans hN
  refine dG ?_
  refine cA (l := [(0, (.msl 1 lo0p 0 (List.length x2)))]) ⟨[(0, (.msl 1 lo0p 0 (List.length aA)))], by kernel_rfl, rfl, ⟨aL.eq (by simp [hl4]), trivial⟩⟩ ?_
  refine aH (aF (?_))
  refine bL ?_
  obtain rfl := oI h1
  obtain rfl : _ = rr0 := ho0
  replace h0 : some x2 = some r := h0
  obtain rfl := oI h0
  exact aH (bB (bT (bB (bT (mB (x := (.tup [])) (by kernel_rfl) (aL.refl _) ⟨rfl, hO.ext, hO.at 0 (by kernel_rfl), by simp only [List.length_map]; exact hN.trans hN0⟩)))))
 refine bG ?_
 refine bD [(0, (.msl 1 lo0p 0 (List.length aA))), (1, (eI a1)), (2, (eI b2)), (3, (eI cD)), (8, (aJ bW)), (9, (aJ bO)), (10, (eI (wR (b2 - a1))))] ?_
 refine aO ?_
 refine aS aG 2 [] [(29, (aJ (decide (cD = (0 : Int)))))] ?_
 refine bE h1 (fun h1 => ?_) (fun h1 => ?_)
 ·refine aO ?_
  refine aT aG 4 ?_
  refine bI 3 ?_
  obtain ⟨x6, hx7, h1⟩ := aW h1
  refine nE [(lo0p, 1, List.map (eI) x6)] 0 (DB lo0p aA a1 b2 _ hx7) hO ?_
  intro H hO hl8
  simp only [List.length_map] at hl8
  replace hN := hl8.trans hN
  refine dG ?_
  refine cA (l := [(0, (.msl 1 lo0p 0 (List.length x6)))]) ⟨[(0, (.msl 1 lo0p 0 (List.length aA)))], by kernel_rfl, rfl, ⟨aL.eq (by simp [hl8]), trivial⟩⟩ ?_
  refine aH (aF (?_))
  refine bL ?_
  obtain rfl := oI h1
  obtain rfl : _ = rr0 := ho0
  replace h0 : some x6 = some r := h0
  obtain rfl := oI h0
  exact aH (bB (bT (bB (bT (mB (x := (.tup [])) (by kernel_rfl) (aL.refl _) ⟨rfl, hO.ext, hO.at 0 (by kernel_rfl), by simp only [List.length_map]; exact hN.trans hN0⟩)))))
 refine bG ?_
 refine bD [(0, (.msl 1 lo0p 0 (List.length aA))), (1, (eI a1)), (2, (eI b2)), (3, (eI cD)), (8, (aJ bW)), (9, (aJ bO)), (10, (eI (wR (b2 - a1))))] ?_
 refine dA (fun T H => ∃ aA : List Int, ∃ cD : Int, ∃ eJ : Int, Has T [(0, (.msl 1 lo0p 0 (List.length aA))), (1, (eI a1)), (2, (eI b2)), (3, (eI cD)), (8, (aJ bW)), (9, (aJ bO)), (10, (eI eJ))] ∧ aK ⟨H0, [lo0p], []⟩ H [(lo0p, 1, List.map (eI) aA)] ∧ List.length aA = N0 ∧ iQ rec aA a1 b2 cD bW bO eJ = some out1) ?_ ?_
 ·clear hO hN h1
  rintro T H ⟨aA, cD, eJ, hT, hO, hN, h1⟩
  refine aY hT ?_
  clear hT
  unfold iQ at h1
  refine aO ?_
  refine aT aG 9 ?_
  refine bI 3 ?_
  obtain ⟨x9, hx10, h1⟩ := aW h1
  refine HH [] [0] (BU lo0p aA a1 b2 _ hx10) hO ?_
  intro r11 L12 H hP13 hO
  obtain ⟨rfl, rfl⟩ := hP13
  replace hO : aK ⟨H0, [lo0p], []⟩ H [(lo0p, 1, List.map (eI) aA)] := hO
  refine bC ?_
  refine bP [] [(11, (eI x9.1)), (12, (eI x9.2))] ?_
  refine dA (fun T H => ∃ aA : List Int, ∃ gL : Int, ∃ HS : Int, Has T [(0, (.msl 1 lo0p 0 (List.length aA))), (1, (eI a1)), (2, (eI b2)), (3, (eI cD)), (8, (aJ bW)), (9, (aJ bO)), (10, (eI eJ)), (11, (eI gL)), (12, (eI HS))] ∧ aK ⟨H0, [lo0p], []⟩ H [(lo0p, 1, List.map (eI) aA)] ∧ List.length aA = N0 ∧ iT rec aA a1 b2 cD bW bO eJ gL HS = some out1) ?_ ?_
  ·clear hO hN h1
   rintro T H ⟨aA, gL, HS, hT, hO, hN, h1⟩
   refine aY hT ?_
   clear hT
   unfold iT at h1
   refine dA (fun T H => ∃ aA : List Int, Has T [(0, (.msl 1 lo0p 0 (List.length aA))), (1, (eI a1)), (2, (eI b2)), (3, (eI cD)), (8, (aJ bW)), (9, (aJ bO)), (10, (eI eJ)), (11, (eI gL))] ∧ aK ⟨H0, [lo0p], []⟩ H [(lo0p, 1, List.map (eI) aA)] ∧ List.length aA = N0 ∧ iU rec aA a1 b2 cD bW bO eJ gL = some out1) ?_ ?_
   ·clear hO hN h1
    rintro T H ⟨aA, hT, hO, hN, h1⟩
    refine aY hT ?_
    clear hT
    unfold iU at h1
    refine aO ?_
    refine aO ?_
    obtain ⟨c14, h1⟩ := aX h1
    obtain ⟨c15, h1⟩ := aX h1
    obtain ⟨x16, hx17, h1⟩ := aW h1
    refine eR (eP []) aG 15 ?_
    refine uF (K := fun T H => Has (lift T) [(0, (.msl 1 lo0p 0 (List.length aA))), (1, (eI a1)), (2, (eI b2)), (3, (eI cD)), (8, (aJ bW)), (9, (aJ bO)), (10, (eI eJ)), (11, (eI gL)), (87, (aJ ((decide ((0 : Int) < a1)) && (!x16))))] ∧ aK ⟨H0, [lo0p], []⟩ H [(lo0p, 1, List.map (eI) aA)]) ?_ ?_
    ·refine qV 3 ?_
     refine sE (t := 75) (e := decide ((0 : Int) < a1)) (by kernel_rfl) (fun hg18 => ?_) (fun hg18 => ?_)
     ·refine bQ 7 [0 ≤ (wR (a1 - (1 : Int))) ∧ (wR (a1 - (1 : Int))) < (lN aA)] ⟨(c14 hg18), trivial⟩ ?_
      refine jH 0 lo0p 1 (0 + Int.toNat (wR (a1 - (1 : Int)))) (eI (gD aA (wR (a1 - (1 : Int))))) (eI (gD aA (wR (a1 - (1 : Int))))) (List.map (eI) aA) (by kernel_rfl) (by kernel_rfl) (by kernel_rfl) hO (by kernel_rfl) (bJ (c14 hg18)) ?_
      refine bQ 11 [0 ≤ gL ∧ gL < (lN aA)] ⟨(c15 hg18), trivial⟩ ?_
      refine jH 0 lo0p 1 (0 + Int.toNat gL) (eI (gD aA gL)) (eI (gD aA gL)) (List.map (eI) aA) (by kernel_rfl) (by kernel_rfl) (by kernel_rfl) hO (by kernel_rfl) (bJ (c15 hg18)) ?_
      refine tX 81 [(eI (gD aA (wR (a1 - (1 : Int))))), (eI (gD aA gL))] (aJ x16) (by kernel_rfl) (by kernel_rfl) (gQ (gD aA (wR (a1 - (1 : Int)))) (gD aA gL) _ (pN hx17 hg18)) hO ?_
      intro H hO
      refine jI ?_
      exact ⟨⟨[(0, (.msl 1 lo0p 0 (List.length aA))), (1, (eI a1)), (2, (eI b2)), (3, (eI cD)), (8, (aJ bW)), (9, (aJ bO)), (10, (eI eJ)), (11, (eI gL)), (87, (aJ (!x16)))], by kernel_rfl, rfl, ⟨aL.refl _, aL.refl _, aL.refl _, aL.refl _, aL.refl _, aL.refl _, aL.refl _, aL.refl _, aL.eq (congrArg aJ (qD hg18 rfl).symm), trivial⟩⟩, hO⟩
     refine jI ?_
     exact ⟨⟨[(0, (.msl 1 lo0p 0 (List.length aA))), (1, (eI a1)), (2, (eI b2)), (3, (eI cD)), (8, (aJ bW)), (9, (aJ bO)), (10, (eI eJ)), (11, (eI gL)), (87, (aJ false))], by kernel_rfl, rfl, ⟨aL.refl _, aL.refl _, aL.refl _, aL.refl _, aL.refl _, aL.refl _, aL.refl _, aL.refl _, aL.eq (congrArg aJ (qD hg18 rfl).symm), trivial⟩⟩, hO⟩
    ·rintro T H ⟨hT, hO⟩
     refine cA hT ?_
     clear hT
     refine aH (aF ?_)
     refine bE h1 (fun h1 => ?_) (fun h1 => ?_)
     ·refine aO ?_
      refine aT aG 6 ?_
      refine bI 4 ?_
      obtain ⟨x20, hx21, h1⟩ := aW h1
      refine nE [(lo0p, 1, List.map (eI) x20.2)] 0 (zT lo0p aA a1 b2 gL _ hx21) hO ?_
      intro H hO hl22
      simp only [List.length_map] at hl22
      replace hN := hl22.trans hN
      refine bC ?_
      refine cA (l := [(0, (.msl 1 lo0p 0 (List.length x20.2))), (2, (eI b2)), (3, (eI cD)), (8, (aJ bW)), (9, (aJ bO)), (13, (eI x20.1))]) ⟨[(0, (.msl 1 lo0p 0 (List.length aA))), (2, (eI b2)), (3, (eI cD)), (8, (aJ bW)), (9, (aJ bO)), (13, (eI x20.1))], by kernel_rfl, rfl, ⟨aL.eq (by simp [hl22]), aL.refl _, aL.refl _, aL.refl _, aL.refl _, aL.refl _, trivial⟩⟩ ?_
      refine aH (aF (?_))
      refine aS aG 2 [13] [(1, (eI x20.1))] ?_
      refine dW 1 ?_
      exact aH (aR (bF (aF (⟨rfl, _, (oI h1).symm, .eq (by kernel_rfl), hO, hN⟩))))
     refine bG ?_
     refine bD [(0, (.msl 1 lo0p 0 (List.length aA))), (1, (eI a1)), (2, (eI b2)), (3, (eI cD)), (10, (eI eJ)), (11, (eI gL))] ?_
     refine aO ?_
     refine aT aG 10 ?_
     refine bI 4 ?_
     obtain ⟨x23, hx24, h1⟩ := aW h1
     refine nE [(lo0p, 1, List.map (eI) x23.2)] 0 (DA lo0p aA a1 b2 gL _ hx24) hO ?_
     intro H hO hl25
     simp only [List.length_map] at hl25
     replace hN := hl25.trans hN
     refine bC ?_
     refine cA (l := [(0, (.msl 1 lo0p 0 (List.length x23.2))), (1, (eI a1)), (2, (eI b2)), (3, (eI cD)), (10, (eI eJ)), (14, (eI x23.1.1)), (15, (aJ x23.1.2))]) ⟨[(0, (.msl 1 lo0p 0 (List.length aA))), (1, (eI a1)), (2, (eI b2)), (3, (eI cD)), (10, (eI eJ)), (14, (eI x23.1.1)), (15, (aJ x23.1.2))], by kernel_rfl, rfl, ⟨aL.eq (by simp [hl25]), aL.refl _, aL.refl _, aL.refl _, aL.refl _, aL.refl _, aL.refl _, trivial⟩⟩ ?_
     refine aH (aF (?_))
     refine aS aG 2 [15] [(9, (aJ x23.1.2))] ?_
     refine aS aG 8 [] [(16, (eI (wR (x23.1.1 - a1)))), (17, (eI (wR (b2 - x23.1.1))))] ?_
     refine aO ?_
     refine aT aG 3 ?_
     obtain ⟨c26, h1⟩ := aX h1
     refine qL [(8 : Int) ≠ 0] ⟨c26, trivial⟩ ?_
     refine bP [10] [(18, (eI (wR (Int.tdiv eJ (8 : Int)))))] ?_
     refine aS aG 3 [] [(113, (aJ (decide ((wR (x23.1.1 - a1)) < (wR (b2 - x23.1.1))))))] ?_
     refine bE h1 (fun h1 => ?_) (fun h1 => ?_)
     ·refine cH aG 4 [(0, (.msl 1 lo0p 0 (List.length x23.2))), (1, (eI a1)), (2, (eI b2)), (3, (eI cD)), (8, (aJ (decide ((wR (Int.tdiv eJ (8 : Int))) ≤ (wR (x23.1.1 - a1)))))), (9, (aJ x23.1.2)), (14, (eI x23.1.1))] ?_
      refine aO ?_
      refine aT aG 5 ?_
      refine bI 4 ?_
      obtain ⟨x28, hx29, h1⟩ := aW h1
      refine nE [(lo0p, 1, List.map (eI) x28)] 0 (ih lo0p x23.2 a1 x23.1.1 cD _ hx29) hO ?_
      intro H hO hl30
      simp only [List.length_map] at hl30
      replace hN := hl30.trans hN
      refine dG ?_
      refine cA (l := [(0, (.msl 1 lo0p 0 (List.length x28))), (2, (eI b2)), (3, (eI cD)), (8, (aJ (decide ((wR (Int.tdiv eJ (8 : Int))) ≤ (wR (x23.1.1 - a1)))))), (9, (aJ x23.1.2)), (14, (eI x23.1.1))]) ⟨[(0, (.msl 1 lo0p 0 (List.length x23.2))), (2, (eI b2)), (3, (eI cD)), (8, (aJ (decide ((wR (Int.tdiv eJ (8 : Int))) ≤ (wR (x23.1.1 - a1)))))), (9, (aJ x23.1.2)), (14, (eI x23.1.1))], by kernel_rfl, rfl, ⟨aL.eq (by simp [hl30]), aL.refl _, aL.refl _, aL.refl _, aL.refl _, aL.refl _, trivial⟩⟩ ?_
      refine aH (aF (?_))
      refine aT aG 3 ?_
      refine bC ?_
      exact aH (aU (aF (⟨rfl, _, (oI h1).symm, .eq (by kernel_rfl), hO, hN⟩)))
     refine cH aG 4 [(0, (.msl 1 lo0p 0 (List.length x23.2))), (1, (eI a1)), (2, (eI b2)), (3, (eI cD)), (8, (aJ (decide ((wR (Int.tdiv eJ (8 : Int))) ≤ (wR (b2 - x23.1.1)))))), (9, (aJ x23.1.2)), (14, (eI x23.1.1))] ?_
     refine aO ?_
     refine aT aG 6 ?_
     refine bI 5 ?_
     obtain ⟨x31, hx32, h1⟩ := aW h1
     refine nE [(lo0p, 1, List.map (eI) x31)] 0 (ih lo0p x23.2 (wR (x23.1.1 + (1 : Int))) b2 cD _ hx32) hO ?_
     intro H hO hl33
     simp only [List.length_map] at hl33
     replace hN := hl33.trans hN
     refine dG ?_
     refine cA (l := [(0, (.msl 1 lo0p 0 (List.length x31))), (1, (eI a1)), (3, (eI cD)), (8, (aJ (decide ((wR (Int.tdiv eJ (8 : Int))) ≤ (wR (b2 - x23.1.1)))))), (9, (aJ x23.1.2)), (14, (eI x23.1.1))]) ⟨[(0, (.msl 1 lo0p 0 (List.length x23.2))), (1, (eI a1)), (3, (eI cD)), (8, (aJ (decide ((wR (Int.tdiv eJ (8 : Int))) ≤ (wR (b2 - x23.1.1)))))), (9, (aJ x23.1.2)), (14, (eI x23.1.1))], by kernel_rfl, rfl, ⟨aL.eq (by simp [hl33]), aL.refl _, aL.refl _, aL.refl _, aL.refl _, aL.refl _, trivial⟩⟩ ?_
     refine aH (aF (?_))
     refine aT aG 2 ?_
     refine bC ?_
     exact aH (aU (aF (⟨rfl, _, (oI h1).symm, .eq (by kernel_rfl), hO, hN⟩)))
   refine aS aG 8 [12] [(68, (aJ ((bW && bO) && (decide (HS = (1 : Int))))))] ?_
   refine bE h1 (fun h1 => ?_) (fun h1 => ?_)
   ·refine aO ?_
    refine aT aG 4 ?_
    refine bI 3 ?_
    obtain ⟨x35, hx36, h1⟩ := aW h1
    refine nE [(lo0p, 1, List.map (eI) x35.2)] 0 (wG lo0p aA a1 b2 _ hx36) hO ?_
    intro H hO hl37
    simp only [List.length_map] at hl37
    replace hN := hl37.trans hN
    refine dG ?_
    refine cA (l := [(0, (.msl 1 lo0p 0 (List.length x35.2))), (1, (eI a1)), (2, (eI b2)), (3, (eI cD)), (8, (aJ bW)), (9, (aJ bO)), (10, (eI eJ)), (11, (eI gL)), (72, (aJ x35.1))]) ⟨[(0, (.msl 1 lo0p 0 (List.length aA))), (1, (eI a1)), (2, (eI b2)), (3, (eI cD)), (8, (aJ bW)), (9, (aJ bO)), (10, (eI eJ)), (11, (eI gL)), (72, (aJ x35.1))], by kernel_rfl, rfl, ⟨aL.eq (by simp [hl37]), aL.refl _, aL.refl _, aL.refl _, aL.refl _, aL.refl _, aL.refl _, aL.refl _, aL.refl _, trivial⟩⟩ ?_
    refine aH (aF (?_))
    refine bE h1 (fun h1 => ?_) (fun h1 => ?_)
    ·refine bL ?_
     obtain rfl := oI h1
     obtain rfl : _ = rr0 := ho0
     replace h0 : some x35.2 = some r := h0
     obtain rfl := oI h0
     exact aH (bB (bT (bB (bT (mB (x := (.tup [])) (by kernel_rfl) (aL.refl _) ⟨rfl, hO.ext, hO.at 0 (by kernel_rfl), by simp only [List.length_map]; exact hN.trans hN0⟩)))))
    refine bG ?_
    exact aH (aF (⟨rfl, _, .eq (by kernel_rfl), hO, hN, h1⟩))
   refine bG ?_
   exact aH (aF (⟨rfl, _, .eq (by kernel_rfl), hO, hN, h1⟩))
  refine aS aG 2 [] [(50, (aJ (decide (x9.2 = (2 : Int)))))] ?_
  refine bE h1 (fun h1 => ?_) (fun h1 => ?_)
  ·refine aO ?_
   refine aT aG 4 ?_
   refine bI 3 ?_
   obtain ⟨x40, hx41, h1⟩ := aW h1
   refine nE [(lo0p, 1, List.map (eI) x40)] 0 (BH lo0p aA a1 b2 _ hx41) hO ?_
   intro H hO hl42
   simp only [List.length_map] at hl42
   replace hN := hl42.trans hN
   refine dG ?_
   refine cA (l := [(0, (.msl 1 lo0p 0 (List.length x40))), (1, (eI a1)), (2, (eI b2)), (3, (eI cD)), (8, (aJ bW)), (9, (aJ bO)), (10, (eI eJ)), (11, (eI x9.1))]) ⟨[(0, (.msl 1 lo0p 0 (List.length aA))), (1, (eI a1)), (2, (eI b2)), (3, (eI cD)), (8, (aJ bW)), (9, (aJ bO)), (10, (eI eJ)), (11, (eI x9.1))], by kernel_rfl, rfl, ⟨aL.eq (by simp [hl42]), aL.refl _, aL.refl _, aL.refl _, aL.refl _, aL.refl _, aL.refl _, aL.refl _, trivial⟩⟩ ?_
   refine aH (aF (?_))
   refine aS aG 7 [11] [(11, (eI (wR ((wR (b2 - (1 : Int))) - (wR (x9.1 - a1))))))] ?_
   refine aT aG 1 ?_
   refine bC ?_
   exact aH (aF (⟨rfl, _, _, _, .eq (by kernel_rfl), hO, hN, h1⟩))
  refine bG ?_
  exact aH (aF (⟨rfl, _, _, _, .eq (by kernel_rfl), hO, hN, h1⟩))
 refine aS aG 2 [] [(35, (aJ (!bW)))] ?_
 refine bE h1 (fun h1 => ?_) (fun h1 => ?_)
 ·refine aO ?_
  refine aT aG 4 ?_
  refine bI 3 ?_
  obtain ⟨x44, hx45, h1⟩ := aW h1
  refine nE [(lo0p, 1, List.map (eI) x44)] 0 (AA lo0p aA a1 b2 _ hx45) hO ?_
  intro H hO hl46
  simp only [List.length_map] at hl46
  replace hN := hl46.trans hN
  refine dG ?_
  refine cA (l := [(0, (.msl 1 lo0p 0 (List.length x44))), (1, (eI a1)), (2, (eI b2)), (3, (eI cD)), (8, (aJ bW)), (9, (aJ bO)), (10, (eI (wR (b2 - a1))))]) ⟨[(0, (.msl 1 lo0p 0 (List.length aA))), (1, (eI a1)), (2, (eI b2)), (3, (eI cD)), (8, (aJ bW)), (9, (aJ bO)), (10, (eI (wR (b2 - a1))))], by kernel_rfl, rfl, ⟨aL.eq (by simp [hl46]), aL.refl _, aL.refl _, aL.refl _, aL.refl _, aL.refl _, aL.refl _, trivial⟩⟩ ?_
  refine aH (aF (?_))
  refine aT aG 3 ?_
  refine bC ?_
  exact aH (aF (⟨rfl, _, _, _, .eq (by kernel_rfl), hO, hN, h1⟩))
 refine bG ?_
 exact aH (aF (⟨rfl, _, _, _, .eq (by kernel_rfl), hO, hN, h1⟩))

theorem uU  : ∀ (k : Nat) (lo0p : Nat) (aA : (List Int)) (a1 : Int) (b2 : Int) (cD : Int) (r : List Int), dP k aA a1 b2 cD = some r → iG Tryz.prog 63 lo0p 1 (List.map (eI) aA) (List.map (eI) r) [(.msl 1 lo0p 0 (List.length aA)), (eI a1), (eI b2), (eI cD)] (.tup [])
 | 0, _, _, _, _, _, _, h => by cases h
 | k + 1, lo0p, aA, a1, b2, cD, r, h => AY  _ (uU  k) lo0p aA a1 b2 cD r h

theorem EI (lo0p : Nat) (aA : (List Int)) (a1 : Int) (b2 : Int) (cD : Int) (r : List Int) (h0 : lU aA a1 b2 cD = some r) : iG Tryz.prog 63 lo0p 1 (List.map (eI) aA) (List.map (eI) r) [(.msl 1 lo0p 0 (List.length aA)), (eI a1), (eI b2), (eI cD)] (.tup []) := by
 obtain ⟨k, hk⟩ := EJ h0
 exact uU  k lo0p aA a1 b2 cD r hk

theorem IC (lo0p : Nat) (x0 : (List Int)) (r : List Int) (h0 : nT x0 = some r) : iG Tryz.prog 36 lo0p 1 (List.map (eI) x0) (List.map (eI) r) [(.msl 1 lo0p 0 (List.length x0))] (.tup []) := by
 intro H0 hl0
 refine cP Tryz.func36 ?_
 have hO := aK.nP hl0
 clear hl0
 obtain ⟨N0, hN0⟩ : ∃ n, n = List.length x0 := ⟨_, rfl⟩
 have hN : List.length x0 = N0 := hN0.symm
 unfold nT at h0
 refine aS aG 3 [] [(2, (eI (lN x0)))] ?_
 refine aT aG 6 ?_
 refine bI 4 ?_
 obtain ⟨x1, hx2, h0⟩ := aW h0
 refine dS (GU (IntKind.u64.wrap (lN x0)) _ hx2) hO ?_
 intro H hO
 obtain ⟨x4, hx5, h0⟩ := aW h0
 refine nE [(lo0p, 1, List.map (eI) x4)] 0 (EI lo0p x0 (0 : Int) (lN x0) x1 _ hx5) hO ?_
 intro H hO hl6
 simp only [List.length_map] at hl6
 replace hN := hl6.trans hN
 refine dG ?_
 refine cA (l := [(0, (.msl 1 lo0p 0 (List.length x4)))]) ⟨[(0, (.msl 1 lo0p 0 (List.length x0)))], by kernel_rfl, rfl, ⟨aL.eq (by simp [hl6]), trivial⟩⟩ ?_
 obtain rfl := oI h0
 exact aH (rY (x := (.tup [])) (by kernel_rfl) (aL.refl _) ⟨rfl, hO.ext, hO.at 0 (by kernel_rfl), by simp only [List.length_map]; exact hN.trans hN0⟩)

theorem NP (l0 : (List aC)) (cJ : Int) (r : ((List Int) × Int)) (h0 : xP l0 cJ = some r) : cO Tryz.prog 11 [(eL aD l0), (eI cJ)] (.tup [(eL (eI) r.1), (eI r.2)]) := by
 intro H0
 refine cP Tryz.func11 ?_
 have hO := aK.start H0
 unfold xP at h0
 refine aS aG 2 [] [] ?_
 refine aO ?_
 refine bN 0 ?_
 refine aO ?_
 refine aT aG 4 ?_
 refine bI 1 ?_
 obtain ⟨x1, hx2, h0⟩ := aW h0
 refine dS (CC l0 _ hx2) hO ?_
 intro H hO
 refine bC ?_
 refine bP [] [(11, (aJ (!x1)))] ?_
 refine bE h0 (fun h0 => ?_) (fun h0 => ?_)
 ·refine cH aG 2 [(4, (.sl true 0 (fun _ => .bad))), (5, (eI (2 : Int)))] ?_
  refine bL ?_
  refine cA (l := [(4, (eL (eI) ([]))), (5, (eI (2 : Int)))]) ⟨[(4, (.sl true 0 (fun _ => .bad))), (5, (eI (2 : Int)))], by kernel_rfl, rfl, ⟨kL, aL.refl _, trivial⟩⟩ ?_
  obtain rfl := oI h0
  exact aH (bT (bB (Q_r hO)))
 refine aO ?_
 refine aT aG 4 ?_
 refine bI 1 ?_
 obtain ⟨x5, hx6, h0⟩ := aW h0
 refine dS (XZ l0 _ hx6) hO ?_
 intro H hO
 refine bC ?_
 refine bP [11] [(15, (aJ (!x5)))] ?_
 refine bE h0 (fun h0 => ?_) (fun h0 => ?_)
 ·refine cH aG 2 [(4, (.sl true 0 (fun _ => .bad))), (5, (eI (20 : Int)))] ?_
  refine bL ?_
  refine cA (l := [(4, (eL (eI) ([]))), (5, (eI (20 : Int)))]) ⟨[(4, (.sl true 0 (fun _ => .bad))), (5, (eI (20 : Int)))], by kernel_rfl, rfl, ⟨kL, aL.refl _, trivial⟩⟩ ?_
  obtain rfl := oI h0
  exact aH (bT (bB (Q_r hO)))
 refine aS aG 7 [15] [(19, (aJ ((decide (cJ < (0 : Int))) || (decide ((1125899906842624 : Int) < cJ)))))] ?_
 refine bE h0 (fun h0 => ?_) (fun h0 => ?_)
 ·refine cH aG 2 [(4, (.sl true 0 (fun _ => .bad))), (5, (eI (13 : Int)))] ?_
  refine bL ?_
  refine cA (l := [(4, (eL (eI) ([]))), (5, (eI (13 : Int)))]) ⟨[(4, (.sl true 0 (fun _ => .bad))), (5, (eI (13 : Int)))], by kernel_rfl, rfl, ⟨kL, aL.refl _, trivial⟩⟩ ?_
  obtain rfl := oI h0
  exact aH (bT (bB (Q_r hO)))
 refine cH aG 3 [(0, (eL aD l0)), (1, (eI cJ)), (26, (aJ (decide (cJ = (1125899906842624 : Int)))))] ?_
 refine bE h0 (fun h0 => ?_) (fun h0 => ?_)
 ·refine cH aG 2 [(4, (.sl true 0 (fun _ => .bad))), (5, (eI (0 : Int)))] ?_
  refine bL ?_
  refine cA (l := [(4, (eL (eI) ([]))), (5, (eI (0 : Int)))]) ⟨[(4, (.sl true 0 (fun _ => .bad))), (5, (eI (0 : Int)))], by kernel_rfl, rfl, ⟨kL, aL.refl _, trivial⟩⟩ ?_
  obtain rfl := oI h0
  exact aH (bT (bB (Q_r hO)))
 refine bG ?_
 refine gV [(0, (eL aD l0)), (1, (eI cJ))] ?_
 refine aH (aU (aF (?_)))
 refine aO ?_
 refine aT aG 5 ?_
 refine aCR (β := Int) (eI) (t := 78) hO ?_
 intro lm11 H hO
 refine bI 2 ?_
 refine YJ (f := (eI)) (mty := 78) cJ (1 : Int) hO ?_
 intro H hO
 refine bC ?_
 refine bP [] [(6, (.mp lm11))] ?_
 refine dA (fun T H => ∃ nN : (List (Int × Int)), Has T [(6, (.mp lm11))] ∧ aK ⟨H0, [], (lm11, JY (eI) nN) :: []⟩ H [] ∧ yZ nN = some r) ?_ ?_
 ·clear hO h0
  rintro T H ⟨nN, hT, hO, h0⟩
  refine aY hT ?_
  clear hT
  unfold yZ at h0
  refine aO ?_
  refine aT aG 4 ?_
  refine bI 1 ?_
  refine aDv (mty := 78) hO ?_
  obtain ⟨c13, h0⟩ := aX h0
  refine aAL 1 8 (lN nN) (by kernel_rfl) (by kernel_rfl) c13 hO ?_
  intro lo14 H hO
  refine bC ?_
  refine bD [(6, (.mp lm11)), (9, (.msl 1 lo14 0 (List.length ([] : List Int))))] ?_
  refine dA (fun T H => ∃ out9 : List Int, ∃ lo15 : Nat, Has T [(9, (.msl 1 lo15 0 (List.length out9)))] ∧ aK ⟨H0, [], []⟩ H [(lo15, 1, List.map (eI) out9)] ∧ CU out9 = some r) ?_ ?_
  ·clear hO h0
   rintro T H ⟨out9, lo15, hT, hO, h0⟩
   refine aY hT ?_
   clear hT
   unfold CU at h0
   refine aO ?_
   refine aT aG 2 ?_
   refine bI 1 ?_
   obtain ⟨x16, hx17, h0⟩ := aW h0
   refine nE [(lo15, 1, List.map (eI) x16)] 0 (IC lo15 out9 _ hx17) hO ?_
   intro H hO hl18
   simp only [List.length_map] at hl18
   refine dG ?_
   refine cA (l := [(9, (.msl 1 lo15 0 (List.length x16)))]) ⟨[(9, (.msl 1 lo15 0 (List.length out9)))], by kernel_rfl, rfl, ⟨aL.eq (by simp [hl18]), trivial⟩⟩ ?_
   refine aH (aF (?_))
   refine cH aG 3 [(4, (.msl 1 lo15 0 (List.length x16))), (5, (eI (0 : Int)))] ?_
   refine bL ?_
   refine gV [(4, (.msl 1 lo15 0 (List.length x16))), (5, (eI (0 : Int)))] ?_
   refine BM (en := (eI)) x16 0 0 4 1 lo15 (List.length x16) hO (by kernel_rfl) (by kernel_rfl) (by kernel_rfl) (L' := []) (by kernel_rfl) ?_
   intro H19 hO
   obtain rfl := oI h0
   exact aH (Q_r hO)
  refine aO ?_
  refine aT aG 2 ?_
  refine bI 1 ?_
  refine aBJ (mty := 78) hO ?_
  intro li20 bs21 ck22 H hmb aE2 hO
  refine dG ?_
  refine bP [6] [(50, (.lp li20 0 0))] ?_
  refine bN 3 ?_
  refine dK [(9, (.msl 1 lo14 0 (List.length ([] : List Int)))), (50, (.lp li20 0 0))] ?_
  refine cQ (fun T H => ∃ out9 : List Int, ∃ t50 : (List (Int × Int)), ∃ lo24 : Nat, Has T [(9, (.msl 1 lo24 0 (List.length out9))), (50, (.lp li20 0 0))] ∧ aK ⟨H0, [], (li20, PG li20 lm11 ck22 []) :: (lm11, MI (eI) t50 bs21 ck22) :: []⟩ H [(lo24, 1, List.map (eI) out9)] ∧ List.length bs21 = List.length t50 ∧ CQ out9 t50 = some r) ?_ ⟨([] : List Int), nN, lo14, .eq (by kernel_rfl), hO, hmb, h0⟩
  clear hO hmb h0
  rintro T H ⟨out9, t50, lo24, hT, hO, hmb, h0⟩
  refine aY hT ?_
  clear hT
  unfold CQ at h0
  refine aCr (by kernel_rfl) (fun (s : List Int) (seen : List Nat) T H => ∃ lo24 : Nat, Has T [(9, (.msl 1 lo24 0 (List.length s))), (50, (.lp li20 0 0))] ∧ aK ⟨H0, [], (li20, PG li20 lm11 ck22 seen) :: (lm11, MI (eI) t50 bs21 ck22) :: []⟩ H [(lo24, 1, List.map (eI) s)]) hmb h0 ⟨lo24, .eq (by kernel_rfl), hO⟩ ?_
  clear hO h0
  rintro seen rem s T H ⟨lo24, hT, hO⟩ hleft hall
  obtain ⟨out9, rfl⟩ : ∃ x, x = s := ⟨_, rfl⟩
  refine aY (l := [(9, (.msl 1 lo24 0 (List.length out9))), (50, (.lp li20 0 0))]) hT ?_
  clear hT
  refine aO ?_
  refine aT aG 2 ?_
  refine aB7 hmb aE2 hleft hall hO (fun h0 => ?_) (fun mk mv bq rest out1 H h1 hlt hleft hall hat hO => ?_)
  ·clear hall hleft
   replace h0 : CH t50 out9 = some r := h0
   unfold CH at h0
   refine bC ?_
   refine bP [] [(52, (aJ false))] ?_
   refine aO ?_
   refine rG (false) (fun hc25 => ?_) (fun hc25 => ?_)
   ·cases hc25
   ·refine dW 3 ?_
    replace hO := hO.xY.xY
    exact aH (aR (aR (bF (aF (⟨rfl, _, _, .eq (by kernel_rfl), hO, h0⟩)))))
  replace h1 : vM t50 out9 mk mv = some out1 := h1
  unfold vM at h1
  refine bC ?_
  refine bP [] [(52, (aJ true))] ?_
  refine aO ?_
  refine rG (true) (fun hc26 => ?_) (fun hc26 => ?_)
  ·refine bG ?_
   refine bD [(9, (.msl 1 lo24 0 (List.length out9))), (50, (.lp li20 0 0))] ?_
   refine bN 4 ?_
   refine aO ?_
   refine aT aG 3 ?_
   refine aAY hat hO ?_
   refine bC ?_
   refine bP [] [(10, (eI mk))] ?_
   refine aT aG 5 ?_
   refine bI 2 ?_
   refine rX (xs := [(eI mk)]) (k := 1) (by kernel_rfl) (by kernel_rfl) ?_
   obtain ⟨c28, h1⟩ := aX h1
   refine zP (e := (eI)) out9 ([mk]) 0 lo24 1 8 (kD [(eI mk)]) (fun lo27 => [(lo27, 1, List.map (eI) (out9 ++ ([mk])))]) (by kernel_rfl) (by kernel_rfl) hO (by kernel_rfl) (by kernel_rfl) c28 (fun _ => by kernel_rfl) ?_
   intro lo27 H hO
   refine bC ?_
   obtain rfl := oI h1
   exact aH (aU (aF (⟨rfl, _, _, _, hlt, hleft, hall, lo27, .eq (by kernel_rfl), hO⟩)))
  ·cases hc26
 refine aS aG 3 [0] [(32, (eL aD l0)), (33, (eI (lN l0))), (34, (eI (0 : Int)))] ?_
 refine bN 1 ?_
 refine dK [(1, (eI cJ)), (6, (.mp lm11)), (32, (eL aD l0)), (33, (eI (lN l0))), (34, (eI (0 : Int)))] ?_
 refine cQ (fun T H => ∃ nN : (List (Int × Int)), ∃ t32 : (List aC), ∃ t33 : Int, ∃ t34 : Int, Has T [(1, (eI cJ)), (6, (.mp lm11)), (32, (eL aD t32)), (33, (eI t33)), (34, (eI t34))] ∧ aK ⟨H0, [], (lm11, JY (eI) nN) :: []⟩ H [] ∧ CN cJ nN t32 t33 t34 = some r) ?_ ⟨wK ([] : (List (Int × Int))) cJ (1 : Int), l0, (lN l0), (0 : Int), .eq (by kernel_rfl), hO, h0⟩
 clear hO h0
 rintro T H ⟨nN, t32, t33, t34, hT, hO, h0⟩
 refine aY hT ?_
 clear hT
 unfold CN at h0
 obtain ⟨rr0, hl0, h0⟩ := aW h0
 refine cB (by kernel_rfl) (fun (s : (List (Int × Int)) × Int) T H => Has T [(1, (eI cJ)), (6, (.mp lm11)), (32, (eL aD t32)), (33, (eI t33)), (34, (eI s.2))] ∧ aK ⟨H0, [], (lm11, JY (eI) s.1) :: []⟩ H []) hl0 ⟨.eq (by kernel_rfl), hO⟩ ?_
 clear hO
 rintro k0 s out1 T H ⟨hT, hO⟩ h1 ho0
 obtain ⟨nN, t34⟩ := s
 replace h1 : sR cJ t32 t33 nN t34 = some out1 := h1
 try dsimp only at hT
 refine aY hT ?_
 clear hT
 unfold sR at h1
 refine aS aG 1 [] [(35, (aJ (decide (t34 < t33))))] ?_
 refine aO ?_
 refine bE h1 (fun h1 => ?_) (fun h1 => ?_)
 ·refine bG ?_
  refine bD [(1, (eI cJ)), (6, (.mp lm11)), (32, (eL aD t32)), (33, (eI t33)), (34, (eI t34))] ?_
  refine dA (fun T H => ∃ nN : (List (Int × Int)), Has T [(1, (eI cJ)), (6, (.mp lm11)), (32, (eL aD t32)), (33, (eI t33)), (34, (eI t34))] ∧ aK ⟨H0, [], (lm11, JY (eI) nN) :: []⟩ H [] ∧ vT cJ nN t32 t33 t34 = some out1) ?_ ?_
  ·clear hO h1
   rintro T H ⟨nN, hT, hO, h1⟩
   refine aY hT ?_
   clear hT
   unfold vT at h1
   refine aT aG 2 ?_
   refine bC ?_
   exact aH (aF (⟨rfl, _, (oI h1).symm, .eq (by kernel_rfl), hO⟩))
  refine bN 2 ?_
  refine aO ?_
  refine aT aG 4 ?_
  obtain ⟨c30, h1⟩ := aX h1
  refine BC 2 [0 ≤ t34 ∧ t34 < (lN t32)] ⟨c30, trivial⟩ ?_
  refine BG 3 (.agg [(.sl true 0 (fun _ => .bad)), (eI 0), (eI 0)]) (aD (aC.mk ([]) 0 0)) (by kernel_rfl) (by kernel_rfl) (by kernel_rfl) (XA (xs := [(.sl true 0 (fun _ => .bad)), (eI 0), (eI 0)]) (ys := [(eL aN ([])), (eI 0), (eI 0)]) ⟨kL, aL.refl _, aL.refl _, trivial⟩) (by kernel_rfl) (by kernel_rfl) hO ?_
  intro lo31 H hO
  refine rK 0 lo31 3 0 (aD (aC.mk ([]) 0 0)) (aD (gD t32 t34)) [(aD (aC.mk ([]) 0 0))] [(lo31, 3, [(aD (gD t32 t34))])] hO rfl (by kernel_rfl) ?_
  intro H hO
  refine dG ?_
  refine bP [] [(8, (.lp lo31 0 0))] ?_
  refine aO ?_
  refine aT aG 4 ?_
  refine bI 1 ?_
  refine uC 0 lo31 3 0 (aD (gD t32 t34)) (eI ((gD t32 t34).At)) [(aD (gD t32 t34))] hO rfl ?_
  refine bC ?_
  refine bP [] [(41, (aJ (decide (cJ < ((gD t32 t34).At)))))] ?_
  refine bE h1 (fun h1 => ?_) (fun h1 => ?_)
  ·refine aT aG 4 ?_
   refine bI 2 ?_
   refine uC 0 lo31 3 0 (aD (gD t32 t34)) (eI ((gD t32 t34).At)) [(aD (gD t32 t34))] hO rfl ?_
   refine YJ (f := (eI)) (mty := 78) ((gD t32 t34).At) (1 : Int) hO ?_
   intro H hO
   refine dG ?_
   replace hO := hO.pick (L' := []) [] (by decide) (by kernel_rfl)
   exact aH (aU (aF (⟨rfl, _, .eq (by kernel_rfl), hO, h1⟩)))
  refine bG ?_
  replace hO := hO.pick (L' := []) [] (by decide) (by kernel_rfl)
  exact aH (aU (aF (⟨rfl, _, .eq (by kernel_rfl), hO, h1⟩)))
 refine dW 1 ?_
 obtain rfl := oI h1
 obtain rfl : _ = rr0 := ho0
 replace h0 : yZ nN = some r := h0
 exact aH (aR (aR (bF (aF (⟨rfl, _, .eq (by kernel_rfl), hO, h0⟩)))))

theorem UI (l0 : (List aC)) (r : (List aC)) (h0 : AT l0 = some r) : cO Tryz.prog 12 [(eL aD l0)] (.fn (.func 37) [] [(.rp (eL aD r))]) := by
 intro H0
 refine cP Tryz.func12 ?_
 have hO := aK.start H0
 unfold AT at h0
 refine aO ?_
 refine aT aG 2 ?_
 refine qG 1 (eL aD l0) (by kernel_rfl) (by kernel_rfl) ?_
 refine bC ?_
 refine bD [(1, (.rp (eL aD l0)))] ?_
 refine cH aG 2 [(2, (.fn (.func 37) [] [(.rp (eL aD l0))]))] ?_
 refine bL ?_
 obtain rfl := oI h0
 exact aH (mB (x := (.fn (.func 37) [] [(.rp (eL aD l0))])) (by kernel_rfl) (aL.refl _) ⟨rfl, hO.out⟩)

theorem NG {σ : Type} (I : σ → Gs → Prop) (yield0_b : Nat) (iI : σ → (List aI) → (List aB) → Option (σ × Bool)) (yield0_h : ∀ st a0 a1 st2 r, iI st a0 a1 = some (st2, r) → NC Tryz.prog (yv yield0_b) I st [(eL aN a0), (eL aE a1)] st2 (aJ r)) (t1 : (List aC)) (sg0 : σ) (r : σ) (h0 : tJ iI t1 sg0 = some r) : FK Tryz.prog 37 I sg0 [(yv yield0_b), (.rp (eL aD t1))] r (.tup []) := by
 intro H0 G0 hI hg
 refine ND aG Tryz.func37 (by kernel_rfl) (by kernel_rfl) (by kernel_rfl) ?_
 obtain ⟨G, hO, hI⟩ : ∃ G, aK ⟨H0, List.map (fun p : Nat × eN => p.1) G0, G⟩ H0 [] ∧ I sg0 G := ⟨G0, aK.PX hg, hI⟩
 clear hg
 unfold tJ at h0
 refine aO ?_
 refine aT aG 1 ?_
 refine qG 1 (yv yield0_b) (by kernel_rfl) (by kernel_rfl) ?_
 refine dG ?_
 refine bP [0] [(2, (.rp (yv yield0_b)))] ?_
 refine aO ?_
 refine aO ?_
 refine aT aG 3 ?_
 refine bI 1 ?_
 obtain ⟨x1, hx2, h0⟩ := aW h0
 refine dS (CC t1 _ hx2) hO ?_
 intro H hO
 refine bC ?_
 refine bP [] [(7, (aJ (!x1)))] ?_
 refine bE h0 (fun h0 => ?_) (fun h0 => ?_)
 ·refine bL ?_
  obtain rfl := oI h0
  exact aH (bB (QM0 (.inr rfl) (rs := []) (xs := []) (x := (.tup [])) (by kernel_rfl) yD (by kernel_rfl) ⟨rfl, G, hI, hO.LD⟩))
 refine bG ?_
 refine bD [(1, (.rp (eL aD t1))), (2, (.rp (yv yield0_b)))] ?_
 refine aO ?_
 refine aT aG 2 ?_
 refine bI 1 ?_
 obtain ⟨x5, hx6, h0⟩ := aW h0
 refine dS (HN t1 _ hx6) hO ?_
 intro H hO
 refine dG ?_
 refine bP [1] [(9, (.fn (.func 65) [] [(.rp (eL aD x5))]))] ?_
 refine bN 0 ?_
 refine dK [(2, (.rp (yv yield0_b))), (9, (.fn (.func 65) [] [(.rp (eL aD x5))]))] ?_
 refine cQ (fun T H => ∃ sg : σ, ∃ t9c0 : (List aC), ∃ G : Gs, Has T [(2, (.rp (yv yield0_b))), (9, (.fn (.func 65) [] [(.rp (eL aD t9c0))]))] ∧ aK ⟨H0, List.map (fun p : Nat × eN => p.1) G0, G⟩ H [] ∧ I sg G ∧ vA iI sg t9c0 = some r) ?_ ⟨sg0, x5, G, .eq (by kernel_rfl), hO, hI, h0⟩
 clear hO hI h0
 rintro T H ⟨sg, t9c0, G, hT, hO, hI, h0⟩
 refine aY (l := [(2, (.rp (yv yield0_b))), (9, (.fn (.func 65) [] [(.rp (eL aD t9c0))]))]) hT ?_
 clear hT
 unfold vA at h0
 obtain ⟨o0, hl0, h0⟩ := aW h0
 refine IQ (fid := 65) (ys := []) (cs := [(.rp (eL aD t9c0))]) #[10, 11] (fun (A : FL) (b lL : Nat) (st : (σ) ⊕ (σ)) (G' : Gs) => Sum.elim (fun (s : σ) => ∃ G : Gs, I s G ∧ G' = (lL, .raw (qC b A .ready none)) :: (up [] ++ G)) (fun (s : σ) => ∃ G : Gs, I s G ∧ G' = (lL, .raw (qC b A .done (some .ret))) :: (up [] ++ G)) st) (.inl sg) o0 (.tup []) (by kernel_rfl) (by kernel_rfl) (by kernel_rfl) hO (fun _ _ => ⟨G, hI, rfl⟩) ?_ ?_
 ·intro b lL
  clear hO hI h0
  refine CV _ b (fun st t10 t11 => rnd (fun (s : σ) => oH iI t9c0 s t10 t11) st) ?_ t9c0 _ _ hl0
  intro st t10 t11 out1 rr hr
  obtain ⟨s, rfl, h1, rfl⟩ := aBw hr
  clear hr
  intro Hr Gr hi hg
  obtain ⟨sg, rfl⟩ : ∃ x, x = s := ⟨_, rfl⟩
  dsimp only [Sum.elim_inl] at hi
  obtain ⟨G, hI, rfl⟩ := hi
  replace h1 : oH iI t9c0 sg t10 t11 = some out1 := h1
  unfold oH at h1
  obtain ⟨E1, hE, hO⟩ := DV hg
  refine DY (JG (hO.gm 0 _ rfl).2 (by kernel_rfl) (by kernel_rfl) ?_)
  refine dK [(2, (.rp (yv yield0_b))), (9, (.fn (.func 65) [] [(.rp (eL aD t9c0))])), (10, (eL aN t10)), (11, (eL aE t11))] ?_
  refine aS aG 1 [9, 10] [(3, (eL aN t10))] ?_
  refine aT aG 1 ?_
  refine bC ?_
  refine gV [(2, (.rp (yv yield0_b))), (3, (eL aN t10)), (4, (eL aE t11))] ?_
  refine aH (⟨rfl, rfl, (hO.gm 0 _ rfl).2, ?_⟩)
  intro o1 ho1
  replace hO := hO.yS o1
  refine bN 1 ?_
  refine aO ?_
  refine aT aG 5 ?_
  refine bI 3 ?_
  obtain ⟨x7, hx8, h1⟩ := aW h1
  refine aEt (I := I) (yv yield0_b) [(eL aN t10), (eL aE t11)] (aJ x7.2) (by kernel_rfl) (by kernel_rfl) (yield0_h _ t10 t11 x7.1 x7.2 hx8) hO hI ?_
  intro G H hO hI
  refine bC ?_
  refine bD [(16, (aJ (!x7.2)))] ?_
  refine bE h1 (fun h1 => ?_) (fun h1 => ?_)
  ·refine bL ?_
   refine gV [] ?_
   obtain rfl := oI h1
   exact aH (bT (⟨(nC hO hE ho1 .dead).1, rfl, _, ⟨G, hI, rfl⟩, (nC hO hE ho1 _).2⟩))
  refine bG ?_
  refine gV [] ?_
  obtain rfl := oI h1
  exact aH (aU (⟨(nC hO hE ho1 .dead).1, rfl, _, ⟨G, hI, rfl⟩, (nC hO hE ho1 _).2⟩))
 ·intro b lD10 lL H' G' hi hO
  rcases o0 with s | s
  ·dsimp only [Sum.elim_inl] at hi
   obtain ⟨G, hI, rfl⟩ := hi
   replace h0 : (some s) = some r := h0
   obtain ⟨hlL, hO⟩ := wA hO
   refine ⟨_, _, hlL, (by intro e; cases e), ?_⟩
   obtain rfl := oI h0
   have hD := (hO.gm 0 _ rfl).2
   replace hO := (hO.yS .dead).xY
   exact aH (aU (QM1 (.inl rfl) hD (rs := []) (xs := []) (x := (.tup [])) (by kernel_rfl) yD (by kernel_rfl) ⟨rfl, G, hI, hO.LD⟩))
  ·dsimp only [Sum.elim_inr] at hi
   obtain ⟨G, hI, rfl⟩ := hi
   replace h0 : (some s) = some r := h0
   obtain ⟨hlL, hO⟩ := wA hO
   refine ⟨_, _, hlL, (by intro e; cases e), ?_⟩
   refine bL ?_
   obtain rfl := oI h0
   have hD := (hO.gm 0 _ rfl).2
   replace hO := (hO.yS .dead).xY
   exact aH (bT (QM1 (.inr rfl) hD (rs := []) (xs := []) (x := (.tup [])) (by kernel_rfl) yD (by kernel_rfl) ⟨rfl, G, hI, hO.LD⟩))

theorem aCt (f0 : (List aB)) (t1 : Int) (r : Int) (h0 : EE f0 t1 = some r) : cO Tryz.prog 14 [(eL aE f0), (eI t1)] (eI r) := by
 intro H0
 refine cP Tryz.func14 ?_
 have hO := aK.start H0
 unfold EE at h0
 refine aS aG 1 [] [] ?_
 refine aO ?_
 refine aO ?_
 refine aT aG 3 ?_
 refine bI 1 ?_
 obtain ⟨x1, hx2, h0⟩ := aW h0
 refine dS (zK f0 _ hx2) hO ?_
 intro H hO
 refine bC ?_
 refine bP [] [(10, (aJ (!x1)))] ?_
 refine bE h0 (fun h0 => ?_) (fun h0 => ?_)
 ·refine cH aG 1 [(4, (eI (0 : Int)))] ?_
  refine bL ?_
  obtain rfl := oI h0
  exact aH (bB (Q_r hO))
 refine bG ?_
 refine bD [(0, (eL aE f0)), (1, (eI t1))] ?_
 refine aS aG 1 [] [(5, (eI (0 : Int)))] ?_
 refine dA (fun T H => ∃ v5 : Int, Has T [(5, (eI v5))] ∧ aK ⟨H0, [], []⟩ H [] ∧ zO v5 = some r) ?_ ?_
 ·clear hO h0
  rintro T H ⟨v5, hT, hO, h0⟩
  refine aY hT ?_
  clear hT
  unfold zO at h0
  refine cH aG 2 [(4, (eI v5))] ?_
  refine bL ?_
  obtain rfl := oI h0
  exact aH (Q_r hO)
 refine aS aG 3 [0] [(11, (eL aE f0)), (12, (eI (lN f0))), (13, (eI (0 : Int)))] ?_
 refine bN 0 ?_
 refine dK [(1, (eI t1)), (5, (eI (0 : Int))), (11, (eL aE f0)), (12, (eI (lN f0))), (13, (eI (0 : Int)))] ?_
 refine cQ (fun T H => ∃ v5 : Int, ∃ t11 : (List aB), ∃ t12 : Int, ∃ t13 : Int, Has T [(1, (eI t1)), (5, (eI v5)), (11, (eL aE t11)), (12, (eI t12)), (13, (eI t13))] ∧ aK ⟨H0, [], []⟩ H [] ∧ FG t1 v5 t11 t12 t13 = some r) ?_ ⟨(0 : Int), f0, (lN f0), (0 : Int), .eq (by kernel_rfl), hO, h0⟩
 clear hO h0
 rintro T H ⟨v5, t11, t12, t13, hT, hO, h0⟩
 refine aY hT ?_
 clear hT
 unfold FG at h0
 obtain ⟨rr0, hl0, h0⟩ := aW h0
 refine cB (by kernel_rfl) (fun (s : Int × Int) T H => Has T [(1, (eI t1)), (5, (eI s.1)), (11, (eL aE t11)), (12, (eI t12)), (13, (eI s.2))] ∧ aK ⟨H0, [], []⟩ H []) hl0 ⟨.eq (by kernel_rfl), hO⟩ ?_
 clear hO
 rintro k0 s out1 T H ⟨hT, hO⟩ h1 ho0
 obtain ⟨v5, t13⟩ := s
 replace h1 : sP t1 t11 t12 v5 t13 = some out1 := h1
 try dsimp only at hT
 refine aY hT ?_
 clear hT
 unfold sP at h1
 refine aS aG 1 [] [(14, (aJ (decide (t13 < t12))))] ?_
 refine aO ?_
 refine bE h1 (fun h1 => ?_) (fun h1 => ?_)
 ·refine bG ?_
  refine bD [(1, (eI t1)), (5, (eI v5)), (11, (eL aE t11)), (12, (eI t12)), (13, (eI t13))] ?_
  refine aO ?_
  refine bN 1 ?_
  refine aO ?_
  refine aT aG 4 ?_
  obtain ⟨c6, h1⟩ := aX h1
  refine BC 2 [0 ≤ t13 ∧ t13 < (lN t11)] ⟨c6, trivial⟩ ?_
  refine tE 2 (aE (aB.mk 0 0)) (by kernel_rfl) (by kernel_rfl) hO ?_
  intro lo7 H hO
  refine rK 0 lo7 2 0 (aE (aB.mk 0 0)) (aE (gD t11 t13)) [(aE (aB.mk 0 0))] [(lo7, 2, [(aE (gD t11 t13))])] hO rfl (by kernel_rfl) ?_
  intro H hO
  refine dG ?_
  refine bP [] [(7, (.lp lo7 0 0))] ?_
  refine aO ?_
  refine aO ?_
  refine aT aG 4 ?_
  refine bI 1 ?_
  refine uC 0 lo7 2 0 (aE (gD t11 t13)) (eI ((gD t11 t13).At)) [(aE (gD t11 t13))] hO rfl ?_
  refine bC ?_
  refine bP [] [(20, (aJ (decide (t1 < ((gD t11 t13).At)))))] ?_
  refine bE h1 (fun h1 => ?_) (fun h1 => ?_)
  ·refine dW 0 ?_
   replace hO := hO.pick (L' := []) [] (by decide) (by kernel_rfl)
   obtain rfl := oI h1
   obtain rfl : _ = rr0 := ho0
   replace h0 : zO v5 = some r := h0
   exact aH (aR (vF (by kernel_rfl) (aR (aR (bF (aF (⟨rfl, _, .eq (by kernel_rfl), hO, h0⟩)))))))
  refine bG ?_
  refine bD [(1, (eI t1)), (5, (eI v5)), (7, (.lp lo7 0 0)), (11, (eL aE t11)), (12, (eI t12)), (13, (eI t13))] ?_
  refine aT aG 5 ?_
  refine bI 2 ?_
  refine uC 0 lo7 2 0 (aE (gD t11 t13)) (eI ((gD t11 t13).Net)) [(aE (gD t11 t13))] hO rfl ?_
  refine bC ?_
  refine gV [(1, (eI t1)), (5, (eI (wR (v5 + ((gD t11 t13).Net))))), (11, (eL aE t11)), (12, (eI t12)), (13, (eI t13))] ?_
  replace hO := hO.pick (L' := []) [] (by decide) (by kernel_rfl)
  refine aH (aU (aF (?_)))
  refine aT aG 2 ?_
  refine bC ?_
  exact aH (aF (⟨rfl, _, (oI h1).symm, .eq (by kernel_rfl), hO⟩))
 refine dW 0 ?_
 obtain rfl := oI h1
 obtain rfl : _ = rr0 := ho0
 replace h0 : zO v5 = some r := h0
 exact aH (aR (aR (bF (aF (⟨rfl, _, .eq (by kernel_rfl), hO, h0⟩)))))

theorem AZ (s0 : (List aI)) (r : (List aI)) (h0 : iY s0 = some r) : CM Tryz.prog 15 [(eL aN s0)] (fun lo => (.msl 3 lo 0 (List.length r))) 3 (List.map aN r) := by
 intro H0
 refine cP Tryz.func15 ?_
 have hO := aK.start H0
 unfold iY at h0
 refine aS aG 1 [] [] ?_
 refine aO ?_
 refine aO ?_
 refine aT aG 2 ?_
 refine bI 1 ?_
 refine aBx false (List.length s0) (fun i => aN (List.getD s0 i default)) (by kernel_rfl) (by kernel_rfl) ?_
 intro b1 hn2
 refine dG ?_
 refine bP [] [(4, (aJ b1))] ?_
 refine rG (b1) (fun hc3 => ?_) (fun hc3 => ?_)
 ·replace h0 : some ([] : List aI) = some r := by
   have hl := List.eq_nil_of_length_eq_zero (hn2 hc3)
   rw [hl] at h0
   exact (aX h0).2
  refine cH aG 1 [(2, (.sl true 0 (fun _ => .bad)))] ?_
  refine bL ?_
  refine gV [(2, (.sl true 0 (fun _ => .bad)))] ?_
  refine QU (el := (fun _ => .bad)) 0 2 3 hO (by kernel_rfl) ?_
  intro lo4 H5 hO
  obtain rfl := oI h0
  exact aH (bB (mB (x := (.msl 3 lo4 0 (List.length ([] : List aI)))) (by kernel_rfl) (aL.refl _) ⟨lo4, rfl, hO⟩))
 ·refine bG ?_
  refine bD [(0, (eL aN s0))] ?_
  refine aO ?_
  refine aT aG 4 ?_
  refine rX (xs := []) (k := 3) (by kernel_rfl) (by kernel_rfl) ?_
  refine bI 2 ?_
  obtain ⟨c7, h0⟩ := aX h0
  refine RV (e := aN) s0 (fun _ => .bad) 3 32 (eL aN s0) (fun lo6 => [(lo6, 3, List.map aN s0)]) (by kernel_rfl) (by kernel_rfl) hO (HP (fun _ => by kernel_rfl)) c7 (fun _ => by kernel_rfl) ?_
  intro lo6 H hO
  refine bC ?_
  refine bD [(2, (.msl 3 lo6 0 (List.length s0)))] ?_
  refine bL ?_
  obtain rfl := oI h0
  exact aH (mB (x := (.msl 3 lo6 0 (List.length s0))) (by kernel_rfl) (aL.refl _) ⟨lo6, rfl, hO⟩)

theorem SF (t0 : Int) (t1 : (List bZ)) (r : (List cU)) (h0 : vP t0 t1 = some r) : cO Tryz.prog 13 [(eI t0), (.rp (eL cC t1))] (eL dL r) := by
 intro H0
 refine cP Tryz.func13 ?_
 have hO := aK.start H0
 unfold vP at h0
 refine aS aG 1 [] [] ?_
 refine aO ?_
 refine aT aG 2 ?_
 refine rX (xs := []) (k := 2) (by kernel_rfl) (by kernel_rfl) ?_
 refine bC ?_
 refine bP [] [(4, (.sl true 0 (fun _ => .bad)))] ?_
 refine dA (fun T H => ∃ out4 : List cU, ∃ lo1 : Nat, Has T [(4, (.msl 2 lo1 0 (List.length out4)))] ∧ aK ⟨H0, [], []⟩ H [(lo1, 2, List.map dL out4)] ∧ yA out4 = some r) ?_ ?_
 ·clear hO h0
  rintro T H ⟨out4, lo1, hT, hO, h0⟩
  refine aY hT ?_
  clear hT
  unfold yA at h0
  refine cH aG 2 [(3, (.msl 2 lo1 0 (List.length out4)))] ?_
  refine bL ?_
  refine gV [(3, (.msl 2 lo1 0 (List.length out4)))] ?_
  refine BM (en := dL) out4 0 0 3 2 lo1 (List.length out4) hO (by kernel_rfl) (by kernel_rfl) (by kernel_rfl) (L' := []) (by kernel_rfl) ?_
  intro H2 hO
  obtain rfl := oI h0
  exact aH (Q_r hO)
 refine aS aG 3 [1] [(9, (eL cC t1)), (10, (eI (lN t1))), (11, (eI (0 : Int)))] ?_
 refine bN 0 ?_
 refine dK [(0, (eI t0)), (4, (.sl true 0 (fun _ => .bad))), (9, (eL cC t1)), (10, (eI (lN t1))), (11, (eI (0 : Int)))] ?_
 refine IK (el := (fun _ => .bad)) 1 4 2 hO (by kernel_rfl) ?_
 intro lo21 H22 hO
 refine cQ (fun T H => ∃ out4 : List cU, ∃ t9 : (List bZ), ∃ t10 : Int, ∃ t11 : Int, ∃ lo4 : Nat, Has T [(0, (eI t0)), (4, (.msl 2 lo4 0 (List.length out4))), (9, (eL cC t9)), (10, (eI t10)), (11, (eI t11))] ∧ aK ⟨H0, [], []⟩ H [(lo4, 2, List.map dL out4)] ∧ xW t0 out4 t9 t10 t11 = some r) ?_ ⟨([] : List cU), t1, (lN t1), (0 : Int), lo21, .eq (by kernel_rfl), hO, h0⟩
 clear hO h0
 rintro T H ⟨out4, t9, t10, t11, lo4, hT, hO, h0⟩
 refine aY hT ?_
 clear hT
 unfold xW at h0
 obtain ⟨rr0, hl0, h0⟩ := aW h0
 refine cB (by kernel_rfl) (fun (s : List cU × Int) T H => ∃ lo4 : Nat, Has T [(0, (eI t0)), (4, (.msl 2 lo4 0 (List.length s.1))), (9, (eL cC t9)), (10, (eI t10)), (11, (eI s.2))] ∧ aK ⟨H0, [], []⟩ H [(lo4, 2, List.map dL s.1)]) hl0 ⟨lo4, .eq (by kernel_rfl), hO⟩ ?_
 clear hO
 rintro k0 s out1 T H ⟨lo4, hT, hO⟩ h1 ho0
 obtain ⟨out4, t11⟩ := s
 replace h1 : rD t0 t9 t10 out4 t11 = some out1 := h1
 try dsimp only at hT
 refine aY hT ?_
 clear hT
 unfold rD at h1
 refine aS aG 1 [] [(12, (aJ (decide (t11 < t10))))] ?_
 refine aO ?_
 refine bE h1 (fun h1 => ?_) (fun h1 => ?_)
 ·refine bG ?_
  refine bD [(0, (eI t0)), (4, (.msl 2 lo4 0 (List.length out4))), (9, (eL cC t9)), (10, (eI t10)), (11, (eI t11))] ?_
  refine dA (fun T H => ∃ out4 : List cU, ∃ lo6 : Nat, Has T [(0, (eI t0)), (4, (.msl 2 lo6 0 (List.length out4))), (9, (eL cC t9)), (10, (eI t10)), (11, (eI t11))] ∧ aK ⟨H0, [], []⟩ H [(lo6, 2, List.map dL out4)] ∧ tA t0 out4 t9 t10 t11 = some out1) ?_ ?_
  ·clear hO h1
   rintro T H ⟨out4, lo6, hT, hO, h1⟩
   refine aY hT ?_
   clear hT
   unfold tA at h1
   refine aT aG 2 ?_
   refine bC ?_
   exact aH (aF (⟨rfl, _, (oI h1).symm, _, .eq (by kernel_rfl), hO⟩))
  refine bN 1 ?_
  refine aO ?_
  refine aT aG 4 ?_
  obtain ⟨c7, h1⟩ := aX h1
  refine BC 2 [0 ≤ t11 ∧ t11 < (lN t9)] ⟨c7, trivial⟩ ?_
  refine BG 2 (.agg [(.sl true 0 (fun _ => .bad)), (.sl true 0 (fun _ => .bad))]) (cC (bZ.mk ([]) ([]))) (by kernel_rfl) (by kernel_rfl) (by kernel_rfl) (XA (xs := [(.sl true 0 (fun _ => .bad)), (.sl true 0 (fun _ => .bad))]) (ys := [(eL aN ([])), (eL aE ([]))]) ⟨kL, kL, trivial⟩) (by kernel_rfl) (by kernel_rfl) hO ?_
  intro lo8 H hO
  refine rK 1 lo8 2 0 (cC (bZ.mk ([]) ([]))) (cC (gD t9 t11)) [(cC (bZ.mk ([]) ([])))] [(lo4, 2, List.map dL out4), (lo8, 2, [(cC (gD t9 t11))])] hO rfl (by kernel_rfl) ?_
  intro H hO
  refine dG ?_
  refine bP [] [(6, (.lp lo8 0 0))] ?_
  refine aO ?_
  refine aT aG 5 ?_
  refine bI 1 ?_
  refine uC 1 lo8 2 0 (cC (gD t9 t11)) (eL aE ((gD t9 t11).jumps)) [(cC (gD t9 t11))] hO rfl ?_
  refine bI 3 ?_
  obtain ⟨x9, hx10, h1⟩ := aW h1
  refine dS (aCt ((gD t9 t11).jumps) t0 _ hx10) hO ?_
  intro H hO
  refine bC ?_
  refine bP [] [(7, (eI x9))] ?_
  refine aS aG 2 [] [(20, (aJ (decide ((0 : Int) < x9))))] ?_
  refine bE h1 (fun h1 => ?_) (fun h1 => ?_)
  ·refine aT aG 9 ?_
   refine bI 2 ?_
   refine uC 1 lo8 2 0 (cC (gD t9 t11)) (eL aN ((gD t9 t11).row)) [(cC (gD t9 t11))] hO rfl ?_
   obtain ⟨x16, hx17, h1⟩ := aW h1
   refine HT (L' := fun lo18 => [(lo4, 2, List.map dL out4), (lo8, 2, [(cC (gD t9 t11))]), (lo18, 3, List.map aN x16)]) 3 (List.map aN x16) 15 [(eL aN ((gD t9 t11).row))] (fun lo18 => (.msl 3 lo18 0 (List.length x16))) (by kernel_rfl) (by kernel_rfl) (AZ ((gD t9 t11).row) _ hx17) hO (fun _ => by kernel_rfl) ?_
   intro lo18 H hO
   refine bI 5 ?_
   refine BO (e := aN) x16 2 24 3 lo18 (List.length x16) [(lo4, 2, List.map dL out4), (lo8, 2, [(cC (gD t9 t11))])] (by kernel_rfl) hO (by kernel_rfl) (by kernel_rfl) (by kernel_rfl) (by kernel_rfl) ?_
   intro H hO
   refine bI 6 ?_
   refine rX (xs := [(dL (cU.mk x16 x9))]) (k := 2) (by kernel_rfl) (by kernel_rfl) ?_
   obtain ⟨c20, h1⟩ := aX h1
   refine zP (e := dL) out4 ([cU.mk x16 x9]) 0 lo4 2 32 (kD [(dL (cU.mk x16 x9))]) (fun lo19 => [(lo19, 2, List.map dL (out4 ++ ([cU.mk x16 x9]))), (lo8, 2, [(cC (gD t9 t11))])]) (by kernel_rfl) (by kernel_rfl) hO (by kernel_rfl) (by kernel_rfl) c20 (fun _ => by kernel_rfl) ?_
   intro lo19 H hO
   refine bC ?_
   replace hO := hO.pick (L' := [(lo19, 2, List.map dL (out4 ++ ([cU.mk x16 x9])))]) [0] (by decide) (by kernel_rfl)
   exact aH (aU (aF (⟨rfl, _, _, .eq (by kernel_rfl), hO, h1⟩)))
  refine bG ?_
  replace hO := hO.pick (L' := [(lo4, 2, List.map dL out4)]) [0] (by decide) (by kernel_rfl)
  exact aH (aU (aF (⟨rfl, _, _, .eq (by kernel_rfl), hO, h1⟩)))
 refine dW 0 ?_
 obtain rfl := oI h1
 obtain rfl : _ = rr0 := ho0
 replace h0 : yA out4 = some r := h0
 exact aH (aR (aR (bF (aF (⟨rfl, _, _, .eq (by kernel_rfl), hO, h0⟩)))))

theorem KX (l0 : (List aC)) (cJ : Int) (r : ((List bX) × Int)) (h0 : vQ l0 cJ = some r) : cO Tryz.prog 6 [(eL aD l0), (eI cJ)] (.tup [(eL cR r.1), (eI r.2)]) := by
 intro H0
 refine ND aG Tryz.func6 (by kernel_rfl) (by kernel_rfl) (by kernel_rfl) ?_
 have hO := aK.start H0
 unfold vQ at h0
 refine aS aG 2 [] [] ?_
 refine aO ?_
 refine aT aG 8 ?_
 refine bI 2 ?_
 obtain ⟨x1, hx2, h0⟩ := aW h0
 refine dS (NP l0 cJ _ hx2) hO ?_
 intro H hO
 refine bC ?_
 refine bP [1] [(6, (eL (eI) x1.1)), (7, (eI x1.2))] ?_
 refine aO ?_
 refine aS aG 2 [] [(24, (aJ (!decide (x1.2 = (0 : Int)))))] ?_
 refine bE h0 (fun h0 => ?_) (fun h0 => ?_)
 ·refine cH aG 3 [(4, (.sl true 0 (fun _ => .bad))), (5, (eI x1.2))] ?_
  refine bL ?_
  refine cA (l := [(4, (eL cR ([]))), (5, (eI x1.2))]) ⟨[(4, (.sl true 0 (fun _ => .bad))), (5, (eI x1.2))], by kernel_rfl, rfl, ⟨kL, aL.refl _, trivial⟩⟩ ?_
  obtain rfl := oI h0
  exact aH (bB (QM0 (.inr rfl) (rs := [.tmp 4, .tmp 5]) (xs := [(eL cR ([])), (eI x1.2)]) (x := (.tup [(eL cR ([])), (eI x1.2)])) (by kernel_rfl) (IM (x := (eL cR ([]))) (by kernel_rfl) (IM (x := (eI x1.2)) (by kernel_rfl) yD)) (by kernel_rfl) ⟨rfl, hO.out⟩))
 refine bG ?_
 refine bD [(0, (eL aD l0)), (6, (eL (eI) x1.1))] ?_
 refine aO ?_
 refine aT aG 3 ?_
 refine rX (xs := []) (k := 2) (by kernel_rfl) (by kernel_rfl) ?_
 refine BG 1 (.sl true 0 (fun _ => .bad)) (eL cC ([])) (by kernel_rfl) (by kernel_rfl) (by kernel_rfl) (kL) (by kernel_rfl) (by kernel_rfl) hO ?_
 intro lo5 H hO
 refine aBZ 26 2 (fun _ => .bad) (by kernel_rfl) hO (by kernel_rfl) ?_
 intro lo6 H hO
 refine rK 0 lo5 1 0 (eL cC ([])) (.msl 2 lo6 0 (List.length ([] : List bZ))) [(eL cC ([]))] [(lo5, 1, [(.msl 2 lo6 0 (List.length ([] : List bZ)))]), (lo6, 2, List.map cC ([] : List bZ))] hO rfl (by kernel_rfl) ?_
 intro H hO
 refine dG ?_
 refine bP [] [(8, (.lp lo5 0 0))] ?_
 refine aO ?_
 refine aO ?_
 refine aT aG 2 ?_
 refine bI 1 ?_
 obtain ⟨x7, hx8, h0⟩ := aW h0
 refine dS (UI l0 _ hx8) hO ?_
 intro H hO
 refine dG ?_
 refine bP [0] [(28, (.fn (.func 37) [] [(.rp (eL aD x7))]))] ?_
 refine bN 0 ?_
 refine dK [(6, (eL (eI) x1.1)), (8, (.lp lo5 0 0)), (28, (.fn (.func 37) [] [(.rp (eL aD x7))]))] ?_
 refine cQ (fun T H => ∃ eV : (List Int), ∃ all8 : List bZ, ∃ zM : (List aC), ∃ lo9 : Nat, Has T [(6, (eL (eI) eV)), (8, (.lp lo5 0 0)), (28, (.fn (.func 37) [] [(.rp (eL aD zM))]))] ∧ aK ⟨H0, [], []⟩ H [(lo5, 1, [(.msl 2 lo9 0 (List.length all8))]), (lo9, 2, List.map cC all8)] ∧ AR eV all8 zM = some r) ?_ ⟨x1.1, ([] : List bZ), x7, lo6, .eq (by kernel_rfl), hO, h0⟩
 clear hO h0
 rintro T H ⟨eV, all8, zM, lo9, hT, hO, h0⟩
 refine aY (l := [(6, (eL (eI) eV)), (8, (.lp lo5 0 0)), (28, (.fn (.func 37) [] [(.rp (eL aD zM))]))]) hT ?_
 clear hT
 unfold AR at h0
 obtain ⟨o0, hl0, h0⟩ := aW h0
 refine IQ (fid := 37) (ys := []) (cs := [(.rp (eL aD zM))]) #[29, 30] (fun (A : FL) (b lL : Nat) (st : (List bZ) ⊕ (List bZ)) (G' : Gs) => Sum.elim (fun (s : List bZ) => ∃ lo9 : Nat, G' = (lL, .raw (qC b A .ready none)) :: (up [(lo5, 1, [(.msl 2 lo9 0 (List.length s))]), (lo9, 2, List.map cC s)] ++ [])) (fun (s : List bZ) => False) st) (.inl all8) o0 (.tup []) (by kernel_rfl) (by kernel_rfl) (by kernel_rfl) hO (fun _ _ => ⟨lo9, rfl⟩) ?_ ?_
 ·intro b lL
  clear hO h0
  refine NG _ b (fun st t29 t30 => rnd (fun (s : List bZ) => rV eV zM s t29 t30) st) ?_ zM _ _ hl0
  intro st t29 t30 out1 rr hr
  obtain ⟨s, rfl, h1, rfl⟩ := aBw hr
  clear hr
  intro Hr Gr hi hg
  obtain ⟨all8, rfl⟩ : ∃ x, x = s := ⟨_, rfl⟩
  dsimp only [Sum.elim_inl] at hi
  obtain ⟨lo9, rfl⟩ := hi
  replace h1 : rV eV zM all8 t29 t30 = some out1 := h1
  unfold rV at h1
  obtain ⟨E1, hE, hO⟩ := DV hg
  refine DY (JG (hO.gm 0 _ rfl).2 (by kernel_rfl) (by kernel_rfl) ?_)
  refine dK [(6, (eL (eI) eV)), (8, (.lp lo5 0 0)), (28, (.fn (.func 37) [] [(.rp (eL aD zM))])), (29, (eL aN t29)), (30, (eL aE t30))] ?_
  refine aS aG 1 [6, 28, 29] [(9, (eL aN t29))] ?_
  refine aT aG 1 ?_
  refine bC ?_
  refine gV [(8, (.lp lo5 0 0)), (9, (eL aN t29)), (10, (eL aE t30))] ?_
  refine aH (⟨rfl, rfl, (hO.gm 0 _ rfl).2, ?_⟩)
  intro o1 ho1
  replace hO := hO.yS o1
  refine bN 1 ?_
  refine aT aG 7 ?_
  refine uC 0 lo5 1 0 (.msl 2 lo9 0 (List.length all8)) (.msl 2 lo9 0 (List.length all8)) [(.msl 2 lo9 0 (List.length all8))] hO rfl ?_
  refine bI 4 ?_
  refine rX (xs := [(cC (bZ.mk t29 t30))]) (k := 2) (by kernel_rfl) (by kernel_rfl) ?_
  obtain ⟨c11, h1⟩ := aX h1
  refine zP (e := cC) all8 ([bZ.mk t29 t30]) 1 lo9 2 48 (kD [(cC (bZ.mk t29 t30))]) (fun lo10 => [(lo5, 1, [(.msl 2 lo9 0 (List.length all8))]), (lo10, 2, List.map cC (all8 ++ ([bZ.mk t29 t30])))]) (by kernel_rfl) (by kernel_rfl) hO (by kernel_rfl) (by kernel_rfl) c11 (fun _ => by kernel_rfl) ?_
  intro lo10 H hO
  refine rK 0 lo5 1 0 (.msl 2 lo9 0 (List.length all8)) (.msl 2 lo10 0 (List.length (all8 ++ ([bZ.mk t29 t30])))) [(.msl 2 lo9 0 (List.length all8))] [(lo5, 1, [(.msl 2 lo10 0 (List.length (all8 ++ ([bZ.mk t29 t30]))))]), (lo10, 2, List.map cC (all8 ++ ([bZ.mk t29 t30])))] hO rfl (by kernel_rfl) ?_
  intro H hO
  refine dG ?_
  refine gV [(8, (.lp lo5 0 0))] ?_
  obtain rfl := oI h1
  exact aH (aU (⟨(nC hO hE ho1 .dead).1, rfl, _, ⟨lo10, rfl⟩, (nC hO hE ho1 _).2⟩))
 ·intro b lD12 lL H' G' hi hO
  rcases o0 with s | s
  ·dsimp only [Sum.elim_inl] at hi
   obtain ⟨lo9, rfl⟩ := hi
   replace h0 : (xB eV s ([] : List bX) eV (lN eV) (0 : Int)) = some r := h0
   obtain ⟨hlL, hO⟩ := wA hO
   refine ⟨_, _, hlL, (by intro e; cases e), ?_⟩
   refine gV [(6, (eL (eI) eV)), (8, (.lp lo5 0 0))] ?_
   refine aH (aU (aF (?_)))
   refine aO ?_
   refine QO (e := cC) s 0 1 1 2 lo5 lo9 (List.length s) [(lo5, 1, [(eL cC s)])] hO (by kernel_rfl) (by kernel_rfl) (by kernel_rfl) (.inr (by decide)) (by kernel_rfl) ?_
   intro H hO
   refine dK [(6, (eL (eI) eV)), (8, (.lp lo5 0 0))] ?_
   refine LR 1 0 8 1 lo5 (eL cC s) [] hO (by kernel_rfl) (by kernel_rfl) (by kernel_rfl) ?_
   intro H hO
   refine aT aG 2 ?_
   refine bC ?_
   refine bP [8] [(11, (.fn (.func 13) [] [(.rp (eL cC s))]))] ?_
   refine aO ?_
   refine aT aG 2 ?_
   refine rX (xs := []) (k := 3) (by kernel_rfl) (by kernel_rfl) ?_
   refine bC ?_
   refine bP [] [(12, (.sl true 0 (fun _ => .bad)))] ?_
   refine dA (fun T H => ∃ eU : List bX, ∃ lo13 : Nat, Has T [(12, (.msl 3 lo13 0 (List.length eU)))] ∧ aK ⟨H0, [], (lD12, .raw BF) :: []⟩ H [(lo13, 3, List.map cR eU)] ∧ AV eU = some r) ?_ ?_
   ·clear hO h0
    rintro T H ⟨eU, lo13, hT, hO, h0⟩
    refine aY hT ?_
    clear hT
    unfold AV at h0
    refine cH aG 3 [(4, (.msl 3 lo13 0 (List.length eU))), (5, (eI (0 : Int)))] ?_
    refine bL ?_
    refine gV [(4, (.msl 3 lo13 0 (List.length eU))), (5, (eI (0 : Int)))] ?_
    refine BM (en := cR) eU 0 0 4 3 lo13 (List.length eU) hO (by kernel_rfl) (by kernel_rfl) (by kernel_rfl) (L' := []) (by kernel_rfl) ?_
    intro H14 hO
    obtain rfl := oI h0
    have hD := (hO.gm 0 _ rfl).2
    replace hO := (hO.yS .dead).xY
    exact aH (QM1 (.inr rfl) hD (rs := [.tmp 4, .tmp 5]) (xs := [(eL cR eU), (eI (0 : Int))]) (x := (.tup [(eL cR eU), (eI (0 : Int))])) (by kernel_rfl) (IM (x := (eL cR eU)) (by kernel_rfl) (IM (x := (eI (0 : Int))) (by kernel_rfl) yD)) (by kernel_rfl) ⟨rfl, hO.out⟩)
   refine aS aG 3 [] [(39, (eL (eI) eV)), (40, (eI (lN eV))), (41, (eI (0 : Int)))] ?_
   refine bN 2 ?_
   refine dK [(6, (eL (eI) eV)), (11, (.fn (.func 13) [] [(.rp (eL cC s))])), (12, (.sl true 0 (fun _ => .bad))), (39, (eL (eI) eV)), (40, (eI (lN eV))), (41, (eI (0 : Int)))] ?_
   refine IK (el := (fun _ => .bad)) 2 12 3 hO (by kernel_rfl) ?_
   intro lo30 H31 hO
   refine cQ (fun T H => ∃ gI : (List bZ), ∃ eU : List bX, ∃ t39 : (List Int), ∃ t40 : Int, ∃ t41 : Int, ∃ lo16 : Nat, Has T [(6, (eL (eI) eV)), (11, (.fn (.func 13) [] [(.rp (eL cC gI))])), (12, (.msl 3 lo16 0 (List.length eU))), (39, (eL (eI) t39)), (40, (eI t40)), (41, (eI t41))] ∧ aK ⟨H0, [], (lD12, .raw BF) :: []⟩ H [(lo16, 3, List.map cR eU)] ∧ xB eV gI eU t39 t40 t41 = some r) ?_ ⟨s, ([] : List bX), eV, (lN eV), (0 : Int), lo30, .eq (by kernel_rfl), hO, h0⟩
   clear hO h0
   rintro T H ⟨gI, eU, t39, t40, t41, lo16, hT, hO, h0⟩
   refine aY hT ?_
   clear hT
   unfold xB at h0
   obtain ⟨rr0, hl0, h0⟩ := aW h0
   refine cB (by kernel_rfl) (fun (s : List bX × Int) T H => ∃ lo16 : Nat, Has T [(6, (eL (eI) eV)), (11, (.fn (.func 13) [] [(.rp (eL cC gI))])), (12, (.msl 3 lo16 0 (List.length s.1))), (39, (eL (eI) t39)), (40, (eI t40)), (41, (eI s.2))] ∧ aK ⟨H0, [], (lD12, .raw BF) :: []⟩ H [(lo16, 3, List.map cR s.1)]) hl0 ⟨lo16, .eq (by kernel_rfl), hO⟩ ?_
   clear hO
   rintro k0 s out1 T H ⟨lo16, hT, hO⟩ h1 ho0
   obtain ⟨eU, t41⟩ := s
   replace h1 : rT eV gI t39 t40 eU t41 = some out1 := h1
   try dsimp only at hT
   refine aY hT ?_
   clear hT
   unfold rT at h1
   refine aS aG 1 [] [(42, (aJ (decide (t41 < t40))))] ?_
   refine aO ?_
   refine bE h1 (fun h1 => ?_) (fun h1 => ?_)
   ·refine bG ?_
    refine bD [(6, (eL (eI) eV)), (11, (.fn (.func 13) [] [(.rp (eL cC gI))])), (12, (.msl 3 lo16 0 (List.length eU))), (39, (eL (eI) t39)), (40, (eI t40)), (41, (eI t41))] ?_
    refine dA (fun T H => ∃ eU : List bX, ∃ lo18 : Nat, Has T [(6, (eL (eI) eV)), (11, (.fn (.func 13) [] [(.rp (eL cC gI))])), (12, (.msl 3 lo18 0 (List.length eU))), (39, (eL (eI) t39)), (40, (eI t40)), (41, (eI t41))] ∧ aK ⟨H0, [], (lD12, .raw BF) :: []⟩ H [(lo18, 3, List.map cR eU)] ∧ wY eV gI eU t39 t40 t41 = some out1) ?_ ?_
    ·clear hO h1
     rintro T H ⟨eU, lo18, hT, hO, h1⟩
     refine aY hT ?_
     clear hT
     unfold wY at h1
     refine aT aG 2 ?_
     refine bC ?_
     exact aH (aF (⟨rfl, _, (oI h1).symm, _, .eq (by kernel_rfl), hO⟩))
    refine bN 3 ?_
    refine aO ?_
    refine aT aG 5 ?_
    obtain ⟨c19, h1⟩ := aX h1
    refine qL [0 ≤ t41 ∧ t41 < (lN t39)] ⟨c19, trivial⟩ ?_
    refine bP [] [(13, (eI t41)), (14, (eI (gD t39 t41)))] ?_
    refine aO ?_
    refine aT aG 4 ?_
    refine bI 2 ?_
    obtain ⟨x20, hx21, h1⟩ := aW h1
    refine dS (SF (gD t39 t41) gI _ hx21) hO ?_
    intro H hO
    refine bC ?_
    refine bP [] [(15, (eL dL x20))] ?_
    refine aO ?_
    refine aS aG 3 [] [(51, (aJ (decide ((lN x20) = (0 : Int)))))] ?_
    refine bE h1 (fun h1 => ?_) (fun h1 => ?_)
    ·refine dW 3 ?_
     exact aH (aR (bF (aF (⟨rfl, _, _, .eq (by kernel_rfl), hO, h1⟩))))
    refine bG ?_
    refine bD [(6, (eL (eI) eV)), (11, (.fn (.func 13) [] [(.rp (eL cC gI))])), (12, (.msl 3 lo16 0 (List.length eU))), (13, (eI t41)), (14, (eI (gD t39 t41))), (15, (eL dL x20)), (39, (eL (eI) t39)), (40, (eI t40)), (41, (eI t41))] ?_
    refine aO ?_
    refine aS aG 3 [] [(54, (aJ (decide ((lN eU) = (1024 : Int)))))] ?_
    refine bE h1 (fun h1 => ?_) (fun h1 => ?_)
    ·refine aO ?_
     refine aT aG 2 ?_
     refine bC ?_
     refine gV [(4, (.sl true 0 (fun _ => .bad))), (5, (eI (7 : Int)))] ?_
     replace hO := hO.pick (L' := []) [] (by decide) (by kernel_rfl)
     refine aH (aF (?_))
     refine bL ?_
     refine cA (l := [(4, (eL cR ([]))), (5, (eI (7 : Int)))]) ⟨[(4, (.sl true 0 (fun _ => .bad))), (5, (eI (7 : Int)))], by kernel_rfl, rfl, ⟨kL, aL.refl _, trivial⟩⟩ ?_
     obtain rfl := oI h1
     obtain rfl : _ = rr0 := ho0
     replace h0 : some ([], (7 : Int)) = some r := h0
     obtain rfl := oI h0
     have hD := (hO.gm 0 _ rfl).2
     replace hO := (hO.yS .dead).xY
     exact aH (bB (bT (bB (bB (bT (bB (QM1 (.inr rfl) hD (rs := [.tmp 4, .tmp 5]) (xs := [(eL cR ([])), (eI (7 : Int))]) (x := (.tup [(eL cR ([])), (eI (7 : Int))])) (by kernel_rfl) (IM (x := (eL cR ([]))) (by kernel_rfl) (IM (x := (eI (7 : Int))) (by kernel_rfl) yD)) (by kernel_rfl) ⟨rfl, hO.out⟩)))))))
    refine bG ?_
    refine bD [(6, (eL (eI) eV)), (11, (.fn (.func 13) [] [(.rp (eL cC gI))])), (12, (.msl 3 lo16 0 (List.length eU))), (13, (eI t41)), (14, (eI (gD t39 t41))), (15, (eL dL x20)), (39, (eL (eI) t39)), (40, (eI t40)), (41, (eI t41))] ?_
    refine aS aG 1 [] [(16, (eI (1125899906842624 : Int)))] ?_
    refine dA (fun T H => ∃ eU : List bX, ∃ t14 : Int, ∃ vW : (List cU), ∃ CW : Int, ∃ lo25 : Nat, Has T [(6, (eL (eI) eV)), (11, (.fn (.func 13) [] [(.rp (eL cC gI))])), (12, (.msl 3 lo25 0 (List.length eU))), (14, (eI t14)), (15, (eL dL vW)), (16, (eI CW)), (39, (eL (eI) t39)), (40, (eI t40)), (41, (eI t41))] ∧ aK ⟨H0, [], (lD12, .raw BF) :: []⟩ H [(lo25, 3, List.map cR eU)] ∧ xH eV gI eU t14 vW CW t39 t40 t41 = some out1) ?_ ?_
    ·clear hO h1
     rintro T H ⟨eU, t14, vW, CW, lo25, hT, hO, h1⟩
     refine aY hT ?_
     clear hT
     unfold xH at h1
     refine aT aG 9 ?_
     refine bI 6 ?_
     refine rX (xs := [(cR (bX.mk (lP.mk t14 CW) vW))]) (k := 3) (by kernel_rfl) (by kernel_rfl) ?_
     obtain ⟨c27, h1⟩ := aX h1
     refine zP (e := cR) eU ([bX.mk (lP.mk t14 CW) vW]) 0 lo25 3 40 (kD [(cR (bX.mk (lP.mk t14 CW) vW))]) (fun lo26 => [(lo26, 3, List.map cR (eU ++ ([bX.mk (lP.mk t14 CW) vW])))]) (by kernel_rfl) (by kernel_rfl) hO (by kernel_rfl) (by kernel_rfl) c27 (fun _ => by kernel_rfl) ?_
     intro lo26 H hO
     refine bC ?_
     exact aH (aU (aF (⟨rfl, _, _, .eq (by kernel_rfl), hO, h1⟩)))
    refine aS aG 5 [] [(59, (aJ (decide ((wR (t41 + (1 : Int))) < (lN eV)))))] ?_
    refine bE h1 (fun h1 => ?_) (fun h1 => ?_)
    ·refine aT aG 6 ?_
     obtain ⟨c29, h1⟩ := aX h1
     refine qL [0 ≤ (wR (t41 + (1 : Int))) ∧ (wR (t41 + (1 : Int))) < (lN eV)] ⟨c29, trivial⟩ ?_
     exact aH (aF (⟨rfl, _, _, _, _, _, .eq (by kernel_rfl), hO, h1⟩))
    refine bG ?_
    exact aH (aF (⟨rfl, _, _, _, _, _, .eq (by kernel_rfl), hO, h1⟩))
   refine dW 2 ?_
   obtain rfl := oI h1
   obtain rfl : _ = rr0 := ho0
   replace h0 : AV eU = some r := h0
   exact aH (aR (aR (bF (aF (⟨rfl, _, _, .eq (by kernel_rfl), hO, h0⟩)))))
  ·exact hi.elim

theorem CZ  (r : Bool) (h0 : sS  = some r) : cO Tryz.prog 5 [] (aJ r) := by
 intro H0
 refine cP Tryz.func5 ?_
 have hO := aK.start H0
 unfold sS at h0
 refine cH aG 1 [] ?_
 refine aO ?_
 refine aT aG 3 ?_
 refine bI 1 ?_
 refine rX (xs := [(aN (aI.mk (1 : Int) (1 : Int) ByteArray.empty))]) (k := 3) (by kernel_rfl) (by kernel_rfl) ?_
 refine bC ?_
 refine cA (l := [(1, (eL aN ([aI.mk (1 : Int) (1 : Int) ByteArray.empty])))]) ⟨[(1, (kD [(aN (aI.mk (1 : Int) (1 : Int) ByteArray.empty))]))], by kernel_rfl, rfl, ⟨LK (l := [aI.mk (1 : Int) (1 : Int) ByteArray.empty]), trivial⟩⟩ ?_
 refine aH (aF (?_))
 refine aO ?_
 refine aT aG 3 ?_
 refine bI 1 ?_
 refine rX (xs := [(aN (aI.mk (1 : Int) (2 : Int) ByteArray.empty))]) (k := 3) (by kernel_rfl) (by kernel_rfl) ?_
 refine bC ?_
 refine cA (l := [(1, (eL aN ([aI.mk (1 : Int) (1 : Int) ByteArray.empty]))), (2, (eL aN ([aI.mk (1 : Int) (2 : Int) ByteArray.empty])))]) ⟨[(1, (eL aN ([aI.mk (1 : Int) (1 : Int) ByteArray.empty]))), (2, (kD [(aN (aI.mk (1 : Int) (2 : Int) ByteArray.empty))]))], by kernel_rfl, rfl, ⟨aL.refl _, LK (l := [aI.mk (1 : Int) (2 : Int) ByteArray.empty]), trivial⟩⟩ ?_
 refine aH (aF (?_))
 refine aO ?_
 refine aT aG 10 ?_
 refine bI 8 ?_
 refine rX (xs := [(aD (aC.mk ([aI.mk (1 : Int) (1 : Int) ByteArray.empty]) (2 : Int) (1 : Int))), (aD (aC.mk ([aI.mk (1 : Int) (1 : Int) ByteArray.empty]) (9 : Int) (-1 : Int))), (aD (aC.mk ([aI.mk (1 : Int) (2 : Int) ByteArray.empty]) (5 : Int) (1 : Int))), (aD (aC.mk ([aI.mk (1 : Int) (2 : Int) ByteArray.empty]) (7 : Int) (-1 : Int)))]) (k := 3) (by kernel_rfl) (by kernel_rfl) ?_
 refine bC ?_
 refine cA (l := [(3, (eL aD ([aC.mk ([aI.mk (1 : Int) (1 : Int) ByteArray.empty]) (2 : Int) (1 : Int), aC.mk ([aI.mk (1 : Int) (1 : Int) ByteArray.empty]) (9 : Int) (-1 : Int), aC.mk ([aI.mk (1 : Int) (2 : Int) ByteArray.empty]) (5 : Int) (1 : Int), aC.mk ([aI.mk (1 : Int) (2 : Int) ByteArray.empty]) (7 : Int) (-1 : Int)])))]) ⟨[(3, (kD [(aD (aC.mk ([aI.mk (1 : Int) (1 : Int) ByteArray.empty]) (2 : Int) (1 : Int))), (aD (aC.mk ([aI.mk (1 : Int) (1 : Int) ByteArray.empty]) (9 : Int) (-1 : Int))), (aD (aC.mk ([aI.mk (1 : Int) (2 : Int) ByteArray.empty]) (5 : Int) (1 : Int))), (aD (aC.mk ([aI.mk (1 : Int) (2 : Int) ByteArray.empty]) (7 : Int) (-1 : Int)))]))], by kernel_rfl, rfl, ⟨LK (l := [aC.mk ([aI.mk (1 : Int) (1 : Int) ByteArray.empty]) (2 : Int) (1 : Int), aC.mk ([aI.mk (1 : Int) (1 : Int) ByteArray.empty]) (9 : Int) (-1 : Int), aC.mk ([aI.mk (1 : Int) (2 : Int) ByteArray.empty]) (5 : Int) (1 : Int), aC.mk ([aI.mk (1 : Int) (2 : Int) ByteArray.empty]) (7 : Int) (-1 : Int)]), trivial⟩⟩ ?_
 refine aH (aF (?_))
 refine aO ?_
 refine aT aG 7 ?_
 refine bI 1 ?_
 obtain ⟨x1, hx2, h0⟩ := aW h0
 refine dS (NP ([aC.mk ([aI.mk (1 : Int) (1 : Int) ByteArray.empty]) (2 : Int) (1 : Int), aC.mk ([aI.mk (1 : Int) (1 : Int) ByteArray.empty]) (9 : Int) (-1 : Int), aC.mk ([aI.mk (1 : Int) (2 : Int) ByteArray.empty]) (5 : Int) (1 : Int), aC.mk ([aI.mk (1 : Int) (2 : Int) ByteArray.empty]) (7 : Int) (-1 : Int)]) (0 : Int) _ hx2) hO ?_
 intro H hO
 refine bC ?_
 refine bP [] [(4, (eL (eI) x1.1)), (5, (eI x1.2))] ?_
 refine aO ?_
 refine aT aG 7 ?_
 refine bI 1 ?_
 obtain ⟨x4, hx5, h0⟩ := aW h0
 refine dS (KX ([aC.mk ([aI.mk (1 : Int) (1 : Int) ByteArray.empty]) (2 : Int) (1 : Int), aC.mk ([aI.mk (1 : Int) (1 : Int) ByteArray.empty]) (9 : Int) (-1 : Int), aC.mk ([aI.mk (1 : Int) (2 : Int) ByteArray.empty]) (5 : Int) (1 : Int), aC.mk ([aI.mk (1 : Int) (2 : Int) ByteArray.empty]) (7 : Int) (-1 : Int)]) (0 : Int) _ hx5) hO ?_
 intro H hO
 refine bC ?_
 refine bP [3] [(6, (eL cR x4.1)), (7, (eI x4.2))] ?_
 refine aO ?_
 refine aT aG 39 ?_
 obtain ⟨c7, h0⟩ := aX h0
 obtain ⟨c8, h0⟩ := aX h0
 obtain ⟨c9, h0⟩ := aX h0
 refine qL [(((((decide (x1.2 = (0 : Int))) && (decide (x4.2 = (0 : Int)))) && (decide ((lN x1.1) = (5 : Int))))) = true → 0 ≤ (2 : Int) ∧ (2 : Int) < (lN x1.1)), (((((((decide (x1.2 = (0 : Int))) && (decide (x4.2 = (0 : Int)))) && (decide ((lN x1.1) = (5 : Int)))) && (decide ((gD x1.1 (2 : Int)) = (5 : Int)))) && (decide ((lN x4.1) = (3 : Int))))) = true → 0 ≤ (1 : Int) ∧ (1 : Int) < (lN x4.1)), ((((((((decide (x1.2 = (0 : Int))) && (decide (x4.2 = (0 : Int)))) && (decide ((lN x1.1) = (5 : Int)))) && (decide ((gD x1.1 (2 : Int)) = (5 : Int)))) && (decide ((lN x4.1) = (3 : Int)))) && ((decide ((((gD x4.1 (1 : Int)).Span).From) = ((lP.mk (5 : Int) (7 : Int)).From))) && ((decide ((((gD x4.1 (1 : Int)).Span).To) = ((lP.mk (5 : Int) (7 : Int)).To))) && true)))) = true → 0 ≤ (1 : Int) ∧ (1 : Int) < (lN x4.1))] ⟨c7, c8, c9, trivial⟩ ?_
 refine bD [(0, (aJ (((((((decide (x1.2 = (0 : Int))) && (decide (x4.2 = (0 : Int)))) && (decide ((lN x1.1) = (5 : Int)))) && (decide ((gD x1.1 (2 : Int)) = (5 : Int)))) && (decide ((lN x4.1) = (3 : Int)))) && ((decide ((((gD x4.1 (1 : Int)).Span).From) = ((lP.mk (5 : Int) (7 : Int)).From))) && ((decide ((((gD x4.1 (1 : Int)).Span).To) = ((lP.mk (5 : Int) (7 : Int)).To))) && true))) && (decide ((lN ((gD x4.1 (1 : Int)).Rows)) = (2 : Int))))))] ?_
 refine bL ?_
 obtain rfl := oI h0
 exact aH (Q_r hO)

theorem yF (s0 : (List aC)) (f1_f : Nat) (f1_a f1_c : List V) (f1 : aC → Option Bool) (f1_h : ∀ a0 r, f1 a0 = some r → cO Tryz.prog f1_f (f1_a ++ [(aD a0)] ++ f1_c) (aJ r)) (r : Int) (h0 : jX s0 f1 = some r) : cO Tryz.prog 40 [(eL aD s0), (.fn (.func f1_f) f1_a f1_c)] (eI r) := by
 intro H0
 refine cP Tryz.func40 ?_
 have hO := aK.start H0
 unfold jX at h0
 refine aS aG 1 [] [] ?_
 refine dA (fun T H => Has T [] ∧ aK ⟨H0, [], []⟩ H [] ∧ gC f1  = some r) ?_ ?_
 ·clear hO h0
  rintro T H ⟨hT, hO, h0⟩
  refine aY hT ?_
  clear hT
  unfold gC at h0
  refine cH aG 1 [(4, (eI (-1 : Int)))] ?_
  refine bL ?_
  obtain rfl := oI h0
  exact aH (Q_r hO)
 refine aS aG 3 [] [(7, (eI (lN s0))), (8, (eI (0 : Int)))] ?_
 refine bN 0 ?_
 refine dK [(0, (eL aD s0)), (1, (.fn (.func f1_f) f1_a f1_c)), (7, (eI (lN s0))), (8, (eI (0 : Int)))] ?_
 refine cQ (fun T H => ∃ t7 : Int, ∃ t8 : Int, Has T [(0, (eL aD s0)), (1, (.fn (.func f1_f) f1_a f1_c)), (7, (eI t7)), (8, (eI t8))] ∧ aK ⟨H0, [], []⟩ H [] ∧ jO f1 s0 t7 t8 = some r) ?_ ⟨(lN s0), (0 : Int), .eq (by kernel_rfl), hO, h0⟩
 clear hO h0
 rintro T H ⟨t7, t8, hT, hO, h0⟩
 refine aY hT ?_
 clear hT
 unfold jO at h0
 obtain ⟨rr0, hl0, h0⟩ := aW h0
 refine cB (by kernel_rfl) (fun (s : Int) T H => Has T [(0, (eL aD s0)), (1, (.fn (.func f1_f) f1_a f1_c)), (7, (eI t7)), (8, (eI s))] ∧ aK ⟨H0, [], []⟩ H []) hl0 ⟨.eq (by kernel_rfl), hO⟩ ?_
 clear hO
 rintro k0 s out1 T H ⟨hT, hO⟩ h1 ho0
 obtain ⟨t8, rfl⟩ : ∃ x, x = s := ⟨_, rfl⟩
 replace h1 : jR f1 s0 t7 t8 = some out1 := h1
 refine aY hT ?_
 clear hT
 unfold jR at h1
 refine aS aG 1 [] [(9, (aJ (decide (t8 < t7))))] ?_
 refine aO ?_
 refine bE h1 (fun h1 => ?_) (fun h1 => ?_)
 ·refine bG ?_
  refine bD [(0, (eL aD s0)), (1, (.fn (.func f1_f) f1_a f1_c)), (7, (eI t7)), (8, (eI t8))] ?_
  refine aO ?_
  refine bN 1 ?_
  refine aS aG 2 [] [(5, (eI t8))] ?_
  refine aO ?_
  refine aT aG 6 ?_
  obtain ⟨c2, h1⟩ := aX h1
  refine BC 5 [0 ≤ t8 ∧ t8 < (lN s0)] ⟨c2, trivial⟩ ?_
  obtain ⟨x3, hx4, h1⟩ := aW h1
  refine dS (f1_h (gD s0 t8) _ hx4) hO ?_
  intro H hO
  refine dG ?_
  refine bP [] [(16, (aJ x3))] ?_
  refine bE h1 (fun h1 => ?_) (fun h1 => ?_)
  ·refine cH aG 2 [(4, (eI t8))] ?_
   refine bL ?_
   obtain rfl := oI h1
   obtain rfl : _ = rr0 := ho0
   replace h0 : some t8 = some r := h0
   obtain rfl := oI h0
   exact aH (bT (bB (bB (bT (bB (Q_r hO))))))
  refine bG ?_
  refine gV [(0, (eL aD s0)), (1, (.fn (.func f1_f) f1_a f1_c)), (7, (eI t7)), (8, (eI t8))] ?_
  refine aH (aU (aF (?_)))
  refine aT aG 2 ?_
  refine bC ?_
  exact aH (aF (⟨rfl, _, (oI h1).symm, .eq (by kernel_rfl), hO⟩))
 refine dW 0 ?_
 obtain rfl := oI h1
 obtain rfl : _ = rr0 := ho0
 replace h0 : gC f1  = some r := h0
 exact aH (aR (aR (bF (aF (⟨rfl, .eq (by kernel_rfl), hO, h0⟩)))))

theorem rU (s0 : (List aC)) (f1_f : Nat) (f1_a f1_c : List V) (f1 : aC → Option Bool) (f1_h : ∀ a0 r, f1 a0 = some r → cO Tryz.prog f1_f (f1_a ++ [(aD a0)] ++ f1_c) (aJ r)) (r : Bool) (h0 : eH s0 f1 = some r) : cO Tryz.prog 16 [(eL aD s0), (.fn (.func f1_f) f1_a f1_c)] (aJ r) := by
 intro H0
 refine cP Tryz.func16 ?_
 have hO := aK.start H0
 unfold eH at h0
 refine aS aG 1 [] [] ?_
 refine aO ?_
 refine aT aG 5 ?_
 refine bI 2 ?_
 obtain ⟨x1, hx2, h0⟩ := aW h0
 refine dS (yF s0 f1_f f1_a f1_c f1 f1_h _ hx2) hO ?_
 intro H hO
 refine bC ?_
 refine bD [(4, (aJ (decide ((0 : Int) ≤ x1))))] ?_
 refine bL ?_
 obtain rfl := oI h0
 exact aH (Q_r hO)

theorem UU (x0 : aC) (r : Bool) (h0 : wZ x0 = some r) : cO Tryz.prog 17 [(aD x0)] (aJ r) := by
 intro H0
 refine cP Tryz.func17 ?_
 have hO := aK.start H0
 unfold wZ at h0
 refine aO ?_
 refine aT aG 2 ?_
 refine qG 3 (aD x0) (by kernel_rfl) (by kernel_rfl) ?_
 refine bC ?_
 refine bD [(1, (.rp (aD x0)))] ?_
 refine aO ?_
 refine aT aG 15 ?_
 refine bI 2 ?_
 obtain ⟨x1, hx2, h0⟩ := aW h0
 refine dS (GR x0.Row _ hx2) hO ?_
 intro H hO
 refine bC ?_
 refine bD [(2, (aJ (((!x1) || (decide ((1048576 : Int) < x0.Net))) || (decide (x0.Net < (-1048576 : Int))))))] ?_
 refine bL ?_
 obtain rfl := oI h0
 exact aH (Q_r hO)

theorem UL (x0 : aC) (r : Bool) (h0 : wT x0 = some r) : cO Tryz.prog 19 [(aD x0)] (aJ r) := by
 intro H0
 refine cP Tryz.func19 ?_
 have hO := aK.start H0
 unfold wT at h0
 refine aO ?_
 refine aT aG 2 ?_
 refine qG 3 (aD x0) (by kernel_rfl) (by kernel_rfl) ?_
 refine bC ?_
 refine bD [(1, (.rp (aD x0)))] ?_
 refine cH aG 9 [(2, (aJ ((decide (x0.At < (-1 : Int))) || (decide ((1125899906842624 : Int) < x0.At)))))] ?_
 refine bL ?_
 obtain rfl := oI h0
 exact aH (Q_r hO)

theorem BI (s0 : (List aC)) (r : (List aC)) (h0 : iZ s0 = some r) : CM Tryz.prog 20 [(eL aD s0)] (fun lo => (.msl 3 lo 0 (List.length r))) 3 (List.map aD r) := by
 intro H0
 refine cP Tryz.func20 ?_
 have hO := aK.start H0
 unfold iZ at h0
 refine aS aG 1 [] [] ?_
 refine aO ?_
 refine aO ?_
 refine aT aG 2 ?_
 refine bI 1 ?_
 refine aBx false (List.length s0) (fun i => aD (List.getD s0 i default)) (by kernel_rfl) (by kernel_rfl) ?_
 intro b1 hn2
 refine dG ?_
 refine bP [] [(4, (aJ b1))] ?_
 refine rG (b1) (fun hc3 => ?_) (fun hc3 => ?_)
 ·replace h0 : some ([] : List aC) = some r := by
   have hl := List.eq_nil_of_length_eq_zero (hn2 hc3)
   rw [hl] at h0
   exact (aX h0).2
  refine cH aG 1 [(2, (.sl true 0 (fun _ => .bad)))] ?_
  refine bL ?_
  refine gV [(2, (.sl true 0 (fun _ => .bad)))] ?_
  refine QU (el := (fun _ => .bad)) 0 2 3 hO (by kernel_rfl) ?_
  intro lo4 H5 hO
  obtain rfl := oI h0
  exact aH (bB (mB (x := (.msl 3 lo4 0 (List.length ([] : List aC)))) (by kernel_rfl) (aL.refl _) ⟨lo4, rfl, hO⟩))
 ·refine bG ?_
  refine bD [(0, (eL aD s0))] ?_
  refine aO ?_
  refine aT aG 4 ?_
  refine rX (xs := []) (k := 3) (by kernel_rfl) (by kernel_rfl) ?_
  refine bI 2 ?_
  obtain ⟨c7, h0⟩ := aX h0
  refine RV (e := aD) s0 (fun _ => .bad) 3 40 (eL aD s0) (fun lo6 => [(lo6, 3, List.map aD s0)]) (by kernel_rfl) (by kernel_rfl) hO (HP (fun _ => by kernel_rfl)) c7 (fun _ => by kernel_rfl) ?_
  intro lo6 H hO
  refine bC ?_
  refine bD [(2, (.msl 3 lo6 0 (List.length s0)))] ?_
  refine bL ?_
  obtain rfl := oI h0
  exact aH (mB (x := (.msl 3 lo6 0 (List.length s0))) (by kernel_rfl) (aL.refl _) ⟨lo6, rfl, hO⟩)

theorem rZ (lo0p : Nat) (aA : (List aC)) (a1 : Int) (b2 : Int) (cmp3_f : Nat) (cmp3_a cmp3_c : List V) (cmp3 : aC → aC → Option Int) (cmp3_h : ∀ a0 a1 r, cmp3 a0 a1 = some r → cO Tryz.prog cmp3_f (cmp3_a ++ [(aD a0), (aD a1)] ++ cmp3_c) (eI r)) (r : List aC) (h0 : fT aA a1 b2 cmp3 = some r) : iG Tryz.prog 69 lo0p 3 (List.map aD aA) (List.map aD r) [(.msl 3 lo0p 0 (List.length aA)), (eI a1), (eI b2), (.fn (.func cmp3_f) cmp3_a cmp3_c)] (.tup []) := by
 intro H0 hl0
 refine cP Tryz.func69 ?_
 have hO := aK.nP hl0
 clear hl0
 obtain ⟨N0, hN0⟩ : ∃ n, n = List.length aA := ⟨_, rfl⟩
 have hN : List.length aA = N0 := hN0.symm
 unfold fT at h0
 refine aS aG 3 [] [(8, (eI (wR (a1 + (1 : Int)))))] ?_
 refine bN 0 ?_
 refine dK [(0, (.msl 3 lo0p 0 (List.length aA))), (1, (eI a1)), (2, (eI b2)), (3, (.fn (.func cmp3_f) cmp3_a cmp3_c)), (8, (eI (wR (a1 + (1 : Int)))))] ?_
 refine cQ (fun T H => ∃ aA : List aC, ∃ i8 : Int, Has T [(0, (.msl 3 lo0p 0 (List.length aA))), (1, (eI a1)), (2, (eI b2)), (3, (.fn (.func cmp3_f) cmp3_a cmp3_c)), (8, (eI i8))] ∧ aK ⟨H0, [lo0p], []⟩ H [(lo0p, 3, List.map aD aA)] ∧ List.length aA = N0 ∧ mQ cmp3 aA a1 b2 i8 = some r) ?_ ⟨aA, wR (a1 + (1 : Int)), .eq (by kernel_rfl), hO, hN, h0⟩
 clear hO hN h0
 rintro T H ⟨aA, i8, hT, hO, hN, h0⟩
 refine aY hT ?_
 clear hT
 unfold mQ at h0
 obtain ⟨rr0, hl0, h0⟩ := aW h0
 refine cB (by kernel_rfl) (fun (s : List aC × Int) T H => Has T [(0, (.msl 3 lo0p 0 (List.length s.1))), (1, (eI a1)), (2, (eI b2)), (3, (.fn (.func cmp3_f) cmp3_a cmp3_c)), (8, (eI s.2))] ∧ aK ⟨H0, [lo0p], []⟩ H [(lo0p, 3, List.map aD s.1)] ∧ List.length s.1 = N0) hl0 ⟨.eq (by kernel_rfl), hO, hN⟩ ?_
 clear hO hN
 rintro k0 s out1 T H ⟨hT, hO, hN⟩ h1 ho0
 obtain ⟨aA, i8⟩ := s
 replace h1 : mW cmp3 a1 b2 aA i8 = some out1 := h1
 try dsimp only at hT
 refine aY hT ?_
 clear hT
 unfold mW at h1
 refine aO ?_
 refine aS aG 3 [] [(14, (aJ (decide (i8 < b2))))] ?_
 refine bE h1 (fun h1 => ?_) (fun h1 => ?_)
 ·refine bG ?_
  refine bD [(0, (.msl 3 lo0p 0 (List.length aA))), (1, (eI a1)), (2, (eI b2)), (3, (.fn (.func cmp3_f) cmp3_a cmp3_c)), (8, (eI i8))] ?_
  refine dA (fun T H => ∃ aA : List aC, Has T [(0, (.msl 3 lo0p 0 (List.length aA))), (1, (eI a1)), (2, (eI b2)), (3, (.fn (.func cmp3_f) cmp3_a cmp3_c)), (8, (eI i8))] ∧ aK ⟨H0, [lo0p], []⟩ H [(lo0p, 3, List.map aD aA)] ∧ List.length aA = N0 ∧ iW cmp3 aA a1 b2 i8 = some out1) ?_ ?_
  ·clear hO hN h1
   rintro T H ⟨aA, hT, hO, hN, h1⟩
   refine aY hT ?_
   clear hT
   unfold iW at h1
   refine aT aG 3 ?_
   refine bC ?_
   exact aH (aF (⟨rfl, _, (oI h1).symm, .eq (by kernel_rfl), hO, hN⟩))
  refine bN 1 ?_
  refine aS aG 2 [] [(9, (eI i8))] ?_
  refine bN 2 ?_
  refine dK [(0, (.msl 3 lo0p 0 (List.length aA))), (1, (eI a1)), (2, (eI b2)), (3, (.fn (.func cmp3_f) cmp3_a cmp3_c)), (8, (eI i8)), (9, (eI i8))] ?_
  refine cQ (fun T H => ∃ aA : List aC, ∃ j9 : Int, Has T [(0, (.msl 3 lo0p 0 (List.length aA))), (1, (eI a1)), (2, (eI b2)), (3, (.fn (.func cmp3_f) cmp3_a cmp3_c)), (8, (eI i8)), (9, (eI j9))] ∧ aK ⟨H0, [lo0p], []⟩ H [(lo0p, 3, List.map aD aA)] ∧ List.length aA = N0 ∧ mS cmp3 aA a1 b2 i8 j9 = some out1) ?_ ⟨aA, i8, .eq (by kernel_rfl), hO, hN, h1⟩
  clear hO hN h1
  rintro T H ⟨aA, j9, hT, hO, hN, h1⟩
  refine aY hT ?_
  clear hT
  unfold mS at h1
  obtain ⟨rr1, hl1, h1⟩ := aW h1
  refine cB (by kernel_rfl) (fun (s : List aC × Int) T H => Has T [(0, (.msl 3 lo0p 0 (List.length s.1))), (1, (eI a1)), (2, (eI b2)), (3, (.fn (.func cmp3_f) cmp3_a cmp3_c)), (8, (eI i8)), (9, (eI s.2))] ∧ aK ⟨H0, [lo0p], []⟩ H [(lo0p, 3, List.map aD s.1)] ∧ List.length s.1 = N0) hl1 ⟨.eq (by kernel_rfl), hO, hN⟩ ?_
  clear hO hN
  rintro k1 s out2 T H ⟨hT, hO, hN⟩ h2 ho1
  obtain ⟨aA, j9⟩ := s
  replace h2 : mT cmp3 a1 b2 i8 aA j9 = some out2 := h2
  try dsimp only at hT
  refine aY hT ?_
  clear hT
  unfold mT at h2
  refine aO ?_
  refine aO ?_
  obtain ⟨c2, h2⟩ := aX h2
  obtain ⟨c3, h2⟩ := aX h2
  obtain ⟨x4, hx5, h2⟩ := aW h2
  refine eR (eP []) aG 17 ?_
  refine uF (K := fun T H => Has (lift T) [(0, (.msl 3 lo0p 0 (List.length aA))), (1, (eI a1)), (2, (eI b2)), (3, (.fn (.func cmp3_f) cmp3_a cmp3_c)), (8, (eI i8)), (9, (eI j9)), (34, (aJ ((decide (a1 < j9)) && (decide (x4 < (0 : Int))))))] ∧ aK ⟨H0, [lo0p], []⟩ H [(lo0p, 3, List.map aD aA)]) ?_ ?_
  ·refine qV 4 ?_
   refine sE (t := 21) (e := decide (a1 < j9)) (by kernel_rfl) (fun hg6 => ?_) (fun hg6 => ?_)
   ·refine bQ 8 [0 ≤ j9 ∧ j9 < (lN aA)] ⟨(c2 hg6), trivial⟩ ?_
    refine jH 0 lo0p 3 (0 + Int.toNat j9) (aD (gD aA j9)) (aD (gD aA j9)) (List.map aD aA) (by kernel_rfl) (by kernel_rfl) (by kernel_rfl) hO (by kernel_rfl) (bJ (c2 hg6)) ?_
    refine bQ 13 [0 ≤ (wR (j9 - (1 : Int))) ∧ (wR (j9 - (1 : Int))) < (lN aA)] ⟨(c3 hg6), trivial⟩ ?_
    refine jH 0 lo0p 3 (0 + Int.toNat (wR (j9 - (1 : Int)))) (aD (gD aA (wR (j9 - (1 : Int))))) (aD (gD aA (wR (j9 - (1 : Int))))) (List.map aD aA) (by kernel_rfl) (by kernel_rfl) (by kernel_rfl) hO (by kernel_rfl) (bJ (c3 hg6)) ?_
    refine tX cmp3_f (cmp3_a ++ [(aD (gD aA j9)), (aD (gD aA (wR (j9 - (1 : Int)))))] ++ cmp3_c) (eI x4) (by kernel_rfl) (by kernel_rfl) (cmp3_h (gD aA j9) (gD aA (wR (j9 - (1 : Int)))) _ (pN hx5 hg6)) hO ?_
    intro H hO
    refine jI ?_
    exact ⟨⟨[(0, (.msl 3 lo0p 0 (List.length aA))), (1, (eI a1)), (2, (eI b2)), (3, (.fn (.func cmp3_f) cmp3_a cmp3_c)), (8, (eI i8)), (9, (eI j9)), (34, (aJ (decide (x4 < (0 : Int)))))], by kernel_rfl, rfl, ⟨aL.refl _, aL.refl _, aL.refl _, aL.refl _, aL.refl _, aL.refl _, aL.eq (congrArg aJ (qD hg6 rfl).symm), trivial⟩⟩, hO⟩
   refine jI ?_
   exact ⟨⟨[(0, (.msl 3 lo0p 0 (List.length aA))), (1, (eI a1)), (2, (eI b2)), (3, (.fn (.func cmp3_f) cmp3_a cmp3_c)), (8, (eI i8)), (9, (eI j9)), (34, (aJ false))], by kernel_rfl, rfl, ⟨aL.refl _, aL.refl _, aL.refl _, aL.refl _, aL.refl _, aL.refl _, aL.eq (congrArg aJ (qD hg6 rfl).symm), trivial⟩⟩, hO⟩
  ·rintro T H ⟨hT, hO⟩
   refine cA hT ?_
   clear hT
   refine aH (aF ?_)
   refine bE h2 (fun h2 => ?_) (fun h2 => ?_)
   ·refine bG ?_
    refine bD [(0, (.msl 3 lo0p 0 (List.length aA))), (1, (eI a1)), (2, (eI b2)), (3, (.fn (.func cmp3_f) cmp3_a cmp3_c)), (8, (eI i8)), (9, (eI j9))] ?_
    refine aO ?_
    refine bN 3 ?_
    refine eR (eP []) aG 18 ?_
    obtain ⟨c8, h2⟩ := aX h2
    refine bQ 9 [0 ≤ (wR (j9 - (1 : Int))) ∧ (wR (j9 - (1 : Int))) < (lN aA)] ⟨c8, trivial⟩ ?_
    refine dN 0 lo0p 3 (0 + Int.toNat (wR (j9 - (1 : Int)))) (aD (gD aA (wR (j9 - (1 : Int))))) (aD (gD aA (wR (j9 - (1 : Int))))) (List.map aD aA) hO (bJ c8) ?_
    obtain ⟨c9, h2⟩ := aX h2
    refine bQ 13 [0 ≤ j9 ∧ j9 < (lN aA)] ⟨c9, trivial⟩ ?_
    refine dN 0 lo0p 3 (0 + Int.toNat j9) (aD (gD aA j9)) (aD (gD aA j9)) (List.map aD aA) hO (bJ c9) ?_
    obtain ⟨c10, h2⟩ := aX h2
    refine bQ 15 [0 ≤ j9 ∧ j9 < (lN aA)] ⟨c10, trivial⟩ ?_
    refine iD 0 lo0p 3 (0 + Int.toNat j9) (aD (gD aA j9)) (aD (gD aA (wR (j9 - (1 : Int))))) (List.map aD aA) [(lo0p, 3, List.map aD (List.set aA (Int.toNat j9) (gD aA (wR (j9 - (1 : Int))))))] hO (bJ c10) (by simp only [List.set, eA]) ?_
    intro H hO
    replace hN : List.length (List.set aA (Int.toNat j9) (gD aA (wR (j9 - (1 : Int))))) = N0 := by simpa using hN
    obtain ⟨c11, h2⟩ := aX h2
    refine bQ 17 [0 ≤ (wR (j9 - (1 : Int))) ∧ (wR (j9 - (1 : Int))) < (lN aA)] ⟨c11, trivial⟩ ?_
    refine iD 0 lo0p 3 (0 + Int.toNat (wR (j9 - (1 : Int)))) (aD (gD (List.set aA (Int.toNat j9) (gD aA (wR (j9 - (1 : Int))))) (wR (j9 - (1 : Int))))) (aD (gD aA j9)) (List.map aD (List.set aA (Int.toNat j9) (gD aA (wR (j9 - (1 : Int)))))) [(lo0p, 3, List.map aD (List.set (List.set aA (Int.toNat j9) (gD aA (wR (j9 - (1 : Int))))) (Int.toNat (wR (j9 - (1 : Int)))) (gD aA j9)))] hO (lQ c11 (by simp [])) (by simp only [List.set, eA]) ?_
    intro H hO
    replace hN : List.length (List.set (List.set aA (Int.toNat j9) (gD aA (wR (j9 - (1 : Int))))) (Int.toNat (wR (j9 - (1 : Int)))) (gD aA j9)) = N0 := by simpa using hN
    refine nU (by kernel_rfl) ?_
    refine cA (l := [(0, (.msl 3 lo0p 0 (List.length (List.set (List.set aA (Int.toNat j9) (gD aA (wR (j9 - (1 : Int))))) (Int.toNat (wR (j9 - (1 : Int)))) (gD aA j9))))), (1, (eI a1)), (2, (eI b2)), (3, (.fn (.func cmp3_f) cmp3_a cmp3_c)), (8, (eI i8)), (9, (eI j9))]) ⟨[(0, (.msl 3 lo0p 0 (List.length aA))), (1, (eI a1)), (2, (eI b2)), (3, (.fn (.func cmp3_f) cmp3_a cmp3_c)), (8, (eI i8)), (9, (eI j9))], by kernel_rfl, rfl, ⟨aL.eq (by simp []), aL.refl _, aL.refl _, aL.refl _, aL.refl _, aL.refl _, trivial⟩⟩ ?_
    refine aH (aU (aF (?_)))
    refine aT aG 3 ?_
    refine bC ?_
    exact aH (aF (⟨rfl, _, (oI h2).symm, .eq (by kernel_rfl), hO, hN⟩))
   refine dW 2 ?_
   obtain rfl := oI h2
   obtain rfl : _ = rr1 := ho1
   replace h1 : iW cmp3 aA a1 b2 i8 = some out1 := h1
   exact aH (aR (aR (bF (aU (aF (⟨rfl, _, .eq (by kernel_rfl), hO, hN, h1⟩))))))
 refine dW 0 ?_
 obtain rfl := oI h1
 obtain rfl : _ = rr0 := ho0
 replace h0 : some aA = some r := h0
 obtain rfl := oI h0
 exact aH (aR (aR (bF (rY (x := (.tup [])) (by kernel_rfl) (aL.refl _) ⟨rfl, hO.ext, hO.at 0 (by kernel_rfl), by first | rfl | (simp only [List.length_map]; exact hN.trans hN0)⟩))))

theorem pS (lo0p : Nat) (aA : (List aC)) (a1 : Int) (b2 : Int) (n3 : Int) (cmp4_f : Nat) (cmp4_a cmp4_c : List V) (cmp4 : aC → aC → Option Int) (cmp4_h : ∀ a0 a1 r, cmp4 a0 a1 = some r → cO Tryz.prog cmp4_f (cmp4_a ++ [(aD a0), (aD a1)] ++ cmp4_c) (eI r)) (r : List aC) (h0 : iB aA a1 b2 n3 cmp4 = some r) : iG Tryz.prog 97 lo0p 3 (List.map aD aA) (List.map aD r) [(.msl 3 lo0p 0 (List.length aA)), (eI a1), (eI b2), (eI n3), (.fn (.func cmp4_f) cmp4_a cmp4_c)] (.tup []) := by
 intro H0 hl0
 refine cP Tryz.func97 ?_
 have hO := aK.nP hl0
 clear hl0
 obtain ⟨N0, hN0⟩ : ∃ n, n = List.length aA := ⟨_, rfl⟩
 have hN : List.length aA = N0 := hN0.symm
 unfold iB at h0
 refine aS aG 1 [4] [(10, (eI (0 : Int)))] ?_
 refine bN 0 ?_
 refine dK [(0, (.msl 3 lo0p 0 (List.length aA))), (1, (eI a1)), (2, (eI b2)), (3, (eI n3)), (10, (eI (0 : Int)))] ?_
 refine cQ (fun T H => ∃ aA : List aC, ∃ i10 : Int, Has T [(0, (.msl 3 lo0p 0 (List.length aA))), (1, (eI a1)), (2, (eI b2)), (3, (eI n3)), (10, (eI i10))] ∧ aK ⟨H0, [lo0p], []⟩ H [(lo0p, 3, List.map aD aA)] ∧ List.length aA = N0 ∧ pE cmp4 aA a1 b2 n3 i10 = some r) ?_ ⟨aA, (0 : Int), .eq (by kernel_rfl), hO, hN, h0⟩
 clear hO hN h0
 rintro T H ⟨aA, i10, hT, hO, hN, h0⟩
 refine aY hT ?_
 clear hT
 unfold pE at h0
 obtain ⟨rr0, hl0, h0⟩ := aW h0
 refine cB (by kernel_rfl) (fun (s : List aC × Int) T H => Has T [(0, (.msl 3 lo0p 0 (List.length s.1))), (1, (eI a1)), (2, (eI b2)), (3, (eI n3)), (10, (eI s.2))] ∧ aK ⟨H0, [lo0p], []⟩ H [(lo0p, 3, List.map aD s.1)] ∧ List.length s.1 = N0) hl0 ⟨.eq (by kernel_rfl), hO, hN⟩ ?_
 clear hO hN
 rintro k0 s out1 T H ⟨hT, hO, hN⟩ h1 ho0
 obtain ⟨aA, i10⟩ := s
 replace h1 : pL cmp4 a1 b2 n3 aA i10 = some out1 := h1
 try dsimp only at hT
 refine aY hT ?_
 clear hT
 unfold pL at h1
 refine aO ?_
 refine aS aG 3 [] [(13, (aJ (decide (i10 < n3))))] ?_
 refine bE h1 (fun h1 => ?_) (fun h1 => ?_)
 ·refine bG ?_
  refine bD [(0, (.msl 3 lo0p 0 (List.length aA))), (1, (eI a1)), (2, (eI b2)), (3, (eI n3)), (10, (eI i10))] ?_
  refine aO ?_
  refine bN 1 ?_
  refine eR (eP []) aG 24 ?_
  obtain ⟨c2, h1⟩ := aX h1
  refine bQ 13 [0 ≤ (wR (b2 + i10)) ∧ (wR (b2 + i10)) < (lN aA)] ⟨c2, trivial⟩ ?_
  refine dN 0 lo0p 3 (0 + Int.toNat (wR (b2 + i10))) (aD (gD aA (wR (b2 + i10)))) (aD (gD aA (wR (b2 + i10)))) (List.map aD aA) hO (bJ c2) ?_
  obtain ⟨c3, h1⟩ := aX h1
  refine bQ 19 [0 ≤ (wR (a1 + i10)) ∧ (wR (a1 + i10)) < (lN aA)] ⟨c3, trivial⟩ ?_
  refine dN 0 lo0p 3 (0 + Int.toNat (wR (a1 + i10))) (aD (gD aA (wR (a1 + i10)))) (aD (gD aA (wR (a1 + i10)))) (List.map aD aA) hO (bJ c3) ?_
  obtain ⟨c4, h1⟩ := aX h1
  refine bQ 21 [0 ≤ (wR (a1 + i10)) ∧ (wR (a1 + i10)) < (lN aA)] ⟨c4, trivial⟩ ?_
  refine iD 0 lo0p 3 (0 + Int.toNat (wR (a1 + i10))) (aD (gD aA (wR (a1 + i10)))) (aD (gD aA (wR (b2 + i10)))) (List.map aD aA) [(lo0p, 3, List.map aD (List.set aA (Int.toNat (wR (a1 + i10))) (gD aA (wR (b2 + i10)))))] hO (bJ c4) (by simp only [List.set, eA]) ?_
  intro H hO
  replace hN : List.length (List.set aA (Int.toNat (wR (a1 + i10))) (gD aA (wR (b2 + i10)))) = N0 := by simpa using hN
  obtain ⟨c5, h1⟩ := aX h1
  refine bQ 23 [0 ≤ (wR (b2 + i10)) ∧ (wR (b2 + i10)) < (lN aA)] ⟨c5, trivial⟩ ?_
  refine iD 0 lo0p 3 (0 + Int.toNat (wR (b2 + i10))) (aD (gD (List.set aA (Int.toNat (wR (a1 + i10))) (gD aA (wR (b2 + i10)))) (wR (b2 + i10)))) (aD (gD aA (wR (a1 + i10)))) (List.map aD (List.set aA (Int.toNat (wR (a1 + i10))) (gD aA (wR (b2 + i10))))) [(lo0p, 3, List.map aD (List.set (List.set aA (Int.toNat (wR (a1 + i10))) (gD aA (wR (b2 + i10)))) (Int.toNat (wR (b2 + i10))) (gD aA (wR (a1 + i10)))))] hO (lQ c5 (by simp [])) (by simp only [List.set, eA]) ?_
  intro H hO
  replace hN : List.length (List.set (List.set aA (Int.toNat (wR (a1 + i10))) (gD aA (wR (b2 + i10)))) (Int.toNat (wR (b2 + i10))) (gD aA (wR (a1 + i10)))) = N0 := by simpa using hN
  refine nU (by kernel_rfl) ?_
  refine cA (l := [(0, (.msl 3 lo0p 0 (List.length (List.set (List.set aA (Int.toNat (wR (a1 + i10))) (gD aA (wR (b2 + i10)))) (Int.toNat (wR (b2 + i10))) (gD aA (wR (a1 + i10))))))), (1, (eI a1)), (2, (eI b2)), (3, (eI n3)), (10, (eI i10))]) ⟨[(0, (.msl 3 lo0p 0 (List.length aA))), (1, (eI a1)), (2, (eI b2)), (3, (eI n3)), (10, (eI i10))], by kernel_rfl, rfl, ⟨aL.eq (by simp []), aL.refl _, aL.refl _, aL.refl _, aL.refl _, trivial⟩⟩ ?_
  refine aH (aU (aF (?_)))
  refine aT aG 3 ?_
  refine bC ?_
  exact aH (aF (⟨rfl, _, (oI h1).symm, .eq (by kernel_rfl), hO, hN⟩))
 refine dW 0 ?_
 obtain rfl := oI h1
 obtain rfl : _ = rr0 := ho0
 replace h0 : some aA = some r := h0
 obtain rfl := oI h0
 exact aH (aR (aR (bF (rY (x := (.tup [])) (by kernel_rfl) (aL.refl _) ⟨rfl, hO.ext, hO.at 0 (by kernel_rfl), by first | rfl | (simp only [List.length_map]; exact hN.trans hN0)⟩))))

theorem BV (lo0p : Nat) (aA : (List aC)) (a1 : Int) (m2 : Int) (b3 : Int) (cmp4_f : Nat) (cmp4_a cmp4_c : List V) (cmp4 : aC → aC → Option Int) (cmp4_h : ∀ a0 a1 r, cmp4 a0 a1 = some r → cO Tryz.prog cmp4_f (cmp4_a ++ [(aD a0), (aD a1)] ++ cmp4_c) (eI r)) (r : List aC) (h0 : qW aA a1 m2 b3 cmp4 = some r) : iG Tryz.prog 87 lo0p 3 (List.map aD aA) (List.map aD r) [(.msl 3 lo0p 0 (List.length aA)), (eI a1), (eI m2), (eI b3), (.fn (.func cmp4_f) cmp4_a cmp4_c)] (.tup []) := by
 intro H0 hl0
 refine cP Tryz.func87 ?_
 have hO := aK.nP hl0
 clear hl0
 obtain ⟨N0, hN0⟩ : ∃ n, n = List.length aA := ⟨_, rfl⟩
 have hN : List.length aA = N0 := hN0.symm
 unfold qW at h0
 refine aS aG 4 [1] [(10, (eI (wR (m2 - a1))))] ?_
 refine aS aG 4 [3] [(11, (eI (wR (b3 - m2))))] ?_
 refine dA (fun T H => ∃ aA : List aC, ∃ i10 : Int, Has T [(0, (.msl 3 lo0p 0 (List.length aA))), (2, (eI m2)), (4, (.fn (.func cmp4_f) cmp4_a cmp4_c)), (10, (eI i10))] ∧ aK ⟨H0, [lo0p], []⟩ H [(lo0p, 3, List.map aD aA)] ∧ List.length aA = N0 ∧ mJ cmp4 aA m2 i10 = some r) ?_ ?_
 ·clear hO hN h0
  rintro T H ⟨aA, i10, hT, hO, hN, h0⟩
  refine aY hT ?_
  clear hT
  unfold mJ at h0
  refine aT aG 8 ?_
  refine bI 7 ?_
  obtain ⟨x1, hx2, h0⟩ := aW h0
  refine nE [(lo0p, 3, List.map aD x1)] 0 (pS lo0p aA (wR (m2 - i10)) m2 i10 cmp4_f cmp4_a cmp4_c cmp4 cmp4_h _ hx2) hO ?_
  intro H hO hl3
  simp only [List.length_map] at hl3
  replace hN := hl3.trans hN
  refine dG ?_
  refine cA (l := [(0, (.msl 3 lo0p 0 (List.length x1)))]) ⟨[(0, (.msl 3 lo0p 0 (List.length aA)))], by kernel_rfl, rfl, ⟨aL.eq (by simp [hl3]), trivial⟩⟩ ?_
  obtain rfl := oI h0
  exact aH (rY (x := (.tup [])) (by kernel_rfl) (aL.refl _) ⟨rfl, hO.ext, hO.at 0 (by kernel_rfl), by simp only [List.length_map]; exact hN.trans hN0⟩)
 refine bN 0 ?_
 refine dK [(0, (.msl 3 lo0p 0 (List.length aA))), (2, (eI m2)), (4, (.fn (.func cmp4_f) cmp4_a cmp4_c)), (10, (eI (wR (m2 - a1)))), (11, (eI (wR (b3 - m2))))] ?_
 refine cQ (fun T H => ∃ aA : List aC, ∃ i10 : Int, ∃ j11 : Int, Has T [(0, (.msl 3 lo0p 0 (List.length aA))), (2, (eI m2)), (4, (.fn (.func cmp4_f) cmp4_a cmp4_c)), (10, (eI i10)), (11, (eI j11))] ∧ aK ⟨H0, [lo0p], []⟩ H [(lo0p, 3, List.map aD aA)] ∧ List.length aA = N0 ∧ qM cmp4 aA m2 i10 j11 = some r) ?_ ⟨aA, wR (m2 - a1), wR (b3 - m2), .eq (by kernel_rfl), hO, hN, h0⟩
 clear hO hN h0
 rintro T H ⟨aA, i10, j11, hT, hO, hN, h0⟩
 refine aY hT ?_
 clear hT
 unfold qM at h0
 obtain ⟨rr0, hl0, h0⟩ := aW h0
 refine cB (by kernel_rfl) (fun (s : List aC × Int × Int) T H => Has T [(0, (.msl 3 lo0p 0 (List.length s.1))), (2, (eI m2)), (4, (.fn (.func cmp4_f) cmp4_a cmp4_c)), (10, (eI s.2.1)), (11, (eI s.2.2))] ∧ aK ⟨H0, [lo0p], []⟩ H [(lo0p, 3, List.map aD s.1)] ∧ List.length s.1 = N0) hl0 ⟨.eq (by kernel_rfl), hO, hN⟩ ?_
 clear hO hN
 rintro k0 s out1 T H ⟨hT, hO, hN⟩ h1 ho0
 obtain ⟨aA, i10, j11⟩ := s
 replace h1 : qP cmp4 m2 aA i10 j11 = some out1 := h1
 try dsimp only at hT
 refine aY hT ?_
 clear hT
 unfold qP at h1
 refine aO ?_
 refine aS aG 3 [] [(20, (aJ (!decide (i10 = j11))))] ?_
 refine bE h1 (fun h1 => ?_) (fun h1 => ?_)
 ·refine bG ?_
  refine bD [(0, (.msl 3 lo0p 0 (List.length aA))), (2, (eI m2)), (4, (.fn (.func cmp4_f) cmp4_a cmp4_c)), (10, (eI i10)), (11, (eI j11))] ?_
  refine bN 1 ?_
  refine aS aG 3 [] [(23, (aJ (decide (j11 < i10))))] ?_
  refine bE h1 (fun h1 => ?_) (fun h1 => ?_)
  ·refine aO ?_
   refine aT aG 8 ?_
   refine bI 7 ?_
   obtain ⟨x6, hx7, h1⟩ := aW h1
   refine nE [(lo0p, 3, List.map aD x6)] 0 (pS lo0p aA (wR (m2 - i10)) m2 j11 cmp4_f cmp4_a cmp4_c cmp4 cmp4_h _ hx7) hO ?_
   intro H hO hl8
   simp only [List.length_map] at hl8
   replace hN := hl8.trans hN
   refine dG ?_
   refine cA (l := [(0, (.msl 3 lo0p 0 (List.length x6))), (2, (eI m2)), (4, (.fn (.func cmp4_f) cmp4_a cmp4_c)), (10, (eI i10)), (11, (eI j11))]) ⟨[(0, (.msl 3 lo0p 0 (List.length aA))), (2, (eI m2)), (4, (.fn (.func cmp4_f) cmp4_a cmp4_c)), (10, (eI i10)), (11, (eI j11))], by kernel_rfl, rfl, ⟨aL.eq (by simp [hl8]), aL.refl _, aL.refl _, aL.refl _, aL.refl _, trivial⟩⟩ ?_
   refine aH (aF (?_))
   refine aT aG 4 ?_
   refine bC ?_
   exact aH (aU (aF (⟨rfl, _, (oI h1).symm, .eq (by kernel_rfl), hO, hN⟩)))
  refine aO ?_
  refine aT aG 12 ?_
  refine bI 11 ?_
  obtain ⟨x9, hx10, h1⟩ := aW h1
  refine nE [(lo0p, 3, List.map aD x9)] 0 (pS lo0p aA (wR (m2 - i10)) (wR ((wR (m2 + j11)) - i10)) i10 cmp4_f cmp4_a cmp4_c cmp4 cmp4_h _ hx10) hO ?_
  intro H hO hl11
  simp only [List.length_map] at hl11
  replace hN := hl11.trans hN
  refine dG ?_
  refine cA (l := [(0, (.msl 3 lo0p 0 (List.length x9))), (2, (eI m2)), (4, (.fn (.func cmp4_f) cmp4_a cmp4_c)), (10, (eI i10)), (11, (eI j11))]) ⟨[(0, (.msl 3 lo0p 0 (List.length aA))), (2, (eI m2)), (4, (.fn (.func cmp4_f) cmp4_a cmp4_c)), (10, (eI i10)), (11, (eI j11))], by kernel_rfl, rfl, ⟨aL.eq (by simp [hl11]), aL.refl _, aL.refl _, aL.refl _, aL.refl _, trivial⟩⟩ ?_
  refine aH (aF (?_))
  refine aT aG 4 ?_
  refine bC ?_
  exact aH (aU (aF (⟨rfl, _, (oI h1).symm, .eq (by kernel_rfl), hO, hN⟩)))
 refine dW 0 ?_
 obtain rfl := oI h1
 obtain rfl : _ = rr0 := ho0
 replace h0 : mJ cmp4 aA m2 i10 = some r := h0
 exact aH (aR (aR (bF (aF (⟨rfl, _, _, .eq (by kernel_rfl), hO, hN, h0⟩)))))

theorem xT (cmp4_f : Nat) (cmp4_a cmp4_c : List V) (cmp4 : aC → aC → Option Int) (cmp4_h : ∀ a0 a1 r, cmp4 a0 a1 = some r → cO Tryz.prog cmp4_f (cmp4_a ++ [(aD a0), (aD a1)] ++ cmp4_c) (eI r)) (rec : (List aC) → Int → Int → Int → Option (List aC)) (ih : ∀ (lo0p : Nat) (aA : (List aC)) (a1 : Int) (m2 : Int) (b3 : Int) (r : List aC), rec aA a1 m2 b3 = some r → iG Tryz.prog 70 lo0p 3 (List.map aD aA) (List.map aD r) [(.msl 3 lo0p 0 (List.length aA)), (eI a1), (eI m2), (eI b3), (.fn (.func cmp4_f) cmp4_a cmp4_c)] (.tup [])) (lo0p : Nat) (aA : (List aC)) (a1 : Int) (m2 : Int) (b3 : Int) (r : List aC) (h0 : gJ cmp4 rec aA a1 m2 b3 = some r) : iG Tryz.prog 70 lo0p 3 (List.map aD aA) (List.map aD r) [(.msl 3 lo0p 0 (List.length aA)), (eI a1), (eI m2), (eI b3), (.fn (.func cmp4_f) cmp4_a cmp4_c)] (.tup []) := by
 intro H0 hl0
 refine cP Tryz.func70 ?_
 have hO := aK.nP hl0
 clear hl0
 obtain ⟨N0, hN0⟩ : ∃ n, n = List.length aA := ⟨_, rfl⟩
 have hN : List.length aA = N0 := hN0.symm
 unfold gJ at h0
 refine dA (fun T H => ∃ aA : List aC, Has T [(0, (.msl 3 lo0p 0 (List.length aA))), (1, (eI a1)), (2, (eI m2)), (3, (eI b3)), (4, (.fn (.func cmp4_f) cmp4_a cmp4_c))] ∧ aK ⟨H0, [lo0p], []⟩ H [(lo0p, 3, List.map aD aA)] ∧ List.length aA = N0 ∧ pU cmp4 rec aA a1 m2 b3 = some r) ?_ ?_
 ·clear hO hN h0
  rintro T H ⟨aA, hT, hO, hN, h0⟩
  refine aY hT ?_
  clear hT
  unfold pU at h0
  refine dA (fun T H => ∃ aA : List aC, Has T [(0, (.msl 3 lo0p 0 (List.length aA))), (1, (eI a1)), (2, (eI m2)), (3, (eI b3)), (4, (.fn (.func cmp4_f) cmp4_a cmp4_c))] ∧ aK ⟨H0, [lo0p], []⟩ H [(lo0p, 3, List.map aD aA)] ∧ List.length aA = N0 ∧ pO cmp4 rec aA a1 m2 b3 = some r) ?_ ?_
  ·clear hO hN h0
   rintro T H ⟨aA, hT, hO, hN, h0⟩
   refine aY hT ?_
   clear hT
   unfold pO at h0
   refine aO ?_
   refine aT aG 7 ?_
   obtain ⟨c1, h0⟩ := aX h0
   refine qL [0 ≤ (1 : Int)] ⟨c1, trivial⟩ ?_
   refine bP [] [(18, (eI (wR (Int.fdiv (IntKind.u64.wrap (wR (a1 + b3))) (2 ^ (min (Int.toNat (1 : Int)) 64))))))] ?_
   refine aS aG 4 [] [(19, (eI (wR ((wR (Int.fdiv (IntKind.u64.wrap (wR (a1 + b3))) (2 ^ (min (Int.toNat (1 : Int)) 64)))) + m2))))] ?_
   refine aS aG 2 [] [] ?_
   refine dA (fun T H => ∃ aA : List aC, ∃ bV : Int, ∃ n19 : Int, ∃ aV : Int, ∃ r21 : Int, Has T [(0, (.msl 3 lo0p 0 (List.length aA))), (1, (eI a1)), (2, (eI m2)), (3, (eI b3)), (4, (.fn (.func cmp4_f) cmp4_a cmp4_c)), (18, (eI bV)), (19, (eI n19)), (20, (eI aV)), (21, (eI r21))] ∧ aK ⟨H0, [lo0p], []⟩ H [(lo0p, 3, List.map aD aA)] ∧ List.length aA = N0 ∧ lC cmp4 rec aA a1 m2 b3 bV n19 aV r21 = some r) ?_ ?_
   ·clear hO hN h0
    rintro T H ⟨aA, bV, n19, aV, r21, hT, hO, hN, h0⟩
    refine aY hT ?_
    clear hT
    unfold lC at h0
    refine aS aG 3 [] [(22, (eI (wR (n19 - (1 : Int)))))] ?_
    refine dA (fun T H => ∃ aA : List aC, ∃ aV : Int, Has T [(0, (.msl 3 lo0p 0 (List.length aA))), (1, (eI a1)), (2, (eI m2)), (3, (eI b3)), (4, (.fn (.func cmp4_f) cmp4_a cmp4_c)), (18, (eI bV)), (19, (eI n19)), (20, (eI aV))] ∧ aK ⟨H0, [lo0p], []⟩ H [(lo0p, 3, List.map aD aA)] ∧ List.length aA = N0 ∧ kX cmp4 rec aA a1 m2 b3 bV n19 aV = some r) ?_ ?_
    ·clear hO hN h0
     rintro T H ⟨aA, aV, hT, hO, hN, h0⟩
     refine aY hT ?_
     clear hT
     unfold kX at h0
     refine aS aG 4 [19] [(24, (eI (wR (n19 - aV))))] ?_
     refine dA (fun T H => ∃ aA : List aC, ∃ gK : Int, Has T [(0, (.msl 3 lo0p 0 (List.length aA))), (1, (eI a1)), (3, (eI b3)), (4, (.fn (.func cmp4_f) cmp4_a cmp4_c)), (18, (eI bV)), (20, (eI aV)), (24, (eI gK))] ∧ aK ⟨H0, [lo0p], []⟩ H [(lo0p, 3, List.map aD aA)] ∧ List.length aA = N0 ∧ kT cmp4 rec aA a1 b3 bV aV gK = some r) ?_ ?_
     ·clear hO hN h0
      rintro T H ⟨aA, gK, hT, hO, hN, h0⟩
      refine aY hT ?_
      clear hT
      unfold kT at h0
      refine dA (fun T H => ∃ aA : List aC, Has T [(0, (.msl 3 lo0p 0 (List.length aA))), (3, (eI b3)), (4, (.fn (.func cmp4_f) cmp4_a cmp4_c)), (18, (eI bV)), (24, (eI gK))] ∧ aK ⟨H0, [lo0p], []⟩ H [(lo0p, 3, List.map aD aA)] ∧ List.length aA = N0 ∧ lH cmp4 rec aA b3 bV gK = some r) ?_ ?_
      ·clear hO hN h0
       rintro T H ⟨aA, hT, hO, hN, h0⟩
       refine aY hT ?_
       clear hT
       unfold lH at h0
       refine aS aG 8 [] [(213, (aJ ((decide (bV < gK)) && (decide (gK < b3)))))] ?_
       refine bE h0 (fun h0 => ?_) (fun h0 => ?_)
       ·refine aT aG 6 ?_
        refine bI 5 ?_
        obtain ⟨x3, hx4, h0⟩ := aW h0
        refine nE [(lo0p, 3, List.map aD x3)] 0 (ih lo0p aA bV gK b3 _ hx4) hO ?_
        intro H hO hl5
        simp only [List.length_map] at hl5
        replace hN := hl5.trans hN
        refine dG ?_
        refine cA (l := [(0, (.msl 3 lo0p 0 (List.length x3)))]) ⟨[(0, (.msl 3 lo0p 0 (List.length aA)))], by kernel_rfl, rfl, ⟨aL.eq (by simp [hl5]), trivial⟩⟩ ?_
        obtain rfl := oI h0
        exact aH (rY (x := (.tup [])) (by kernel_rfl) (aL.refl _) ⟨rfl, hO.ext, hO.at 0 (by kernel_rfl), by simp only [List.length_map]; exact hN.trans hN0⟩)
       refine bG ?_
       obtain rfl := oI h0
       exact aH (rY (x := (.tup [])) (by kernel_rfl) (aL.refl _) ⟨rfl, hO.ext, hO.at 0 (by kernel_rfl), by first | rfl | (simp only [List.length_map]; exact hN.trans hN0)⟩)
      refine aS aG 8 [] [(199, (aJ ((decide (a1 < aV)) && (decide (aV < bV)))))] ?_
      refine bE h0 (fun h0 => ?_) (fun h0 => ?_)
      ·refine aT aG 6 ?_
       refine bI 5 ?_
       obtain ⟨x7, hx8, h0⟩ := aW h0
       refine nE [(lo0p, 3, List.map aD x7)] 0 (ih lo0p aA a1 aV bV _ hx8) hO ?_
       intro H hO hl9
       simp only [List.length_map] at hl9
       replace hN := hl9.trans hN
       refine dG ?_
       refine cA (l := [(0, (.msl 3 lo0p 0 (List.length x7))), (3, (eI b3)), (4, (.fn (.func cmp4_f) cmp4_a cmp4_c)), (18, (eI bV)), (24, (eI gK))]) ⟨[(0, (.msl 3 lo0p 0 (List.length aA))), (3, (eI b3)), (4, (.fn (.func cmp4_f) cmp4_a cmp4_c)), (18, (eI bV)), (24, (eI gK))], by kernel_rfl, rfl, ⟨aL.eq (by simp [hl9]), aL.refl _, aL.refl _, aL.refl _, aL.refl _, trivial⟩⟩ ?_
       exact aH (aF (⟨rfl, _, .eq (by kernel_rfl), hO, hN, h0⟩))
      refine bG ?_
      exact aH (aF (⟨rfl, _, .eq (by kernel_rfl), hO, hN, h0⟩))
     refine aS aG 8 [] [(185, (aJ ((decide (aV < m2)) && (decide (m2 < (wR (n19 - aV)))))))] ?_
     refine bE h0 (fun h0 => ?_) (fun h0 => ?_)
     ·refine aT aG 6 ?_
      refine bI 5 ?_
      obtain ⟨x11, hx12, h0⟩ := aW h0
      refine nE [(lo0p, 3, List.map aD x11)] 0 (BV lo0p aA aV m2 (wR (n19 - aV)) cmp4_f cmp4_a cmp4_c cmp4 cmp4_h _ hx12) hO ?_
      intro H hO hl13
      simp only [List.length_map] at hl13
      replace hN := hl13.trans hN
      refine dG ?_
      refine cA (l := [(0, (.msl 3 lo0p 0 (List.length x11))), (1, (eI a1)), (3, (eI b3)), (4, (.fn (.func cmp4_f) cmp4_a cmp4_c)), (18, (eI bV)), (20, (eI aV)), (24, (eI (wR (n19 - aV))))]) ⟨[(0, (.msl 3 lo0p 0 (List.length aA))), (1, (eI a1)), (3, (eI b3)), (4, (.fn (.func cmp4_f) cmp4_a cmp4_c)), (18, (eI bV)), (20, (eI aV)), (24, (eI (wR (n19 - aV))))], by kernel_rfl, rfl, ⟨aL.eq (by simp [hl13]), aL.refl _, aL.refl _, aL.refl _, aL.refl _, aL.refl _, aL.refl _, trivial⟩⟩ ?_
      exact aH (aF (⟨rfl, _, _, .eq (by kernel_rfl), hO, hN, h0⟩))
     refine bG ?_
     exact aH (aF (⟨rfl, _, _, .eq (by kernel_rfl), hO, hN, h0⟩))
    refine bN 8 ?_
    refine dK [(0, (.msl 3 lo0p 0 (List.length aA))), (1, (eI a1)), (2, (eI m2)), (3, (eI b3)), (4, (.fn (.func cmp4_f) cmp4_a cmp4_c)), (18, (eI bV)), (19, (eI n19)), (20, (eI aV)), (21, (eI r21)), (22, (eI (wR (n19 - (1 : Int)))))] ?_
    refine cQ (fun T H => ∃ aA : List aC, ∃ aV : Int, ∃ r21 : Int, ∃ p22 : Int, Has T [(0, (.msl 3 lo0p 0 (List.length aA))), (1, (eI a1)), (2, (eI m2)), (3, (eI b3)), (4, (.fn (.func cmp4_f) cmp4_a cmp4_c)), (18, (eI bV)), (19, (eI n19)), (20, (eI aV)), (21, (eI r21)), (22, (eI p22))] ∧ aK ⟨H0, [lo0p], []⟩ H [(lo0p, 3, List.map aD aA)] ∧ List.length aA = N0 ∧ pW cmp4 rec aA a1 m2 b3 bV n19 aV r21 p22 = some r) ?_ ⟨aA, aV, r21, wR (n19 - (1 : Int)), .eq (by kernel_rfl), hO, hN, h0⟩
    clear hO hN h0
    rintro T H ⟨aA, aV, r21, p22, hT, hO, hN, h0⟩
    refine aY hT ?_
    clear hT
    unfold pW at h0
    obtain ⟨rr0, hl0, h0⟩ := aW h0
    refine cB (by kernel_rfl) (fun (s : List aC × Int × Int) T H => Has T [(0, (.msl 3 lo0p 0 (List.length s.1))), (1, (eI a1)), (2, (eI m2)), (3, (eI b3)), (4, (.fn (.func cmp4_f) cmp4_a cmp4_c)), (18, (eI bV)), (19, (eI n19)), (20, (eI s.2.1)), (21, (eI s.2.2)), (22, (eI p22))] ∧ aK ⟨H0, [lo0p], []⟩ H [(lo0p, 3, List.map aD s.1)] ∧ List.length s.1 = N0) hl0 ⟨.eq (by kernel_rfl), hO, hN⟩ ?_
    clear hO hN
    rintro k0 s out1 T H ⟨hT, hO, hN⟩ h1 ho0
    obtain ⟨aA, aV, r21⟩ := s
    replace h1 : pQ cmp4 rec a1 m2 b3 bV n19 p22 aA aV r21 = some out1 := h1
    try dsimp only at hT
    refine aY hT ?_
    clear hT
    unfold pQ at h1
    refine aO ?_
    refine aS aG 3 [] [(151, (aJ (decide (aV < r21))))] ?_
    refine bE h1 (fun h1 => ?_) (fun h1 => ?_)
    ·refine bG ?_
     refine bD [(0, (.msl 3 lo0p 0 (List.length aA))), (1, (eI a1)), (2, (eI m2)), (3, (eI b3)), (4, (.fn (.func cmp4_f) cmp4_a cmp4_c)), (18, (eI bV)), (19, (eI n19)), (20, (eI aV)), (21, (eI r21)), (22, (eI p22))] ?_
     refine bN 9 ?_
     refine aO ?_
     refine aT aG 7 ?_
     obtain ⟨c15, h1⟩ := aX h1
     refine qL [0 ≤ (1 : Int)] ⟨c15, trivial⟩ ?_
     refine bP [] [(23, (eI (wR (Int.fdiv (IntKind.u64.wrap (wR (aV + r21))) (2 ^ (min (Int.toNat (1 : Int)) 64))))))] ?_
     refine aO ?_
     refine eR (eP [169]) aG 14 ?_
     obtain ⟨c16, h1⟩ := aX h1
     refine bQ 6 [0 ≤ (wR (p22 - (wR (Int.fdiv (IntKind.u64.wrap (wR (aV + r21))) (2 ^ (min (Int.toNat (1 : Int)) 64)))))) ∧ (wR (p22 - (wR (Int.fdiv (IntKind.u64.wrap (wR (aV + r21))) (2 ^ (min (Int.toNat (1 : Int)) 64)))))) < (lN aA)] ⟨c16, trivial⟩ ?_
     refine dN 0 lo0p 3 (0 + Int.toNat (wR (p22 - (wR (Int.fdiv (IntKind.u64.wrap (wR (aV + r21))) (2 ^ (min (Int.toNat (1 : Int)) 64))))))) (aD (gD aA (wR (p22 - (wR (Int.fdiv (IntKind.u64.wrap (wR (aV + r21))) (2 ^ (min (Int.toNat (1 : Int)) 64)))))))) (aD (gD aA (wR (p22 - (wR (Int.fdiv (IntKind.u64.wrap (wR (aV + r21))) (2 ^ (min (Int.toNat (1 : Int)) 64)))))))) (List.map aD aA) hO (bJ c16) ?_
     obtain ⟨c17, h1⟩ := aX h1
     refine bQ 10 [0 ≤ (wR (Int.fdiv (IntKind.u64.wrap (wR (aV + r21))) (2 ^ (min (Int.toNat (1 : Int)) 64)))) ∧ (wR (Int.fdiv (IntKind.u64.wrap (wR (aV + r21))) (2 ^ (min (Int.toNat (1 : Int)) 64)))) < (lN aA)] ⟨c17, trivial⟩ ?_
     refine dN 0 lo0p 3 (0 + Int.toNat (wR (Int.fdiv (IntKind.u64.wrap (wR (aV + r21))) (2 ^ (min (Int.toNat (1 : Int)) 64))))) (aD (gD aA (wR (Int.fdiv (IntKind.u64.wrap (wR (aV + r21))) (2 ^ (min (Int.toNat (1 : Int)) 64)))))) (aD (gD aA (wR (Int.fdiv (IntKind.u64.wrap (wR (aV + r21))) (2 ^ (min (Int.toNat (1 : Int)) 64)))))) (List.map aD aA) hO (bJ c17) ?_
     obtain ⟨x18, hx19, h1⟩ := aW h1
     refine BA (cmp4_h (gD aA (wR (p22 - (wR (Int.fdiv (IntKind.u64.wrap (wR (aV + r21))) (2 ^ (min (Int.toNat (1 : Int)) 64))))))) (gD aA (wR (Int.fdiv (IntKind.u64.wrap (wR (aV + r21))) (2 ^ (min (Int.toNat (1 : Int)) 64))))) _ hx19) hO ?_
     intro H hO
     refine jI ?_
     refine bP [] [(171, (aJ (!(decide (x18 < (0 : Int))))))] ?_
     refine bE h1 (fun h1 => ?_) (fun h1 => ?_)
     ·refine aT aG 3 ?_
      refine bC ?_
      exact aH (aU (aF (⟨rfl, _, (oI h1).symm, .eq (by kernel_rfl), hO, hN⟩)))
     refine aT aG 2 ?_
     refine bC ?_
     exact aH (aU (aF (⟨rfl, _, (oI h1).symm, .eq (by kernel_rfl), hO, hN⟩)))
    refine dW 8 ?_
    obtain rfl := oI h1
    obtain rfl : _ = rr0 := ho0
    replace h0 : kX cmp4 rec aA a1 m2 b3 bV n19 aV = some r := h0
    exact aH (aR (aR (bF (aF (⟨rfl, _, _, .eq (by kernel_rfl), hO, hN, h0⟩)))))
   refine aS aG 3 [] [(140, (aJ (decide ((wR (Int.fdiv (IntKind.u64.wrap (wR (a1 + b3))) (2 ^ (min (Int.toNat (1 : Int)) 64)))) < m2))))] ?_
   refine bE h0 (fun h0 => ?_) (fun h0 => ?_)
   ·refine cH aG 4 [(0, (.msl 3 lo0p 0 (List.length aA))), (1, (eI a1)), (2, (eI m2)), (3, (eI b3)), (4, (.fn (.func cmp4_f) cmp4_a cmp4_c)), (18, (eI (wR (Int.fdiv (IntKind.u64.wrap (wR (a1 + b3))) (2 ^ (min (Int.toNat (1 : Int)) 64)))))), (19, (eI (wR ((wR (Int.fdiv (IntKind.u64.wrap (wR (a1 + b3))) (2 ^ (min (Int.toNat (1 : Int)) 64)))) + m2)))), (20, (eI (wR ((wR ((wR (Int.fdiv (IntKind.u64.wrap (wR (a1 + b3))) (2 ^ (min (Int.toNat (1 : Int)) 64)))) + m2)) - b3))))] ?_
    refine aT aG 2 ?_
    refine bC ?_
    exact aH (aF (⟨rfl, _, _, _, _, _, .eq (by kernel_rfl), hO, hN, h0⟩))
   refine cH aG 2 [(0, (.msl 3 lo0p 0 (List.length aA))), (1, (eI a1)), (2, (eI m2)), (3, (eI b3)), (4, (.fn (.func cmp4_f) cmp4_a cmp4_c)), (18, (eI (wR (Int.fdiv (IntKind.u64.wrap (wR (a1 + b3))) (2 ^ (min (Int.toNat (1 : Int)) 64)))))), (19, (eI (wR ((wR (Int.fdiv (IntKind.u64.wrap (wR (a1 + b3))) (2 ^ (min (Int.toNat (1 : Int)) 64)))) + m2)))), (20, (eI a1))] ?_
   refine aT aG 2 ?_
   refine bC ?_
   exact aH (aF (⟨rfl, _, _, _, _, _, .eq (by kernel_rfl), hO, hN, h0⟩))
  refine aS aG 4 [] [(80, (aJ (decide ((wR (b3 - m2)) = (1 : Int)))))] ?_
  refine bE h0 (fun h0 => ?_) (fun h0 => ?_)
  ·refine aS aG 2 [1, 3, 80] [(14, (eI a1))] ?_
   refine aS aG 2 [] [(15, (eI m2))] ?_
   refine dA (fun T H => ∃ aA : List aC, ∃ i14 : Int, Has T [(0, (.msl 3 lo0p 0 (List.length aA))), (2, (eI m2)), (14, (eI i14))] ∧ aK ⟨H0, [lo0p], []⟩ H [(lo0p, 3, List.map aD aA)] ∧ List.length aA = N0 ∧ lE cmp4 rec aA m2 i14 = some r) ?_ ?_
   ·clear hO hN h0
    rintro T H ⟨aA, i14, hT, hO, hN, h0⟩
    refine aY hT ?_
    clear hT
    unfold lE at h0
    refine dA (fun T H => ∃ aA : List aC, Has T [(0, (.msl 3 lo0p 0 (List.length aA)))] ∧ aK ⟨H0, [lo0p], []⟩ H [(lo0p, 3, List.map aD aA)] ∧ List.length aA = N0 ∧ kZ cmp4 rec aA = some r) ?_ ?_
    ·clear hO hN h0
     rintro T H ⟨aA, hT, hO, hN, h0⟩
     refine aY hT ?_
     clear hT
     unfold kZ at h0
     refine bL ?_
     obtain rfl := oI h0
     exact aH (bB (mB (x := (.tup [])) (by kernel_rfl) (aL.refl _) ⟨rfl, hO.ext, hO.at 0 (by kernel_rfl), by first | rfl | (simp only [List.length_map]; exact hN.trans hN0)⟩))
    refine aS aG 2 [2] [(17, (eI m2))] ?_
    refine bN 6 ?_
    refine dK [(0, (.msl 3 lo0p 0 (List.length aA))), (14, (eI i14)), (17, (eI m2))] ?_
    refine cQ (fun T H => ∃ aA : List aC, ∃ k17 : Int, Has T [(0, (.msl 3 lo0p 0 (List.length aA))), (14, (eI i14)), (17, (eI k17))] ∧ aK ⟨H0, [lo0p], []⟩ H [(lo0p, 3, List.map aD aA)] ∧ List.length aA = N0 ∧ oZ cmp4 rec aA i14 k17 = some r) ?_ ⟨aA, m2, .eq (by kernel_rfl), hO, hN, h0⟩
    clear hO hN h0
    rintro T H ⟨aA, k17, hT, hO, hN, h0⟩
    refine aY hT ?_
    clear hT
    unfold oZ at h0
    obtain ⟨rr0, hl0, h0⟩ := aW h0
    refine cB (by kernel_rfl) (fun (s : List aC × Int) T H => Has T [(0, (.msl 3 lo0p 0 (List.length s.1))), (14, (eI i14)), (17, (eI s.2))] ∧ aK ⟨H0, [lo0p], []⟩ H [(lo0p, 3, List.map aD s.1)] ∧ List.length s.1 = N0) hl0 ⟨.eq (by kernel_rfl), hO, hN⟩ ?_
    clear hO hN
    rintro k0 s out1 T H ⟨hT, hO, hN⟩ h1 ho0
    obtain ⟨aA, k17⟩ := s
    replace h1 : oP cmp4 rec i14 aA k17 = some out1 := h1
    try dsimp only at hT
    refine aY hT ?_
    clear hT
    unfold oP at h1
    refine aO ?_
    refine aS aG 3 [] [(110, (aJ (decide (i14 < k17))))] ?_
    refine bE h1 (fun h1 => ?_) (fun h1 => ?_)
    ·refine bG ?_
     refine bD [(0, (.msl 3 lo0p 0 (List.length aA))), (14, (eI i14)), (17, (eI k17))] ?_
     refine aO ?_
     refine bN 7 ?_
     refine eR (eP []) aG 18 ?_
     obtain ⟨c25, h1⟩ := aX h1
     refine bQ 9 [0 ≤ (wR (k17 - (1 : Int))) ∧ (wR (k17 - (1 : Int))) < (lN aA)] ⟨c25, trivial⟩ ?_
     refine dN 0 lo0p 3 (0 + Int.toNat (wR (k17 - (1 : Int)))) (aD (gD aA (wR (k17 - (1 : Int))))) (aD (gD aA (wR (k17 - (1 : Int))))) (List.map aD aA) hO (bJ c25) ?_
     obtain ⟨c26, h1⟩ := aX h1
     refine bQ 13 [0 ≤ k17 ∧ k17 < (lN aA)] ⟨c26, trivial⟩ ?_
     refine dN 0 lo0p 3 (0 + Int.toNat k17) (aD (gD aA k17)) (aD (gD aA k17)) (List.map aD aA) hO (bJ c26) ?_
     obtain ⟨c27, h1⟩ := aX h1
     refine bQ 15 [0 ≤ k17 ∧ k17 < (lN aA)] ⟨c27, trivial⟩ ?_
     refine iD 0 lo0p 3 (0 + Int.toNat k17) (aD (gD aA k17)) (aD (gD aA (wR (k17 - (1 : Int))))) (List.map aD aA) [(lo0p, 3, List.map aD (List.set aA (Int.toNat k17) (gD aA (wR (k17 - (1 : Int))))))] hO (bJ c27) (by simp only [List.set, eA]) ?_
     intro H hO
     replace hN : List.length (List.set aA (Int.toNat k17) (gD aA (wR (k17 - (1 : Int))))) = N0 := by simpa using hN
     obtain ⟨c28, h1⟩ := aX h1
     refine bQ 17 [0 ≤ (wR (k17 - (1 : Int))) ∧ (wR (k17 - (1 : Int))) < (lN aA)] ⟨c28, trivial⟩ ?_
     refine iD 0 lo0p 3 (0 + Int.toNat (wR (k17 - (1 : Int)))) (aD (gD (List.set aA (Int.toNat k17) (gD aA (wR (k17 - (1 : Int))))) (wR (k17 - (1 : Int))))) (aD (gD aA k17)) (List.map aD (List.set aA (Int.toNat k17) (gD aA (wR (k17 - (1 : Int)))))) [(lo0p, 3, List.map aD (List.set (List.set aA (Int.toNat k17) (gD aA (wR (k17 - (1 : Int))))) (Int.toNat (wR (k17 - (1 : Int)))) (gD aA k17)))] hO (lQ c28 (by simp [])) (by simp only [List.set, eA]) ?_
     intro H hO
     replace hN : List.length (List.set (List.set aA (Int.toNat k17) (gD aA (wR (k17 - (1 : Int))))) (Int.toNat (wR (k17 - (1 : Int)))) (gD aA k17)) = N0 := by simpa using hN
     refine nU (by kernel_rfl) ?_
     refine cA (l := [(0, (.msl 3 lo0p 0 (List.length (List.set (List.set aA (Int.toNat k17) (gD aA (wR (k17 - (1 : Int))))) (Int.toNat (wR (k17 - (1 : Int)))) (gD aA k17))))), (14, (eI i14)), (17, (eI k17))]) ⟨[(0, (.msl 3 lo0p 0 (List.length aA))), (14, (eI i14)), (17, (eI k17))], by kernel_rfl, rfl, ⟨aL.eq (by simp []), aL.refl _, aL.refl _, trivial⟩⟩ ?_
     refine aH (aU (aF (?_)))
     refine aT aG 3 ?_
     refine bC ?_
     exact aH (aF (⟨rfl, _, (oI h1).symm, .eq (by kernel_rfl), hO, hN⟩))
    refine dW 6 ?_
    obtain rfl := oI h1
    obtain rfl : _ = rr0 := ho0
    replace h0 : kZ cmp4 rec aA = some r := h0
    exact aH (aR (aR (bF (aF (⟨rfl, _, .eq (by kernel_rfl), hO, hN, h0⟩)))))
   refine bN 4 ?_
   refine dK [(0, (.msl 3 lo0p 0 (List.length aA))), (2, (eI m2)), (4, (.fn (.func cmp4_f) cmp4_a cmp4_c)), (14, (eI a1)), (15, (eI m2))] ?_
   refine cQ (fun T H => ∃ aA : List aC, ∃ i14 : Int, ∃ j15 : Int, Has T [(0, (.msl 3 lo0p 0 (List.length aA))), (2, (eI m2)), (4, (.fn (.func cmp4_f) cmp4_a cmp4_c)), (14, (eI i14)), (15, (eI j15))] ∧ aK ⟨H0, [lo0p], []⟩ H [(lo0p, 3, List.map aD aA)] ∧ List.length aA = N0 ∧ oX cmp4 rec aA m2 i14 j15 = some r) ?_ ⟨aA, a1, m2, .eq (by kernel_rfl), hO, hN, h0⟩
   clear hO hN h0
   rintro T H ⟨aA, i14, j15, hT, hO, hN, h0⟩
   refine aY hT ?_
   clear hT
   unfold oX at h0
   obtain ⟨rr0, hl0, h0⟩ := aW h0
   refine cB (by kernel_rfl) (fun (s : List aC × Int × Int) T H => Has T [(0, (.msl 3 lo0p 0 (List.length s.1))), (2, (eI m2)), (4, (.fn (.func cmp4_f) cmp4_a cmp4_c)), (14, (eI s.2.1)), (15, (eI s.2.2))] ∧ aK ⟨H0, [lo0p], []⟩ H [(lo0p, 3, List.map aD s.1)] ∧ List.length s.1 = N0) hl0 ⟨.eq (by kernel_rfl), hO, hN⟩ ?_
   clear hO hN
   rintro k0 s out1 T H ⟨hT, hO, hN⟩ h1 ho0
   obtain ⟨aA, i14, j15⟩ := s
   replace h1 : oS cmp4 rec m2 aA i14 j15 = some out1 := h1
   try dsimp only at hT
   refine aY hT ?_
   clear hT
   unfold oS at h1
   refine aO ?_
   refine aS aG 3 [] [(85, (aJ (decide (i14 < j15))))] ?_
   refine bE h1 (fun h1 => ?_) (fun h1 => ?_)
   ·refine bG ?_
    refine bD [(0, (.msl 3 lo0p 0 (List.length aA))), (2, (eI m2)), (4, (.fn (.func cmp4_f) cmp4_a cmp4_c)), (14, (eI i14)), (15, (eI j15))] ?_
    refine bN 5 ?_
    refine aO ?_
    refine aT aG 7 ?_
    obtain ⟨c30, h1⟩ := aX h1
    refine qL [0 ≤ (1 : Int)] ⟨c30, trivial⟩ ?_
    refine bP [] [(16, (eI (wR (Int.fdiv (IntKind.u64.wrap (wR (i14 + j15))) (2 ^ (min (Int.toNat (1 : Int)) 64))))))] ?_
    refine aO ?_
    refine eR (eP [101]) aG 12 ?_
    obtain ⟨c31, h1⟩ := aX h1
    refine bQ 4 [0 ≤ m2 ∧ m2 < (lN aA)] ⟨c31, trivial⟩ ?_
    refine dN 0 lo0p 3 (0 + Int.toNat m2) (aD (gD aA m2)) (aD (gD aA m2)) (List.map aD aA) hO (bJ c31) ?_
    obtain ⟨c32, h1⟩ := aX h1
    refine bQ 8 [0 ≤ (wR (Int.fdiv (IntKind.u64.wrap (wR (i14 + j15))) (2 ^ (min (Int.toNat (1 : Int)) 64)))) ∧ (wR (Int.fdiv (IntKind.u64.wrap (wR (i14 + j15))) (2 ^ (min (Int.toNat (1 : Int)) 64)))) < (lN aA)] ⟨c32, trivial⟩ ?_
    refine dN 0 lo0p 3 (0 + Int.toNat (wR (Int.fdiv (IntKind.u64.wrap (wR (i14 + j15))) (2 ^ (min (Int.toNat (1 : Int)) 64))))) (aD (gD aA (wR (Int.fdiv (IntKind.u64.wrap (wR (i14 + j15))) (2 ^ (min (Int.toNat (1 : Int)) 64)))))) (aD (gD aA (wR (Int.fdiv (IntKind.u64.wrap (wR (i14 + j15))) (2 ^ (min (Int.toNat (1 : Int)) 64)))))) (List.map aD aA) hO (bJ c32) ?_
    obtain ⟨x33, hx34, h1⟩ := aW h1
    refine BA (cmp4_h (gD aA m2) (gD aA (wR (Int.fdiv (IntKind.u64.wrap (wR (i14 + j15))) (2 ^ (min (Int.toNat (1 : Int)) 64))))) _ hx34) hO ?_
    intro H hO
    refine jI ?_
    refine bP [] [(103, (aJ (!(decide (x33 < (0 : Int))))))] ?_
    refine bE h1 (fun h1 => ?_) (fun h1 => ?_)
    ·refine aT aG 3 ?_
     refine bC ?_
     exact aH (aU (aF (⟨rfl, _, (oI h1).symm, .eq (by kernel_rfl), hO, hN⟩)))
    refine aT aG 2 ?_
    refine bC ?_
    exact aH (aU (aF (⟨rfl, _, (oI h1).symm, .eq (by kernel_rfl), hO, hN⟩)))
   refine dW 4 ?_
   obtain rfl := oI h1
   obtain rfl : _ = rr0 := ho0
   replace h0 : lE cmp4 rec aA m2 i14 = some r := h0
   exact aH (aR (aR (bF (aF (⟨rfl, _, _, .eq (by kernel_rfl), hO, hN, h0⟩)))))
  refine bG ?_
  exact aH (aF (⟨rfl, _, .eq (by kernel_rfl), hO, hN, h0⟩))
 refine aS aG 4 [] [(28, (aJ (decide ((wR (m2 - a1)) = (1 : Int)))))] ?_
 refine bE h0 (fun h0 => ?_) (fun h0 => ?_)
 ·refine aS aG 2 [2, 28] [(10, (eI m2))] ?_
  refine aS aG 2 [3] [(11, (eI b3))] ?_
  refine dA (fun T H => ∃ aA : List aC, ∃ i10 : Int, Has T [(0, (.msl 3 lo0p 0 (List.length aA))), (1, (eI a1)), (10, (eI i10))] ∧ aK ⟨H0, [lo0p], []⟩ H [(lo0p, 3, List.map aD aA)] ∧ List.length aA = N0 ∧ kO cmp4 rec aA a1 i10 = some r) ?_ ?_
  ·clear hO hN h0
   rintro T H ⟨aA, i10, hT, hO, hN, h0⟩
   refine aY hT ?_
   clear hT
   unfold kO at h0
   refine dA (fun T H => ∃ aA : List aC, Has T [(0, (.msl 3 lo0p 0 (List.length aA)))] ∧ aK ⟨H0, [lo0p], []⟩ H [(lo0p, 3, List.map aD aA)] ∧ List.length aA = N0 ∧ kM cmp4 rec aA = some r) ?_ ?_
   ·clear hO hN h0
    rintro T H ⟨aA, hT, hO, hN, h0⟩
    refine aY hT ?_
    clear hT
    unfold kM at h0
    refine bL ?_
    obtain rfl := oI h0
    exact aH (bB (mB (x := (.tup [])) (by kernel_rfl) (aL.refl _) ⟨rfl, hO.ext, hO.at 0 (by kernel_rfl), by first | rfl | (simp only [List.length_map]; exact hN.trans hN0)⟩))
   refine aS aG 2 [1] [(13, (eI a1))] ?_
   refine bN 2 ?_
   refine dK [(0, (.msl 3 lo0p 0 (List.length aA))), (10, (eI i10)), (13, (eI a1))] ?_
   refine cQ (fun T H => ∃ aA : List aC, ∃ k13 : Int, Has T [(0, (.msl 3 lo0p 0 (List.length aA))), (10, (eI i10)), (13, (eI k13))] ∧ aK ⟨H0, [lo0p], []⟩ H [(lo0p, 3, List.map aD aA)] ∧ List.length aA = N0 ∧ oY cmp4 rec aA i10 k13 = some r) ?_ ⟨aA, a1, .eq (by kernel_rfl), hO, hN, h0⟩
   clear hO hN h0
   rintro T H ⟨aA, k13, hT, hO, hN, h0⟩
   refine aY hT ?_
   clear hT
   unfold oY at h0
   obtain ⟨rr0, hl0, h0⟩ := aW h0
   refine cB (by kernel_rfl) (fun (s : List aC × Int) T H => Has T [(0, (.msl 3 lo0p 0 (List.length s.1))), (10, (eI i10)), (13, (eI s.2))] ∧ aK ⟨H0, [lo0p], []⟩ H [(lo0p, 3, List.map aD s.1)] ∧ List.length s.1 = N0) hl0 ⟨.eq (by kernel_rfl), hO, hN⟩ ?_
   clear hO hN
   rintro k0 s out1 T H ⟨hT, hO, hN⟩ h1 ho0
   obtain ⟨aA, k13⟩ := s
   replace h1 : oN cmp4 rec i10 aA k13 = some out1 := h1
   try dsimp only at hT
   refine aY hT ?_
   clear hT
   unfold oN at h1
   refine aO ?_
   refine aS aG 4 [] [(58, (aJ (decide (k13 < (wR (i10 - (1 : Int)))))))] ?_
   refine bE h1 (fun h1 => ?_) (fun h1 => ?_)
   ·refine bG ?_
    refine bD [(0, (.msl 3 lo0p 0 (List.length aA))), (10, (eI i10)), (13, (eI k13))] ?_
    refine aO ?_
    refine bN 3 ?_
    refine eR (eP []) aG 18 ?_
    obtain ⟨c39, h1⟩ := aX h1
    refine bQ 9 [0 ≤ (wR (k13 + (1 : Int))) ∧ (wR (k13 + (1 : Int))) < (lN aA)] ⟨c39, trivial⟩ ?_
    refine dN 0 lo0p 3 (0 + Int.toNat (wR (k13 + (1 : Int)))) (aD (gD aA (wR (k13 + (1 : Int))))) (aD (gD aA (wR (k13 + (1 : Int))))) (List.map aD aA) hO (bJ c39) ?_
    obtain ⟨c40, h1⟩ := aX h1
    refine bQ 13 [0 ≤ k13 ∧ k13 < (lN aA)] ⟨c40, trivial⟩ ?_
    refine dN 0 lo0p 3 (0 + Int.toNat k13) (aD (gD aA k13)) (aD (gD aA k13)) (List.map aD aA) hO (bJ c40) ?_
    obtain ⟨c41, h1⟩ := aX h1
    refine bQ 15 [0 ≤ k13 ∧ k13 < (lN aA)] ⟨c41, trivial⟩ ?_
    refine iD 0 lo0p 3 (0 + Int.toNat k13) (aD (gD aA k13)) (aD (gD aA (wR (k13 + (1 : Int))))) (List.map aD aA) [(lo0p, 3, List.map aD (List.set aA (Int.toNat k13) (gD aA (wR (k13 + (1 : Int))))))] hO (bJ c41) (by simp only [List.set, eA]) ?_
    intro H hO
    replace hN : List.length (List.set aA (Int.toNat k13) (gD aA (wR (k13 + (1 : Int))))) = N0 := by simpa using hN
    obtain ⟨c42, h1⟩ := aX h1
    refine bQ 17 [0 ≤ (wR (k13 + (1 : Int))) ∧ (wR (k13 + (1 : Int))) < (lN aA)] ⟨c42, trivial⟩ ?_
    refine iD 0 lo0p 3 (0 + Int.toNat (wR (k13 + (1 : Int)))) (aD (gD (List.set aA (Int.toNat k13) (gD aA (wR (k13 + (1 : Int))))) (wR (k13 + (1 : Int))))) (aD (gD aA k13)) (List.map aD (List.set aA (Int.toNat k13) (gD aA (wR (k13 + (1 : Int)))))) [(lo0p, 3, List.map aD (List.set (List.set aA (Int.toNat k13) (gD aA (wR (k13 + (1 : Int))))) (Int.toNat (wR (k13 + (1 : Int)))) (gD aA k13)))] hO (lQ c42 (by simp [])) (by simp only [List.set, eA]) ?_
    intro H hO
    replace hN : List.length (List.set (List.set aA (Int.toNat k13) (gD aA (wR (k13 + (1 : Int))))) (Int.toNat (wR (k13 + (1 : Int)))) (gD aA k13)) = N0 := by simpa using hN
    refine nU (by kernel_rfl) ?_
    refine cA (l := [(0, (.msl 3 lo0p 0 (List.length (List.set (List.set aA (Int.toNat k13) (gD aA (wR (k13 + (1 : Int))))) (Int.toNat (wR (k13 + (1 : Int)))) (gD aA k13))))), (10, (eI i10)), (13, (eI k13))]) ⟨[(0, (.msl 3 lo0p 0 (List.length aA))), (10, (eI i10)), (13, (eI k13))], by kernel_rfl, rfl, ⟨aL.eq (by simp []), aL.refl _, aL.refl _, trivial⟩⟩ ?_
    refine aH (aU (aF (?_)))
    refine aT aG 3 ?_
    refine bC ?_
    exact aH (aF (⟨rfl, _, (oI h1).symm, .eq (by kernel_rfl), hO, hN⟩))
   refine dW 2 ?_
   obtain rfl := oI h1
   obtain rfl : _ = rr0 := ho0
   replace h0 : kM cmp4 rec aA = some r := h0
   exact aH (aR (aR (bF (aF (⟨rfl, _, .eq (by kernel_rfl), hO, hN, h0⟩)))))
  refine bN 0 ?_
  refine dK [(0, (.msl 3 lo0p 0 (List.length aA))), (1, (eI a1)), (4, (.fn (.func cmp4_f) cmp4_a cmp4_c)), (10, (eI m2)), (11, (eI b3))] ?_
  refine cQ (fun T H => ∃ aA : List aC, ∃ i10 : Int, ∃ j11 : Int, Has T [(0, (.msl 3 lo0p 0 (List.length aA))), (1, (eI a1)), (4, (.fn (.func cmp4_f) cmp4_a cmp4_c)), (10, (eI i10)), (11, (eI j11))] ∧ aK ⟨H0, [lo0p], []⟩ H [(lo0p, 3, List.map aD aA)] ∧ List.length aA = N0 ∧ oV cmp4 rec aA a1 i10 j11 = some r) ?_ ⟨aA, m2, b3, .eq (by kernel_rfl), hO, hN, h0⟩
  clear hO hN h0
  rintro T H ⟨aA, i10, j11, hT, hO, hN, h0⟩
  refine aY hT ?_
  clear hT
  unfold oV at h0
  obtain ⟨rr0, hl0, h0⟩ := aW h0
  refine cB (by kernel_rfl) (fun (s : List aC × Int × Int) T H => Has T [(0, (.msl 3 lo0p 0 (List.length s.1))), (1, (eI a1)), (4, (.fn (.func cmp4_f) cmp4_a cmp4_c)), (10, (eI s.2.1)), (11, (eI s.2.2))] ∧ aK ⟨H0, [lo0p], []⟩ H [(lo0p, 3, List.map aD s.1)] ∧ List.length s.1 = N0) hl0 ⟨.eq (by kernel_rfl), hO, hN⟩ ?_
  clear hO hN
  rintro k0 s out1 T H ⟨hT, hO, hN⟩ h1 ho0
  obtain ⟨aA, i10, j11⟩ := s
  replace h1 : oQ cmp4 rec a1 aA i10 j11 = some out1 := h1
  try dsimp only at hT
  refine aY hT ?_
  clear hT
  unfold oQ at h1
  refine aO ?_
  refine aS aG 3 [] [(33, (aJ (decide (i10 < j11))))] ?_
  refine bE h1 (fun h1 => ?_) (fun h1 => ?_)
  ·refine bG ?_
   refine bD [(0, (.msl 3 lo0p 0 (List.length aA))), (1, (eI a1)), (4, (.fn (.func cmp4_f) cmp4_a cmp4_c)), (10, (eI i10)), (11, (eI j11))] ?_
   refine bN 1 ?_
   refine aO ?_
   refine aT aG 7 ?_
   obtain ⟨c44, h1⟩ := aX h1
   refine qL [0 ≤ (1 : Int)] ⟨c44, trivial⟩ ?_
   refine bP [] [(12, (eI (wR (Int.fdiv (IntKind.u64.wrap (wR (i10 + j11))) (2 ^ (min (Int.toNat (1 : Int)) 64))))))] ?_
   refine aO ?_
   refine eR (eP [49]) aG 11 ?_
   obtain ⟨c45, h1⟩ := aX h1
   refine bQ 4 [0 ≤ (wR (Int.fdiv (IntKind.u64.wrap (wR (i10 + j11))) (2 ^ (min (Int.toNat (1 : Int)) 64)))) ∧ (wR (Int.fdiv (IntKind.u64.wrap (wR (i10 + j11))) (2 ^ (min (Int.toNat (1 : Int)) 64)))) < (lN aA)] ⟨c45, trivial⟩ ?_
   refine dN 0 lo0p 3 (0 + Int.toNat (wR (Int.fdiv (IntKind.u64.wrap (wR (i10 + j11))) (2 ^ (min (Int.toNat (1 : Int)) 64))))) (aD (gD aA (wR (Int.fdiv (IntKind.u64.wrap (wR (i10 + j11))) (2 ^ (min (Int.toNat (1 : Int)) 64)))))) (aD (gD aA (wR (Int.fdiv (IntKind.u64.wrap (wR (i10 + j11))) (2 ^ (min (Int.toNat (1 : Int)) 64)))))) (List.map aD aA) hO (bJ c45) ?_
   obtain ⟨c46, h1⟩ := aX h1
   refine bQ 8 [0 ≤ a1 ∧ a1 < (lN aA)] ⟨c46, trivial⟩ ?_
   refine dN 0 lo0p 3 (0 + Int.toNat a1) (aD (gD aA a1)) (aD (gD aA a1)) (List.map aD aA) hO (bJ c46) ?_
   obtain ⟨x47, hx48, h1⟩ := aW h1
   refine BA (cmp4_h (gD aA (wR (Int.fdiv (IntKind.u64.wrap (wR (i10 + j11))) (2 ^ (min (Int.toNat (1 : Int)) 64))))) (gD aA a1) _ hx48) hO ?_
   intro H hO
   refine jI ?_
   refine bP [] [(50, (aJ (decide (x47 < (0 : Int)))))] ?_
   refine bE h1 (fun h1 => ?_) (fun h1 => ?_)
   ·refine aT aG 3 ?_
    refine bC ?_
    exact aH (aU (aF (⟨rfl, _, (oI h1).symm, .eq (by kernel_rfl), hO, hN⟩)))
   refine aT aG 2 ?_
   refine bC ?_
   exact aH (aU (aF (⟨rfl, _, (oI h1).symm, .eq (by kernel_rfl), hO, hN⟩)))
  refine dW 0 ?_
  obtain rfl := oI h1
  obtain rfl : _ = rr0 := ho0
  replace h0 : kO cmp4 rec aA a1 i10 = some r := h0
  exact aH (aR (aR (bF (aF (⟨rfl, _, _, .eq (by kernel_rfl), hO, hN, h0⟩)))))
 refine bG ?_
 exact aH (aF (⟨rfl, _, .eq (by kernel_rfl), hO, hN, h0⟩))

theorem sQ (cmp4_f : Nat) (cmp4_a cmp4_c : List V) (cmp4 : aC → aC → Option Int) (cmp4_h : ∀ a0 a1 r, cmp4 a0 a1 = some r → cO Tryz.prog cmp4_f (cmp4_a ++ [(aD a0), (aD a1)] ++ cmp4_c) (eI r)) : ∀ (k : Nat) (lo0p : Nat) (aA : (List aC)) (a1 : Int) (m2 : Int) (b3 : Int) (r : List aC), lA cmp4 k aA a1 m2 b3 = some r → iG Tryz.prog 70 lo0p 3 (List.map aD aA) (List.map aD r) [(.msl 3 lo0p 0 (List.length aA)), (eI a1), (eI m2), (eI b3), (.fn (.func cmp4_f) cmp4_a cmp4_c)] (.tup [])
 | 0, _, _, _, _, _, _, h => by cases h
 | k + 1, lo0p, aA, a1, m2, b3, r, h => xT cmp4_f cmp4_a cmp4_c cmp4 cmp4_h _ (sQ cmp4_f cmp4_a cmp4_c cmp4 cmp4_h k) lo0p aA a1 m2 b3 r h

theorem tQ (lo0p : Nat) (aA : (List aC)) (a1 : Int) (m2 : Int) (b3 : Int) (cmp4_f : Nat) (cmp4_a cmp4_c : List V) (cmp4 : aC → aC → Option Int) (cmp4_h : ∀ a0 a1 r, cmp4 a0 a1 = some r → cO Tryz.prog cmp4_f (cmp4_a ++ [(aD a0), (aD a1)] ++ cmp4_c) (eI r)) (r : List aC) (h0 : iK aA a1 m2 b3 cmp4 = some r) : iG Tryz.prog 70 lo0p 3 (List.map aD aA) (List.map aD r) [(.msl 3 lo0p 0 (List.length aA)), (eI a1), (eI m2), (eI b3), (.fn (.func cmp4_f) cmp4_a cmp4_c)] (.tup []) := by
 obtain ⟨k, hk⟩ := EJ h0
 exact sQ cmp4_f cmp4_a cmp4_c cmp4 cmp4_h k lo0p aA a1 m2 b3 r hk

theorem BS (lo0p : Nat) (aA : (List aC)) (n1 : Int) (cmp2_f : Nat) (cmp2_a cmp2_c : List V) (cmp2 : aC → aC → Option Int) (cmp2_h : ∀ a0 a1 r, cmp2 a0 a1 = some r → cO Tryz.prog cmp2_f (cmp2_a ++ [(aD a0), (aD a1)] ++ cmp2_c) (eI r)) (r : List aC) (h0 : jJ aA n1 cmp2 = some r) : iG Tryz.prog 44 lo0p 3 (List.map aD aA) (List.map aD r) [(.msl 3 lo0p 0 (List.length aA)), (eI n1), (.fn (.func cmp2_f) cmp2_a cmp2_c)] (.tup []) := by
 intro H0 hl0
 refine cP Tryz.func44 ?_
 have hO := aK.nP hl0
 clear hl0
 obtain ⟨N0, hN0⟩ : ∃ n, n = List.length aA := ⟨_, rfl⟩
 have hN : List.length aA = N0 := hN0.symm
 unfold jJ at h0
 refine aS aG 1 [] [(6, (eI (20 : Int)))] ?_
 refine aS aG 3 [] [(7, (eI (0 : Int))), (8, (eI (20 : Int)))] ?_
 refine dA (fun T H => ∃ aA : List aC, ∃ aP : Int, ∃ a7 : Int, Has T [(0, (.msl 3 lo0p 0 (List.length aA))), (1, (eI n1)), (2, (.fn (.func cmp2_f) cmp2_a cmp2_c)), (6, (eI aP)), (7, (eI a7))] ∧ aK ⟨H0, [lo0p], []⟩ H [(lo0p, 3, List.map aD aA)] ∧ List.length aA = N0 ∧ jF cmp2 aA n1 aP a7 = some r) ?_ ?_
 ·clear hO hN h0
  rintro T H ⟨aA, aP, a7, hT, hO, hN, h0⟩
  refine aY hT ?_
  clear hT
  unfold jF at h0
  refine aO ?_
  refine aT aG 5 ?_
  refine bI 4 ?_
  obtain ⟨x1, hx2, h0⟩ := aW h0
  refine nE [(lo0p, 3, List.map aD x1)] 0 (rZ lo0p aA a7 n1 cmp2_f cmp2_a cmp2_c cmp2 cmp2_h _ hx2) hO ?_
  intro H hO hl3
  simp only [List.length_map] at hl3
  replace hN := hl3.trans hN
  refine dG ?_
  refine cA (l := [(0, (.msl 3 lo0p 0 (List.length x1))), (1, (eI n1)), (2, (.fn (.func cmp2_f) cmp2_a cmp2_c)), (6, (eI aP))]) ⟨[(0, (.msl 3 lo0p 0 (List.length aA))), (1, (eI n1)), (2, (.fn (.func cmp2_f) cmp2_a cmp2_c)), (6, (eI aP))], by kernel_rfl, rfl, ⟨aL.eq (by simp [hl3]), aL.refl _, aL.refl _, aL.refl _, trivial⟩⟩ ?_
  refine aH (aF (?_))
  refine bN 2 ?_
  refine dK [(0, (.msl 3 lo0p 0 (List.length x1))), (1, (eI n1)), (2, (.fn (.func cmp2_f) cmp2_a cmp2_c)), (6, (eI aP))] ?_
  refine cQ (fun T H => ∃ aA : List aC, ∃ aP : Int, Has T [(0, (.msl 3 lo0p 0 (List.length aA))), (1, (eI n1)), (2, (.fn (.func cmp2_f) cmp2_a cmp2_c)), (6, (eI aP))] ∧ aK ⟨H0, [lo0p], []⟩ H [(lo0p, 3, List.map aD aA)] ∧ List.length aA = N0 ∧ lZ cmp2 aA n1 aP = some r) ?_ ⟨x1, aP, .eq (by kernel_rfl), hO, hN, h0⟩
  clear hO hN h0
  rintro T H ⟨aA, aP, hT, hO, hN, h0⟩
  refine aY hT ?_
  clear hT
  unfold lZ at h0
  obtain ⟨rr0, hl0, h0⟩ := aW h0
  refine cB (by kernel_rfl) (fun (s : List aC × Int) T H => Has T [(0, (.msl 3 lo0p 0 (List.length s.1))), (1, (eI n1)), (2, (.fn (.func cmp2_f) cmp2_a cmp2_c)), (6, (eI s.2))] ∧ aK ⟨H0, [lo0p], []⟩ H [(lo0p, 3, List.map aD s.1)] ∧ List.length s.1 = N0) hl0 ⟨.eq (by kernel_rfl), hO, hN⟩ ?_
  clear hO hN
  rintro k0 s out1 T H ⟨hT, hO, hN⟩ h1 ho0
  obtain ⟨aA, aP⟩ := s
  replace h1 : mK cmp2 n1 aA aP = some out1 := h1
  try dsimp only at hT
  refine aY hT ?_
  clear hT
  unfold mK at h1
  refine aO ?_
  refine aS aG 3 [] [(30, (aJ (decide (aP < n1))))] ?_
  refine bE h1 (fun h1 => ?_) (fun h1 => ?_)
  ·refine bG ?_
   refine bD [(0, (.msl 3 lo0p 0 (List.length aA))), (1, (eI n1)), (2, (.fn (.func cmp2_f) cmp2_a cmp2_c)), (6, (eI aP))] ?_
   refine bN 3 ?_
   refine aS aG 4 [] [(7, (eI (0 : Int))), (8, (eI (wR ((2 : Int) * aP))))] ?_
   refine dA (fun T H => ∃ aA : List aC, ∃ a7 : Int, Has T [(0, (.msl 3 lo0p 0 (List.length aA))), (1, (eI n1)), (2, (.fn (.func cmp2_f) cmp2_a cmp2_c)), (6, (eI aP)), (7, (eI a7))] ∧ aK ⟨H0, [lo0p], []⟩ H [(lo0p, 3, List.map aD aA)] ∧ List.length aA = N0 ∧ jC cmp2 aA n1 aP a7 = some out1) ?_ ?_
   ·clear hO hN h1
    rintro T H ⟨aA, a7, hT, hO, hN, h1⟩
    refine aY hT ?_
    clear hT
    unfold jC at h1
    refine dA (fun T H => ∃ aA : List aC, Has T [(0, (.msl 3 lo0p 0 (List.length aA))), (1, (eI n1)), (2, (.fn (.func cmp2_f) cmp2_a cmp2_c)), (6, (eI aP))] ∧ aK ⟨H0, [lo0p], []⟩ H [(lo0p, 3, List.map aD aA)] ∧ List.length aA = N0 ∧ mM cmp2 aA n1 aP = some out1) ?_ ?_
    ·clear hO hN h1
     rintro T H ⟨aA, hT, hO, hN, h1⟩
     refine aY hT ?_
     clear hT
     unfold mM at h1
     refine aT aG 3 ?_
     refine bC ?_
     exact aH (aU (aF (⟨rfl, _, (oI h1).symm, .eq (by kernel_rfl), hO, hN⟩)))
    refine aS aG 4 [] [(9, (eI (wR (a7 + aP))))] ?_
    refine aS aG 3 [] [(54, (aJ (decide ((wR (a7 + aP)) < n1))))] ?_
    refine bE h1 (fun h1 => ?_) (fun h1 => ?_)
    ·refine aT aG 6 ?_
     refine bI 5 ?_
     obtain ⟨x6, hx7, h1⟩ := aW h1
     refine nE [(lo0p, 3, List.map aD x6)] 0 (tQ lo0p aA a7 (wR (a7 + aP)) n1 cmp2_f cmp2_a cmp2_c cmp2 cmp2_h _ hx7) hO ?_
     intro H hO hl8
     simp only [List.length_map] at hl8
     replace hN := hl8.trans hN
     refine dG ?_
     refine cA (l := [(0, (.msl 3 lo0p 0 (List.length x6))), (1, (eI n1)), (2, (.fn (.func cmp2_f) cmp2_a cmp2_c)), (6, (eI aP))]) ⟨[(0, (.msl 3 lo0p 0 (List.length aA))), (1, (eI n1)), (2, (.fn (.func cmp2_f) cmp2_a cmp2_c)), (6, (eI aP))], by kernel_rfl, rfl, ⟨aL.eq (by simp [hl8]), aL.refl _, aL.refl _, aL.refl _, trivial⟩⟩ ?_
     exact aH (aF (⟨rfl, _, .eq (by kernel_rfl), hO, hN, h1⟩))
    refine bG ?_
    exact aH (aF (⟨rfl, _, .eq (by kernel_rfl), hO, hN, h1⟩))
   refine bN 4 ?_
   refine dK [(0, (.msl 3 lo0p 0 (List.length aA))), (1, (eI n1)), (2, (.fn (.func cmp2_f) cmp2_a cmp2_c)), (6, (eI aP)), (7, (eI (0 : Int))), (8, (eI (wR ((2 : Int) * aP))))] ?_
   refine cQ (fun T H => ∃ aA : List aC, ∃ a7 : Int, ∃ b8 : Int, Has T [(0, (.msl 3 lo0p 0 (List.length aA))), (1, (eI n1)), (2, (.fn (.func cmp2_f) cmp2_a cmp2_c)), (6, (eI aP)), (7, (eI a7)), (8, (eI b8))] ∧ aK ⟨H0, [lo0p], []⟩ H [(lo0p, 3, List.map aD aA)] ∧ List.length aA = N0 ∧ mI cmp2 aA n1 aP a7 b8 = some out1) ?_ ⟨aA, (0 : Int), wR ((2 : Int) * aP), .eq (by kernel_rfl), hO, hN, h1⟩
   clear hO hN h1
   rintro T H ⟨aA, a7, b8, hT, hO, hN, h1⟩
   refine aY hT ?_
   clear hT
   unfold mI at h1
   obtain ⟨rr1, hl1, h1⟩ := aW h1
   refine cB (by kernel_rfl) (fun (s : List aC × Int × Int) T H => Has T [(0, (.msl 3 lo0p 0 (List.length s.1))), (1, (eI n1)), (2, (.fn (.func cmp2_f) cmp2_a cmp2_c)), (6, (eI aP)), (7, (eI s.2.1)), (8, (eI s.2.2))] ∧ aK ⟨H0, [lo0p], []⟩ H [(lo0p, 3, List.map aD s.1)] ∧ List.length s.1 = N0) hl1 ⟨.eq (by kernel_rfl), hO, hN⟩ ?_
   clear hO hN
   rintro k1 s out2 T H ⟨hT, hO, hN⟩ h2 ho1
   obtain ⟨aA, a7, b8⟩ := s
   replace h2 : mL cmp2 n1 aP aA a7 b8 = some out2 := h2
   try dsimp only at hT
   refine aY hT ?_
   clear hT
   unfold mL at h2
   refine aO ?_
   refine aS aG 3 [] [(35, (aJ (decide (b8 ≤ n1))))] ?_
   refine bE h2 (fun h2 => ?_) (fun h2 => ?_)
   ·refine bG ?_
    refine bD [(0, (.msl 3 lo0p 0 (List.length aA))), (1, (eI n1)), (2, (.fn (.func cmp2_f) cmp2_a cmp2_c)), (6, (eI aP)), (7, (eI a7)), (8, (eI b8))] ?_
    refine bN 5 ?_
    refine aO ?_
    refine aT aG 8 ?_
    refine bI 7 ?_
    obtain ⟨x10, hx11, h2⟩ := aW h2
    refine nE [(lo0p, 3, List.map aD x10)] 0 (tQ lo0p aA a7 (wR (a7 + aP)) b8 cmp2_f cmp2_a cmp2_c cmp2 cmp2_h _ hx11) hO ?_
    intro H hO hl12
    simp only [List.length_map] at hl12
    replace hN := hl12.trans hN
    refine dG ?_
    refine cA (l := [(0, (.msl 3 lo0p 0 (List.length x10))), (1, (eI n1)), (2, (.fn (.func cmp2_f) cmp2_a cmp2_c)), (6, (eI aP)), (8, (eI b8))]) ⟨[(0, (.msl 3 lo0p 0 (List.length aA))), (1, (eI n1)), (2, (.fn (.func cmp2_f) cmp2_a cmp2_c)), (6, (eI aP)), (8, (eI b8))], by kernel_rfl, rfl, ⟨aL.eq (by simp [hl12]), aL.refl _, aL.refl _, aL.refl _, aL.refl _, trivial⟩⟩ ?_
    refine aH (aF (?_))
    refine aS aG 2 [] [(7, (eI b8))] ?_
    refine aT aG 5 ?_
    refine bC ?_
    exact aH (aU (aF (⟨rfl, _, (oI h2).symm, .eq (by kernel_rfl), hO, hN⟩)))
   refine dW 4 ?_
   obtain rfl := oI h2
   obtain rfl : _ = rr1 := ho1
   replace h1 : jC cmp2 aA n1 aP a7 = some out1 := h1
   exact aH (aR (aR (bF (aF (⟨rfl, _, _, .eq (by kernel_rfl), hO, hN, h1⟩)))))
  refine dW 2 ?_
  obtain rfl := oI h1
  obtain rfl : _ = rr0 := ho0
  replace h0 : some aA = some r := h0
  obtain rfl := oI h0
  exact aH (aR (aR (bF (rY (x := (.tup [])) (by kernel_rfl) (aL.refl _) ⟨rfl, hO.ext, hO.at 0 (by kernel_rfl), by first | rfl | (simp only [List.length_map]; exact hN.trans hN0)⟩))))
 refine bN 0 ?_
 refine dK [(0, (.msl 3 lo0p 0 (List.length aA))), (1, (eI n1)), (2, (.fn (.func cmp2_f) cmp2_a cmp2_c)), (6, (eI (20 : Int))), (7, (eI (0 : Int))), (8, (eI (20 : Int)))] ?_
 refine cQ (fun T H => ∃ aA : List aC, ∃ aP : Int, ∃ a7 : Int, ∃ b8 : Int, Has T [(0, (.msl 3 lo0p 0 (List.length aA))), (1, (eI n1)), (2, (.fn (.func cmp2_f) cmp2_a cmp2_c)), (6, (eI aP)), (7, (eI a7)), (8, (eI b8))] ∧ aK ⟨H0, [lo0p], []⟩ H [(lo0p, 3, List.map aD aA)] ∧ List.length aA = N0 ∧ mG cmp2 aA n1 aP a7 b8 = some r) ?_ ⟨aA, (20 : Int), (0 : Int), (20 : Int), .eq (by kernel_rfl), hO, hN, h0⟩
 clear hO hN h0
 rintro T H ⟨aA, aP, a7, b8, hT, hO, hN, h0⟩
 refine aY hT ?_
 clear hT
 unfold mG at h0
 obtain ⟨rr0, hl0, h0⟩ := aW h0
 refine cB (by kernel_rfl) (fun (s : List aC × Int × Int) T H => Has T [(0, (.msl 3 lo0p 0 (List.length s.1))), (1, (eI n1)), (2, (.fn (.func cmp2_f) cmp2_a cmp2_c)), (6, (eI aP)), (7, (eI s.2.1)), (8, (eI s.2.2))] ∧ aK ⟨H0, [lo0p], []⟩ H [(lo0p, 3, List.map aD s.1)] ∧ List.length s.1 = N0) hl0 ⟨.eq (by kernel_rfl), hO, hN⟩ ?_
 clear hO hN
 rintro k0 s out1 T H ⟨hT, hO, hN⟩ h1 ho0
 obtain ⟨aA, a7, b8⟩ := s
 replace h1 : lY cmp2 n1 aP aA a7 b8 = some out1 := h1
 try dsimp only at hT
 refine aY hT ?_
 clear hT
 unfold lY at h1
 refine aO ?_
 refine aS aG 3 [] [(13, (aJ (decide (b8 ≤ n1))))] ?_
 refine bE h1 (fun h1 => ?_) (fun h1 => ?_)
 ·refine bG ?_
  refine bD [(0, (.msl 3 lo0p 0 (List.length aA))), (1, (eI n1)), (2, (.fn (.func cmp2_f) cmp2_a cmp2_c)), (6, (eI aP)), (7, (eI a7)), (8, (eI b8))] ?_
  refine bN 1 ?_
  refine aO ?_
  refine aT aG 5 ?_
  refine bI 4 ?_
  obtain ⟨x14, hx15, h1⟩ := aW h1
  refine nE [(lo0p, 3, List.map aD x14)] 0 (rZ lo0p aA a7 b8 cmp2_f cmp2_a cmp2_c cmp2 cmp2_h _ hx15) hO ?_
  intro H hO hl16
  simp only [List.length_map] at hl16
  replace hN := hl16.trans hN
  refine dG ?_
  refine cA (l := [(0, (.msl 3 lo0p 0 (List.length x14))), (1, (eI n1)), (2, (.fn (.func cmp2_f) cmp2_a cmp2_c)), (6, (eI aP)), (8, (eI b8))]) ⟨[(0, (.msl 3 lo0p 0 (List.length aA))), (1, (eI n1)), (2, (.fn (.func cmp2_f) cmp2_a cmp2_c)), (6, (eI aP)), (8, (eI b8))], by kernel_rfl, rfl, ⟨aL.eq (by simp [hl16]), aL.refl _, aL.refl _, aL.refl _, aL.refl _, trivial⟩⟩ ?_
  refine aH (aF (?_))
  refine aS aG 2 [] [(7, (eI b8))] ?_
  refine aT aG 4 ?_
  refine bC ?_
  exact aH (aU (aF (⟨rfl, _, (oI h1).symm, .eq (by kernel_rfl), hO, hN⟩)))
 refine dW 0 ?_
 obtain rfl := oI h1
 obtain rfl : _ = rr0 := ho0
 replace h0 : jF cmp2 aA n1 aP a7 = some r := h0
 exact aH (aR (aR (bF (aF (⟨rfl, _, _, _, .eq (by kernel_rfl), hO, hN, h0⟩)))))

theorem vX (lo0p : Nat) (x0 : (List aC)) (cmp1_f : Nat) (cmp1_a cmp1_c : List V) (cmp1 : aC → aC → Option Int) (cmp1_h : ∀ a0 a1 r, cmp1 a0 a1 = some r → cO Tryz.prog cmp1_f (cmp1_a ++ [(aD a0), (aD a1)] ++ cmp1_c) (eI r)) (r : List aC) (h0 : fC x0 cmp1 = some r) : iG Tryz.prog 21 lo0p 3 (List.map aD x0) (List.map aD r) [(.msl 3 lo0p 0 (List.length x0)), (.fn (.func cmp1_f) cmp1_a cmp1_c)] (.tup []) := by
 intro H0 hl0
 refine cP Tryz.func21 ?_
 have hO := aK.nP hl0
 clear hl0
 obtain ⟨N0, hN0⟩ : ∃ n, n = List.length x0 := ⟨_, rfl⟩
 have hN : List.length x0 = N0 := hN0.symm
 unfold fC at h0
 refine aT aG 5 ?_
 refine bI 4 ?_
 obtain ⟨x1, hx2, h0⟩ := aW h0
 refine nE [(lo0p, 3, List.map aD x1)] 0 (BS lo0p x0 (lN x0) cmp1_f cmp1_a cmp1_c cmp1 cmp1_h _ hx2) hO ?_
 intro H hO hl3
 simp only [List.length_map] at hl3
 replace hN := hl3.trans hN
 refine dG ?_
 refine cA (l := [(0, (.msl 3 lo0p 0 (List.length x1)))]) ⟨[(0, (.msl 3 lo0p 0 (List.length x0)))], by kernel_rfl, rfl, ⟨aL.eq (by simp [hl3]), trivial⟩⟩ ?_
 obtain rfl := oI h0
 exact aH (rY (x := (.tup [])) (by kernel_rfl) (aL.refl _) ⟨rfl, hO.ext, hO.at 0 (by kernel_rfl), by simp only [List.length_map]; exact hN.trans hN0⟩)

theorem YB (CR : (List Int)) (r : Int) (h0 : yU CR = some r) : cO Tryz.prog 23 [(eL (eI) CR)] (eI r) := by
 intro H0
 refine cP Tryz.func23 ?_
 have hO := aK.start H0
 unfold yU at h0
 refine aS aG 1 [] [] ?_
 refine aS aG 1 [] [(3, (eI (0 : Int)))] ?_
 refine dA (fun T H => ∃ sN : Int, Has T [(3, (eI sN))] ∧ aK ⟨H0, [], []⟩ H [] ∧ xI sN = some r) ?_ ?_
 ·clear hO h0
  rintro T H ⟨sN, hT, hO, h0⟩
  refine aY hT ?_
  clear hT
  unfold xI at h0
  refine cH aG 2 [(2, (eI sN))] ?_
  refine bL ?_
  obtain rfl := oI h0
  exact aH (Q_r hO)
 refine aS aG 3 [0] [(6, (eL (eI) CR)), (7, (eI (lN CR))), (8, (eI (0 : Int)))] ?_
 refine bN 0 ?_
 refine dK [(3, (eI (0 : Int))), (6, (eL (eI) CR)), (7, (eI (lN CR))), (8, (eI (0 : Int)))] ?_
 refine cQ (fun T H => ∃ sN : Int, ∃ t6 : (List Int), ∃ t7 : Int, ∃ t8 : Int, Has T [(3, (eI sN)), (6, (eL (eI) t6)), (7, (eI t7)), (8, (eI t8))] ∧ aK ⟨H0, [], []⟩ H [] ∧ AQ sN t6 t7 t8 = some r) ?_ ⟨(0 : Int), CR, (lN CR), (0 : Int), .eq (by kernel_rfl), hO, h0⟩
 clear hO h0
 rintro T H ⟨sN, t6, t7, t8, hT, hO, h0⟩
 refine aY hT ?_
 clear hT
 unfold AQ at h0
 obtain ⟨rr0, hl0, h0⟩ := aW h0
 refine cB (by kernel_rfl) (fun (s : Int) T H => Has T [(3, (eI sN)), (6, (eL (eI) t6)), (7, (eI t7)), (8, (eI s))] ∧ aK ⟨H0, [], []⟩ H []) hl0 ⟨.eq (by kernel_rfl), hO⟩ ?_
 clear hO
 rintro k0 s out1 T H ⟨hT, hO⟩ h1 ho0
 obtain ⟨t8, rfl⟩ : ∃ x, x = s := ⟨_, rfl⟩
 replace h1 : lO sN t6 t7 t8 = some out1 := h1
 refine aY hT ?_
 clear hT
 unfold lO at h1
 refine aS aG 1 [] [(9, (aJ (decide (t8 < t7))))] ?_
 refine aO ?_
 refine bE h1 (fun h1 => ?_) (fun h1 => ?_)
 ·refine bG ?_
  refine bD [(3, (eI sN)), (6, (eL (eI) t6)), (7, (eI t7)), (8, (eI t8))] ?_
  refine aO ?_
  refine bN 1 ?_
  refine aO ?_
  refine aT aG 3 ?_
  obtain ⟨c2, h1⟩ := aX h1
  refine qL [0 ≤ t8 ∧ t8 < (lN t6)] ⟨c2, trivial⟩ ?_
  refine bP [] [(5, (eI (gD t6 t8)))] ?_
  refine aS aG 3 [] [(14, (aJ (!decide ((gD t6 t8) = sN))))] ?_
  refine bE h1 (fun h1 => ?_) (fun h1 => ?_)
  ·refine cH aG 2 [(2, (eI (gD t6 t8)))] ?_
   refine bL ?_
   obtain rfl := oI h1
   obtain rfl : _ = rr0 := ho0
   replace h0 : some (gD t6 t8) = some r := h0
   obtain rfl := oI h0
   exact aH (bT (bB (bB (bT (bB (Q_r hO))))))
  refine bG ?_
  refine gV [(3, (eI sN)), (6, (eL (eI) t6)), (7, (eI t7)), (8, (eI t8))] ?_
  refine aH (aU (aF (?_)))
  refine aT aG 2 ?_
  refine bC ?_
  exact aH (aF (⟨rfl, _, (oI h1).symm, .eq (by kernel_rfl), hO⟩))
 refine dW 0 ?_
 obtain rfl := oI h1
 obtain rfl : _ = rr0 := ho0
 replace h0 : xI sN = some r := h0
 exact aH (aR (aR (bF (aF (⟨rfl, _, .eq (by kernel_rfl), hO, h0⟩)))))

theorem US (x0 : aC) (y1 : aC) (r : Int) (h0 : rS x0 y1 = some r) : cO Tryz.prog 22 [(aD x0), (aD y1)] (eI r) := by
 intro H0
 refine cP Tryz.func22 ?_
 have hO := aK.start H0
 unfold rS at h0
 refine aO ?_
 refine aT aG 3 ?_
 refine qG 3 (aD x0) (by kernel_rfl) (by kernel_rfl) ?_
 refine qG 3 (aD y1) (by kernel_rfl) (by kernel_rfl) ?_
 refine bC ?_
 refine bD [(2, (.rp (aD x0))), (3, (.rp (aD y1)))] ?_
 refine aO ?_
 refine eR (eP [6, 8, 9, 11, 13, 14, 15, 16]) aG 13 ?_
 refine qV 4 ?_
 obtain ⟨x1, hx2, h0⟩ := aW h0
 refine BA (KG x0.Row y1.Row _ hx2) hO ?_
 intro H hO
 refine qV 9 ?_
 obtain ⟨x4, hx5, h0⟩ := aW h0
 refine BA (zU x0.At y1.At _ hx5) hO ?_
 intro H hO
 refine PU (xs := [(eI x1), (eI x4)]) (k := 1) (by kernel_rfl) (by kernel_rfl) ?_
 obtain ⟨x7, hx8, h0⟩ := aW h0
 refine aAC 23 [(kD [(eI x1), (eI x4)])] (eI x7) (by kernel_rfl) (by kernel_rfl) (cO.sub (YB ([x1, x4]) _ hx8) ⟨LK (l := [x1, x4]), trivial⟩) hO ?_
 intro H hO
 refine jI ?_
 refine bD [(4, (eI x7))] ?_
 refine bL ?_
 obtain rfl := oI h0
 exact aH (Q_r hO)

theorem aBq (lo0p : Nat) (l0 : (List aC)) (r1 : (List aI)) (f2 : (List aB)) (r : (List aC)) (h0 : CK l0 r1 f2 = some r) : JB Tryz.prog 50 lo0p 3 (List.map aD l0) [(.msl 3 lo0p 0 (List.length l0)), (eL aN r1), (eL aE f2)] (fun lo => .msl 3 lo 0 (List.length r)) (List.map aD r) := by
 intro H0 hl0
 refine cP Tryz.func50 ?_
 have hO := aK.nP hl0
 clear hl0
 unfold CK at h0
 refine aS aG 1 [] [] ?_
 refine dA (fun T H => ∃ l0 : List aC, ∃ lo1 : Nat, Has T [(0, (.msl 3 lo1 0 (List.length l0)))] ∧ aK ⟨H0, [lo0p], []⟩ H [(lo1, 3, List.map aD l0)] ∧ DR l0 = some r) ?_ ?_
 ·clear hO h0
  rintro T H ⟨l0, lo1, hT, hO, h0⟩
  refine aY hT ?_
  clear hT
  unfold DR at h0
  refine cH aG 2 [(6, (.msl 3 lo1 0 (List.length l0)))] ?_
  refine bL ?_
  obtain rfl := oI h0
  exact aH (mB (x := (.msl 3 lo1 0 (List.length l0))) (by kernel_rfl) (aL.refl _) ⟨lo1, rfl, hO⟩)
 refine aS aG 3 [2] [(9, (eL aE f2)), (10, (eI (lN f2))), (11, (eI (0 : Int)))] ?_
 refine bN 0 ?_
 refine dK [(0, (.msl 3 lo0p 0 (List.length l0))), (1, (eL aN r1)), (9, (eL aE f2)), (10, (eI (lN f2))), (11, (eI (0 : Int)))] ?_
 refine cQ (fun T H => ∃ l0 : List aC, ∃ t9 : (List aB), ∃ t10 : Int, ∃ t11 : Int, ∃ lo3 : Nat, Has T [(0, (.msl 3 lo3 0 (List.length l0))), (1, (eL aN r1)), (9, (eL aE t9)), (10, (eI t10)), (11, (eI t11))] ∧ aK ⟨H0, [lo0p], []⟩ H [(lo3, 3, List.map aD l0)] ∧ DQ l0 r1 t9 t10 t11 = some r) ?_ ⟨l0, f2, (lN f2), (0 : Int), lo0p, .eq (by kernel_rfl), hO, h0⟩
 clear hO h0
 rintro T H ⟨l0, t9, t10, t11, lo3, hT, hO, h0⟩
 refine aY hT ?_
 clear hT
 unfold DQ at h0
 obtain ⟨rr0, hl0, h0⟩ := aW h0
 refine cB (by kernel_rfl) (fun (s : List aC × Int) T H => ∃ lo3 : Nat, Has T [(0, (.msl 3 lo3 0 (List.length s.1))), (1, (eL aN r1)), (9, (eL aE t9)), (10, (eI t10)), (11, (eI s.2))] ∧ aK ⟨H0, [lo0p], []⟩ H [(lo3, 3, List.map aD s.1)]) hl0 ⟨lo3, .eq (by kernel_rfl), hO⟩ ?_
 clear hO
 rintro k0 s out1 T H ⟨lo3, hT, hO⟩ h1 ho0
 obtain ⟨l0, t11⟩ := s
 replace h1 : tR r1 t9 t10 l0 t11 = some out1 := h1
 try dsimp only at hT
 refine aY hT ?_
 clear hT
 unfold tR at h1
 refine aS aG 1 [] [(12, (aJ (decide (t11 < t10))))] ?_
 refine aO ?_
 refine bE h1 (fun h1 => ?_) (fun h1 => ?_)
 ·refine bG ?_
  refine bD [(0, (.msl 3 lo3 0 (List.length l0))), (1, (eL aN r1)), (9, (eL aE t9)), (10, (eI t10)), (11, (eI t11))] ?_
  refine aO ?_
  refine bN 1 ?_
  refine aO ?_
  refine aT aG 4 ?_
  obtain ⟨c5, h1⟩ := aX h1
  refine BC 2 [0 ≤ t11 ∧ t11 < (lN t9)] ⟨c5, trivial⟩ ?_
  refine tE 2 (aE (aB.mk 0 0)) (by kernel_rfl) (by kernel_rfl) hO ?_
  intro lo6 H hO
  refine rK 1 lo6 2 0 (aE (aB.mk 0 0)) (aE (gD t9 t11)) [(aE (aB.mk 0 0))] [(lo3, 3, List.map aD l0), (lo6, 2, [(aE (gD t9 t11))])] hO rfl (by kernel_rfl) ?_
  intro H hO
  refine dG ?_
  refine bP [] [(8, (.lp lo6 0 0))] ?_
  refine dK [(0, (.msl 3 lo3 0 (List.length l0))), (1, (eL aN r1)), (8, (.lp lo6 0 0)), (9, (eL aE t9)), (10, (eI t10)), (11, (eI t11))] ?_
  refine LR 2 1 8 2 lo6 (aE (gD t9 t11)) [(lo3, 3, List.map aD l0)] hO (by kernel_rfl) (by kernel_rfl) (by kernel_rfl) ?_
  intro H hO
  refine eR (eP [19, 21, 23]) aG 11 ?_
  refine qV 2 ?_
  obtain ⟨x7, hx8, h1⟩ := aW h1
  refine BA (QA r1 _ hx8) hO ?_
  intro H hO
  refine qV 8 ?_
  refine PU (xs := [(aD (aC.mk x7 ((gD t9 t11).At) ((gD t9 t11).Net)))]) (k := 3) (by kernel_rfl) (by kernel_rfl) ?_
  obtain ⟨c11, h1⟩ := aX h1
  refine MT (e := aD) l0 ([aC.mk x7 ((gD t9 t11).At) ((gD t9 t11).Net)]) 0 lo3 3 40 (kD [(aD (aC.mk x7 ((gD t9 t11).At) ((gD t9 t11).Net)))]) (fun lo10 => [(lo10, 3, List.map aD (l0 ++ ([aC.mk x7 ((gD t9 t11).At) ((gD t9 t11).Net)])))]) (by kernel_rfl) (by kernel_rfl) hO (by kernel_rfl) (by kernel_rfl) c11 (fun _ => by kernel_rfl) ?_
  intro lo10 H hO
  refine jI ?_
  refine gV [(0, (.msl 3 lo10 0 (List.length (l0 ++ ([aC.mk x7 ((gD t9 t11).At) ((gD t9 t11).Net)]))))), (1, (eL aN r1)), (9, (eL aE t9)), (10, (eI t10)), (11, (eI t11))] ?_
  refine aH (aU (aF (?_)))
  refine aT aG 2 ?_
  refine bC ?_
  exact aH (aF (⟨rfl, _, (oI h1).symm, _, .eq (by kernel_rfl), hO⟩))
 refine dW 0 ?_
 obtain rfl := oI h1
 obtain rfl : _ = rr0 := ho0
 replace h0 : DR l0 = some r := h0
 exact aH (aR (aR (bF (aF (⟨rfl, _, _, .eq (by kernel_rfl), hO, h0⟩)))))

theorem KF (l0 : (List aC)) (by1_f : Nat) (by1_a by1_c : List V) (by1 : (List aB) → Option ((List aB) × Int)) (by1_h : ∀ a0 r, by1 a0 = some r → cO Tryz.prog by1_f (by1_a ++ [(eL aE a0)] ++ by1_c) (.tup [(eL aE r.1), (eI r.2)])) (r : ((List aC) × Int)) (h0 : uQ l0 by1 = some r) : cO Tryz.prog 26 [(eL aD l0), (.fn (.func by1_f) by1_a by1_c)] (.tup [(eL aD r.1), (eI r.2)]) := by
 intro H0
 refine ND aG Tryz.func26 (by kernel_rfl) (by kernel_rfl) (by kernel_rfl) ?_
 have hO := aK.start H0
 unfold uQ at h0
 refine aO ?_
 refine aT aG 3 ?_
 refine qG 1 (.fn (.func by1_f) by1_a by1_c) (by kernel_rfl) (by kernel_rfl) ?_
 refine BG 1 (.sl true 0 (fun _ => .bad)) (eL aD ([])) (by kernel_rfl) (by kernel_rfl) (by kernel_rfl) (kL) (by kernel_rfl) (by kernel_rfl) hO ?_
 intro lo1 H hO
 refine tE 1 (eI 0) (by kernel_rfl) (by kernel_rfl) hO ?_
 intro lo2 H hO
 refine dG ?_
 refine bP [1] [(3, (.rp (.fn (.func by1_f) by1_a by1_c))), (4, (.lp lo1 0 0)), (5, (.lp lo2 0 0))] ?_
 refine aO ?_
 refine aT aG 3 ?_
 refine rX (xs := []) (k := 3) (by kernel_rfl) (by kernel_rfl) ?_
 refine BG 1 (.sl true 0 (fun _ => .bad)) (eL aD ([])) (by kernel_rfl) (by kernel_rfl) (by kernel_rfl) (kL) (by kernel_rfl) (by kernel_rfl) hO ?_
 intro lo3 H hO
 refine aBZ 11 3 (fun _ => .bad) (by kernel_rfl) hO (by kernel_rfl) ?_
 intro lo4 H hO
 refine rK 2 lo3 1 0 (eL aD ([])) (.msl 3 lo4 0 (List.length ([] : List aC))) [(eL aD ([]))] [(lo1, 1, [(eL aD ([]))]), (lo2, 1, [(eI 0)]), (lo3, 1, [(.msl 3 lo4 0 (List.length ([] : List aC)))]), (lo4, 3, List.map aD ([] : List aC))] hO rfl (by kernel_rfl) ?_
 intro H hO
 refine dG ?_
 refine bP [] [(6, (.lp lo3 0 0))] ?_
 refine aO ?_
 refine aO ?_
 refine aT aG 2 ?_
 refine bI 1 ?_
 obtain ⟨x5, hx6, h0⟩ := aW h0
 refine dS (HN l0 _ hx6) hO ?_
 intro H hO
 refine dG ?_
 refine bP [0] [(13, (.fn (.func 65) [] [(.rp (eL aD x5))]))] ?_
 refine bN 0 ?_
 refine dK [(3, (.rp (.fn (.func by1_f) by1_a by1_c))), (4, (.lp lo1 0 0)), (5, (.lp lo2 0 0)), (6, (.lp lo3 0 0)), (13, (.fn (.func 65) [] [(.rp (eL aD x5))]))] ?_
 refine cQ (fun T H => ∃ t4 : (List aC), ∃ t5 : Int, ∃ out6 : List aC, ∃ oR : (List aC), ∃ lo7 : Nat, Has T [(3, (.rp (.fn (.func by1_f) by1_a by1_c))), (4, (.lp lo1 0 0)), (5, (.lp lo2 0 0)), (6, (.lp lo3 0 0)), (13, (.fn (.func 65) [] [(.rp (eL aD oR))]))] ∧ aK ⟨H0, [], []⟩ H [(lo1, 1, [(eL aD t4)]), (lo2, 1, [(eI t5)]), (lo3, 1, [(.msl 3 lo7 0 (List.length out6))]), (lo7, 3, List.map aD out6)] ∧ zG by1 t4 t5 out6 oR = some r) ?_ ⟨[], 0, ([] : List aC), x5, lo4, .eq (by kernel_rfl), hO, h0⟩
 clear hO h0
 rintro T H ⟨t4, t5, out6, oR, lo7, hT, hO, h0⟩
 refine aY (l := [(3, (.rp (.fn (.func by1_f) by1_a by1_c))), (4, (.lp lo1 0 0)), (5, (.lp lo2 0 0)), (6, (.lp lo3 0 0)), (13, (.fn (.func 65) [] [(.rp (eL aD oR))]))]) hT ?_
 clear hT
 unfold zG at h0
 obtain ⟨o0, hl0, h0⟩ := aW h0
 refine IQ (fid := 65) (ys := []) (cs := [(.rp (eL aD oR))]) #[14, 15] (fun (A : FL) (b lL : Nat) (st : ((List aC) × Int × List aC) ⊕ ((List aC) × Int × List aC)) (G' : Gs) => Sum.elim (fun (s : (List aC) × Int × List aC) => ∃ lo7 : Nat, G' = (lL, .raw (qC b A .ready none)) :: (up [(lo1, 1, [(eL aD s.1)]), (lo2, 1, [(eI s.2.1)]), (lo3, 1, [(.msl 3 lo7 0 (List.length s.2.2))]), (lo7, 3, List.map aD s.2.2)] ++ [])) (fun (s : (List aC) × Int × List aC) => ∃ lo7 : Nat, G' = (lL, .raw (qC b A .done (some .ret))) :: (up [(lo1, 1, [(eL aD s.1)]), (lo2, 1, [(eI s.2.1)]), (lo3, 1, [(.msl 3 lo7 0 (List.length s.2.2))]), (lo7, 3, List.map aD s.2.2)] ++ [])) st) (.inl (t4, t5, out6)) o0 (.tup []) (by kernel_rfl) (by kernel_rfl) (by kernel_rfl) hO (fun _ _ => ⟨lo7, rfl⟩) ?_ ?_
 ·intro b lL
  clear hO h0
  refine CV _ b (fun st t14 t15 => rnd (fun (s : (List aC) × Int × List aC) => sI by1 oR s.1 s.2.1 s.2.2 t14 t15) st) ?_ oR _ _ hl0
  intro st t14 t15 out1 rr hr
  obtain ⟨s, rfl, h1, rfl⟩ := aBw hr
  clear hr
  intro Hr Gr hi hg
  obtain ⟨t4, t5, out6⟩ := s
  dsimp only [Sum.elim_inl] at hi
  obtain ⟨lo7, rfl⟩ := hi
  replace h1 : sI by1 oR t4 t5 out6 t14 t15 = some out1 := h1
  unfold sI at h1
  obtain ⟨E1, hE, hO⟩ := DV hg
  refine DY (JG (hO.gm 0 _ rfl).2 (by kernel_rfl) (by kernel_rfl) ?_)
  refine dK [(3, (.rp (.fn (.func by1_f) by1_a by1_c))), (4, (.lp lo1 0 0)), (5, (.lp lo2 0 0)), (6, (.lp lo3 0 0)), (13, (.fn (.func 65) [] [(.rp (eL aD oR))])), (14, (eL aN t14)), (15, (eL aE t15))] ?_
  refine aS aG 1 [13, 14] [(7, (eL aN t14))] ?_
  refine aT aG 1 ?_
  refine bC ?_
  refine gV [(3, (.rp (.fn (.func by1_f) by1_a by1_c))), (4, (.lp lo1 0 0)), (5, (.lp lo2 0 0)), (6, (.lp lo3 0 0)), (7, (eL aN t14)), (8, (eL aE t15))] ?_
  refine aH (⟨rfl, rfl, (hO.gm 0 _ rfl).2, ?_⟩)
  intro o1 ho1
  replace hO := hO.yS o1
  refine bN 1 ?_
  refine aO ?_
  refine aT aG 8 ?_
  refine bI 2 ?_
  obtain ⟨x8, hx9, h1⟩ := aW h1
  refine dS (by1_h t15 _ hx9) hO ?_
  intro H hO
  refine bC ?_
  refine bP [3, 8] [(9, (eL aE x8.1)), (10, (eI x8.2))] ?_
  refine aO ?_
  refine aS aG 2 [] [(23, (aJ (!decide (x8.2 = (0 : Int)))))] ?_
  refine bE h1 (fun h1 => ?_) (fun h1 => ?_)
  ·refine aO ?_
   refine aT aG 3 ?_
   refine bI 1 ?_
   refine rK 0 lo1 1 0 (eL aD t4) (.sl true 0 (fun _ => .bad)) [(eL aD t4)] [(lo1, 1, [(.sl true 0 (fun _ => .bad))]), (lo2, 1, [(eI t5)]), (lo3, 1, [(.msl 3 lo7 0 (List.length out6))]), (lo7, 3, List.map aD out6)] hO rfl (by kernel_rfl) ?_
   intro H hO
   refine rK 1 lo2 1 0 (eI t5) (eI x8.2) [(eI t5)] [(lo1, 1, [(.sl true 0 (fun _ => .bad))]), (lo2, 1, [(eI x8.2)]), (lo3, 1, [(.msl 3 lo7 0 (List.length out6))]), (lo7, 3, List.map aD out6)] hO rfl (by kernel_rfl) ?_
   intro H hO
   refine dG ?_
   refine WM 0 lo1 1 (.sl true 0 (fun _ => .bad)) (eL aD ([])) [(lo1, 1, [(eL aD ([]))]), (lo2, 1, [(eI x8.2)]), (lo3, 1, [(.msl 3 lo7 0 (List.length out6))]), (lo7, 3, List.map aD out6)] hO (by kernel_rfl) (by kernel_rfl) kL (by kernel_rfl) ?_
   intro H hO
   refine bD [(4, (.lp lo1 0 0)), (5, (.lp lo2 0 0)), (6, (.lp lo3 0 0))] ?_
   refine bL ?_
   refine gV [(4, (.lp lo1 0 0)), (5, (.lp lo2 0 0)), (6, (.lp lo3 0 0))] ?_
   obtain rfl := oI h1
   exact aH (bB (bT (⟨(nC hO hE ho1 .dead).1, rfl, _, ⟨lo7, rfl⟩, (nC hO hE ho1 _).2⟩)))
  refine bG ?_
  refine bD [(4, (.lp lo1 0 0)), (5, (.lp lo2 0 0)), (6, (.lp lo3 0 0)), (7, (eL aN t14)), (9, (eL aE x8.1))] ?_
  refine aO ?_
  refine aT aG 5 ?_
  refine uC 2 lo3 1 0 (.msl 3 lo7 0 (List.length out6)) (.msl 3 lo7 0 (List.length out6)) [(.msl 3 lo7 0 (List.length out6))] hO rfl ?_
  refine bI 3 ?_
  obtain ⟨x12, hx13, h1⟩ := aW h1
  refine aEJ (L' := fun lo14 => [(lo1, 1, [(eL aD t4)]), (lo2, 1, [(eI t5)]), (lo3, 1, [(.msl 3 lo7 0 (List.length out6))]), (lo14, 3, List.map aD x12)]) 3 lo7 3 (List.map aD out6) (List.map aD x12) 50 [(.msl 3 lo7 0 (List.length out6)), (eL aN t14), (eL aE x8.1)] (fun lo14 => (.msl 3 lo14 0 (List.length x12))) (by kernel_rfl) (by kernel_rfl) (aBq lo7 out6 t14 x8.1 _ hx13) hO (by kernel_rfl) (fun _ => by kernel_rfl) ?_
  intro lo14 H hO
  refine rK 2 lo3 1 0 (.msl 3 lo7 0 (List.length out6)) (.msl 3 lo14 0 (List.length x12)) [(.msl 3 lo7 0 (List.length out6))] [(lo1, 1, [(eL aD t4)]), (lo2, 1, [(eI t5)]), (lo3, 1, [(.msl 3 lo14 0 (List.length x12))]), (lo14, 3, List.map aD x12)] hO rfl (by kernel_rfl) ?_
  intro H hO
  refine dG ?_
  refine bP [7, 9] [] ?_
  refine aO ?_
  refine aT aG 3 ?_
  refine uC 2 lo3 1 0 (.msl 3 lo14 0 (List.length x12)) (.msl 3 lo14 0 (List.length x12)) [(.msl 3 lo14 0 (List.length x12))] hO rfl ?_
  refine bC ?_
  refine bP [] [(31, (aJ (decide ((4096 : Int) < (lN x12)))))] ?_
  refine bE h1 (fun h1 => ?_) (fun h1 => ?_)
  ·refine aO ?_
   refine aT aG 2 ?_
   refine rK 0 lo1 1 0 (eL aD t4) (.sl true 0 (fun _ => .bad)) [(eL aD t4)] [(lo1, 1, [(.sl true 0 (fun _ => .bad))]), (lo2, 1, [(eI t5)]), (lo3, 1, [(.msl 3 lo14 0 (List.length x12))]), (lo14, 3, List.map aD x12)] hO rfl (by kernel_rfl) ?_
   intro H hO
   refine rK 1 lo2 1 0 (eI t5) (eI (7 : Int)) [(eI t5)] [(lo1, 1, [(.sl true 0 (fun _ => .bad))]), (lo2, 1, [(eI (7 : Int))]), (lo3, 1, [(.msl 3 lo14 0 (List.length x12))]), (lo14, 3, List.map aD x12)] hO rfl (by kernel_rfl) ?_
   intro H hO
   refine dG ?_
   refine WM 0 lo1 1 (.sl true 0 (fun _ => .bad)) (eL aD ([])) [(lo1, 1, [(eL aD ([]))]), (lo2, 1, [(eI (7 : Int))]), (lo3, 1, [(.msl 3 lo14 0 (List.length x12))]), (lo14, 3, List.map aD x12)] hO (by kernel_rfl) (by kernel_rfl) kL (by kernel_rfl) ?_
   intro H hO
   refine bD [(4, (.lp lo1 0 0)), (5, (.lp lo2 0 0)), (6, (.lp lo3 0 0))] ?_
   refine bL ?_
   refine gV [(4, (.lp lo1 0 0)), (5, (.lp lo2 0 0)), (6, (.lp lo3 0 0))] ?_
   obtain rfl := oI h1
   exact aH (bT (⟨(nC hO hE ho1 .dead).1, rfl, _, ⟨lo14, rfl⟩, (nC hO hE ho1 _).2⟩))
  refine bG ?_
  refine gV [(4, (.lp lo1 0 0)), (5, (.lp lo2 0 0)), (6, (.lp lo3 0 0))] ?_
  obtain rfl := oI h1
  exact aH (aU (⟨(nC hO hE ho1 .dead).1, rfl, _, ⟨lo14, rfl⟩, (nC hO hE ho1 _).2⟩))
 ·intro b lD16 lL H' G' hi hO
  rcases o0 with s | s
  ·dsimp only [Sum.elim_inl] at hi
   obtain ⟨lo7, rfl⟩ := hi
   replace h0 : (some (s.2.2, (0 : Int))) = some r := h0
   obtain ⟨hlL, hO⟩ := wA hO
   refine ⟨_, _, hlL, (by intro e; cases e), ?_⟩
   refine gV [(4, (.lp lo1 0 0)), (5, (.lp lo2 0 0)), (6, (.lp lo3 0 0))] ?_
   refine aH (aU (aF (?_)))
   refine aO ?_
   refine QO (e := aD) s.2.2 2 3 1 3 lo3 lo7 (List.length s.2.2) [(lo1, 1, [(eL aD s.1)]), (lo2, 1, [(eI s.2.1)]), (lo3, 1, [(eL aD s.2.2)])] hO (by kernel_rfl) (by kernel_rfl) (by kernel_rfl) (.inr (by decide)) (by kernel_rfl) ?_
   intro H hO
   refine aT aG 3 ?_
   refine uC 2 lo3 1 0 (eL aD s.2.2) (eL aD s.2.2) [(eL aD s.2.2)] hO rfl ?_
   refine rK 0 lo1 1 0 (eL aD s.1) (eL aD s.2.2) [(eL aD s.1)] [(lo1, 1, [(eL aD s.2.2)]), (lo2, 1, [(eI s.2.1)]), (lo3, 1, [(eL aD s.2.2)])] hO rfl (by kernel_rfl) ?_
   intro H hO
   refine rK 1 lo2 1 0 (eI s.2.1) (eI (0 : Int)) [(eI s.2.1)] [(lo1, 1, [(eL aD s.2.2)]), (lo2, 1, [(eI (0 : Int))]), (lo3, 1, [(eL aD s.2.2)])] hO rfl (by kernel_rfl) ?_
   intro H hO
   refine dG ?_
   replace hO := hO.pick (L' := [(lo1, 1, [(eL aD s.2.2)]), (lo2, 1, [(eI (0 : Int))])]) [0, 1] (by decide) (by kernel_rfl)
   refine bP [6] [] ?_
   refine bL ?_
   obtain rfl := oI h0
   have hD := (hO.gm 0 _ rfl).2
   replace hO := (hO.yS .dead).xY
   exact aH (QM1 (.inr rfl) hD (rs := [.cell 4 22, .cell 5 26]) (xs := [(eL aD s.2.2), (eI (0 : Int))]) (x := (.tup [(eL aD s.2.2), (eI (0 : Int))])) (by kernel_rfl) (DC (lo := lo1) (k := 1) (y := (eL aD s.2.2)) (x := (eL aD s.2.2)) 0 hO (by kernel_rfl) (by kernel_rfl) (by kernel_rfl) (by kernel_rfl) (DC (lo := lo2) (k := 1) (y := (eI (0 : Int))) (x := (eI (0 : Int))) 1 hO (by kernel_rfl) (by kernel_rfl) (by kernel_rfl) (by kernel_rfl) yD)) (by kernel_rfl) ⟨rfl, hO.out⟩)
  ·dsimp only [Sum.elim_inr] at hi
   obtain ⟨lo7, rfl⟩ := hi
   replace h0 : (some (s.1, s.2.1)) = some r := h0
   obtain ⟨hlL, hO⟩ := wA hO
   refine ⟨_, _, hlL, (by intro e; cases e), ?_⟩
   refine bL ?_
   replace hO := hO.pick (L' := [(lo1, 1, [(eL aD s.1)]), (lo2, 1, [(eI s.2.1)])]) [0, 1] (by decide) (by kernel_rfl)
   obtain rfl := oI h0
   have hD := (hO.gm 0 _ rfl).2
   replace hO := (hO.yS .dead).xY
   exact aH (bT (bB (QM1 (.inr rfl) hD (rs := [.cell 4 22, .cell 5 26]) (xs := [(eL aD s.1), (eI s.2.1)]) (x := (.tup [(eL aD s.1), (eI s.2.1)])) (by kernel_rfl) (DC (lo := lo1) (k := 1) (y := (eL aD s.1)) (x := (eL aD s.1)) 0 hO (by kernel_rfl) (by kernel_rfl) (by kernel_rfl) (by kernel_rfl) (DC (lo := lo2) (k := 1) (y := (eI s.2.1)) (x := (eI s.2.1)) 1 hO (by kernel_rfl) (by kernel_rfl) (by kernel_rfl) (by kernel_rfl) yD)) (by kernel_rfl) ⟨rfl, hO.out⟩)))

theorem yN (s0 : (List aB)) (f1_f : Nat) (f1_a f1_c : List V) (f1 : aB → Option Bool) (f1_h : ∀ a0 r, f1 a0 = some r → cO Tryz.prog f1_f (f1_a ++ [(aE a0)] ++ f1_c) (aJ r)) (r : Int) (h0 : kB s0 f1 = some r) : cO Tryz.prog 73 [(eL aE s0), (.fn (.func f1_f) f1_a f1_c)] (eI r) := by
 intro H0
 refine cP Tryz.func73 ?_
 have hO := aK.start H0
 unfold kB at h0
 refine aS aG 1 [] [] ?_
 refine dA (fun T H => Has T [] ∧ aK ⟨H0, [], []⟩ H [] ∧ fZ f1  = some r) ?_ ?_
 ·clear hO h0
  rintro T H ⟨hT, hO, h0⟩
  refine aY hT ?_
  clear hT
  unfold fZ at h0
  refine cH aG 1 [(4, (eI (-1 : Int)))] ?_
  refine bL ?_
  obtain rfl := oI h0
  exact aH (Q_r hO)
 refine aS aG 3 [] [(7, (eI (lN s0))), (8, (eI (0 : Int)))] ?_
 refine bN 0 ?_
 refine dK [(0, (eL aE s0)), (1, (.fn (.func f1_f) f1_a f1_c)), (7, (eI (lN s0))), (8, (eI (0 : Int)))] ?_
 refine cQ (fun T H => ∃ t7 : Int, ∃ t8 : Int, Has T [(0, (eL aE s0)), (1, (.fn (.func f1_f) f1_a f1_c)), (7, (eI t7)), (8, (eI t8))] ∧ aK ⟨H0, [], []⟩ H [] ∧ jS f1 s0 t7 t8 = some r) ?_ ⟨(lN s0), (0 : Int), .eq (by kernel_rfl), hO, h0⟩
 clear hO h0
 rintro T H ⟨t7, t8, hT, hO, h0⟩
 refine aY hT ?_
 clear hT
 unfold jS at h0
 obtain ⟨rr0, hl0, h0⟩ := aW h0
 refine cB (by kernel_rfl) (fun (s : Int) T H => Has T [(0, (eL aE s0)), (1, (.fn (.func f1_f) f1_a f1_c)), (7, (eI t7)), (8, (eI s))] ∧ aK ⟨H0, [], []⟩ H []) hl0 ⟨.eq (by kernel_rfl), hO⟩ ?_
 clear hO
 rintro k0 s out1 T H ⟨hT, hO⟩ h1 ho0
 obtain ⟨t8, rfl⟩ : ∃ x, x = s := ⟨_, rfl⟩
 replace h1 : jQ f1 s0 t7 t8 = some out1 := h1
 refine aY hT ?_
 clear hT
 unfold jQ at h1
 refine aS aG 1 [] [(9, (aJ (decide (t8 < t7))))] ?_
 refine aO ?_
 refine bE h1 (fun h1 => ?_) (fun h1 => ?_)
 ·refine bG ?_
  refine bD [(0, (eL aE s0)), (1, (.fn (.func f1_f) f1_a f1_c)), (7, (eI t7)), (8, (eI t8))] ?_
  refine aO ?_
  refine bN 1 ?_
  refine aS aG 2 [] [(5, (eI t8))] ?_
  refine aO ?_
  refine aT aG 6 ?_
  obtain ⟨c2, h1⟩ := aX h1
  refine BC 5 [0 ≤ t8 ∧ t8 < (lN s0)] ⟨c2, trivial⟩ ?_
  obtain ⟨x3, hx4, h1⟩ := aW h1
  refine dS (f1_h (gD s0 t8) _ hx4) hO ?_
  intro H hO
  refine dG ?_
  refine bP [] [(16, (aJ x3))] ?_
  refine bE h1 (fun h1 => ?_) (fun h1 => ?_)
  ·refine cH aG 2 [(4, (eI t8))] ?_
   refine bL ?_
   obtain rfl := oI h1
   obtain rfl : _ = rr0 := ho0
   replace h0 : some t8 = some r := h0
   obtain rfl := oI h0
   exact aH (bT (bB (bB (bT (bB (Q_r hO))))))
  refine bG ?_
  refine gV [(0, (eL aE s0)), (1, (.fn (.func f1_f) f1_a f1_c)), (7, (eI t7)), (8, (eI t8))] ?_
  refine aH (aU (aF (?_)))
  refine aT aG 2 ?_
  refine bC ?_
  exact aH (aF (⟨rfl, _, (oI h1).symm, .eq (by kernel_rfl), hO⟩))
 refine dW 0 ?_
 obtain rfl := oI h1
 obtain rfl : _ = rr0 := ho0
 replace h0 : fZ f1  = some r := h0
 exact aH (aR (aR (bF (aF (⟨rfl, .eq (by kernel_rfl), hO, h0⟩)))))

theorem rP (s0 : (List aB)) (f1_f : Nat) (f1_a f1_c : List V) (f1 : aB → Option Bool) (f1_h : ∀ a0 r, f1 a0 = some r → cO Tryz.prog f1_f (f1_a ++ [(aE a0)] ++ f1_c) (aJ r)) (r : Bool) (h0 : eG s0 f1 = some r) : cO Tryz.prog 51 [(eL aE s0), (.fn (.func f1_f) f1_a f1_c)] (aJ r) := by
 intro H0
 refine cP Tryz.func51 ?_
 have hO := aK.start H0
 unfold eG at h0
 refine aS aG 1 [] [] ?_
 refine aO ?_
 refine aT aG 5 ?_
 refine bI 2 ?_
 obtain ⟨x1, hx2, h0⟩ := aW h0
 refine dS (yN s0 f1_f f1_a f1_c f1 f1_h _ hx2) hO ?_
 intro H hO
 refine bC ?_
 refine bD [(4, (aJ (decide ((0 : Int) ≤ x1))))] ?_
 refine bL ?_
 obtain rfl := oI h0
 exact aH (Q_r hO)

theorem UT (j0 : aB) (r : Bool) (h0 : wU j0 = some r) : cO Tryz.prog 52 [(aE j0)] (aJ r) := by
 intro H0
 refine cP Tryz.func52 ?_
 have hO := aK.start H0
 unfold wU at h0
 refine aO ?_
 refine aT aG 2 ?_
 refine qG 2 (aE j0) (by kernel_rfl) (by kernel_rfl) ?_
 refine bC ?_
 refine bD [(1, (.rp (aE j0)))] ?_
 refine aO ?_
 refine aT aG 5 ?_
 refine bI 2 ?_
 obtain ⟨x1, hx2, h0⟩ := aW h0
 refine dS (NY j0.Net _ hx2) hO ?_
 intro H hO
 refine bC ?_
 refine bD [(2, (aJ (!x1)))] ?_
 refine bL ?_
 obtain rfl := oI h0
 exact aH (Q_r hO)

theorem VA (j0 : aB) (r : Bool) (h0 : wQ j0 = some r) : cO Tryz.prog 54 [(aE j0)] (aJ r) := by
 intro H0
 refine cP Tryz.func54 ?_
 have hO := aK.start H0
 unfold wQ at h0
 refine aO ?_
 refine aT aG 2 ?_
 refine qG 2 (aE j0) (by kernel_rfl) (by kernel_rfl) ?_
 refine bC ?_
 refine bD [(1, (.rp (aE j0)))] ?_
 refine cH aG 9 [(2, (aJ ((decide (j0.At < (-1 : Int))) || (decide ((1125899906842624 : Int) < j0.At)))))] ?_
 refine bL ?_
 obtain rfl := oI h0
 exact aH (Q_r hO)

theorem uH (s0 : (List aB)) (r : (List aB)) (h0 : dY s0 = some r) : CM Tryz.prog 55 [(eL aE s0)] (fun lo => (.msl 2 lo 0 (List.length r))) 2 (List.map aE r) := by
 intro H0
 refine cP Tryz.func55 ?_
 have hO := aK.start H0
 unfold dY at h0
 refine aS aG 1 [] [] ?_
 refine aO ?_
 refine aO ?_
 refine aT aG 2 ?_
 refine bI 1 ?_
 refine aBx false (List.length s0) (fun i => aE (List.getD s0 i default)) (by kernel_rfl) (by kernel_rfl) ?_
 intro b1 hn2
 refine dG ?_
 refine bP [] [(4, (aJ b1))] ?_
 refine rG (b1) (fun hc3 => ?_) (fun hc3 => ?_)
 ·replace h0 : some ([] : List aB) = some r := by
   have hl := List.eq_nil_of_length_eq_zero (hn2 hc3)
   rw [hl] at h0
   exact (aX h0).2
  refine cH aG 1 [(2, (.sl true 0 (fun _ => .bad)))] ?_
  refine bL ?_
  refine gV [(2, (.sl true 0 (fun _ => .bad)))] ?_
  refine QU (el := (fun _ => .bad)) 0 2 2 hO (by kernel_rfl) ?_
  intro lo4 H5 hO
  obtain rfl := oI h0
  exact aH (bB (mB (x := (.msl 2 lo4 0 (List.length ([] : List aB)))) (by kernel_rfl) (aL.refl _) ⟨lo4, rfl, hO⟩))
 ·refine bG ?_
  refine bD [(0, (eL aE s0))] ?_
  refine aO ?_
  refine aT aG 4 ?_
  refine rX (xs := []) (k := 2) (by kernel_rfl) (by kernel_rfl) ?_
  refine bI 2 ?_
  obtain ⟨c7, h0⟩ := aX h0
  refine RV (e := aE) s0 (fun _ => .bad) 2 16 (eL aE s0) (fun lo6 => [(lo6, 2, List.map aE s0)]) (by kernel_rfl) (by kernel_rfl) hO (HP (fun _ => by kernel_rfl)) c7 (fun _ => by kernel_rfl) ?_
  intro lo6 H hO
  refine bC ?_
  refine bD [(2, (.msl 2 lo6 0 (List.length s0)))] ?_
  refine bL ?_
  obtain rfl := oI h0
  exact aH (mB (x := (.msl 2 lo6 0 (List.length s0))) (by kernel_rfl) (aL.refl _) ⟨lo6, rfl, hO⟩)

theorem sC (lo0p : Nat) (aA : (List aB)) (a1 : Int) (b2 : Int) (cmp3_f : Nat) (cmp3_a cmp3_c : List V) (cmp3 : aB → aB → Option Int) (cmp3_h : ∀ a0 a1 r, cmp3 a0 a1 = some r → cO Tryz.prog cmp3_f (cmp3_a ++ [(aE a0), (aE a1)] ++ cmp3_c) (eI r)) (r : List aB) (h0 : fS aA a1 b2 cmp3 = some r) : iG Tryz.prog 90 lo0p 2 (List.map aE aA) (List.map aE r) [(.msl 2 lo0p 0 (List.length aA)), (eI a1), (eI b2), (.fn (.func cmp3_f) cmp3_a cmp3_c)] (.tup []) := by
 intro H0 hl0
 refine cP Tryz.func90 ?_
 have hO := aK.nP hl0
 clear hl0
 obtain ⟨N0, hN0⟩ : ∃ n, n = List.length aA := ⟨_, rfl⟩
 have hN : List.length aA = N0 := hN0.symm
 unfold fS at h0
 refine aS aG 3 [] [(8, (eI (wR (a1 + (1 : Int)))))] ?_
 refine bN 0 ?_
 refine dK [(0, (.msl 2 lo0p 0 (List.length aA))), (1, (eI a1)), (2, (eI b2)), (3, (.fn (.func cmp3_f) cmp3_a cmp3_c)), (8, (eI (wR (a1 + (1 : Int)))))] ?_
 refine cQ (fun T H => ∃ aA : List aB, ∃ i8 : Int, Has T [(0, (.msl 2 lo0p 0 (List.length aA))), (1, (eI a1)), (2, (eI b2)), (3, (.fn (.func cmp3_f) cmp3_a cmp3_c)), (8, (eI i8))] ∧ aK ⟨H0, [lo0p], []⟩ H [(lo0p, 2, List.map aE aA)] ∧ List.length aA = N0 ∧ mX cmp3 aA a1 b2 i8 = some r) ?_ ⟨aA, wR (a1 + (1 : Int)), .eq (by kernel_rfl), hO, hN, h0⟩
 clear hO hN h0
 rintro T H ⟨aA, i8, hT, hO, hN, h0⟩
 refine aY hT ?_
 clear hT
 unfold mX at h0
 obtain ⟨rr0, hl0, h0⟩ := aW h0
 refine cB (by kernel_rfl) (fun (s : List aB × Int) T H => Has T [(0, (.msl 2 lo0p 0 (List.length s.1))), (1, (eI a1)), (2, (eI b2)), (3, (.fn (.func cmp3_f) cmp3_a cmp3_c)), (8, (eI s.2))] ∧ aK ⟨H0, [lo0p], []⟩ H [(lo0p, 2, List.map aE s.1)] ∧ List.length s.1 = N0) hl0 ⟨.eq (by kernel_rfl), hO, hN⟩ ?_
 clear hO hN
 rintro k0 s out1 T H ⟨hT, hO, hN⟩ h1 ho0
 obtain ⟨aA, i8⟩ := s
 replace h1 : mU cmp3 a1 b2 aA i8 = some out1 := h1
 try dsimp only at hT
 refine aY hT ?_
 clear hT
 unfold mU at h1
 refine aO ?_
 refine aS aG 3 [] [(14, (aJ (decide (i8 < b2))))] ?_
 refine bE h1 (fun h1 => ?_) (fun h1 => ?_)
 ·refine bG ?_
  refine bD [(0, (.msl 2 lo0p 0 (List.length aA))), (1, (eI a1)), (2, (eI b2)), (3, (.fn (.func cmp3_f) cmp3_a cmp3_c)), (8, (eI i8))] ?_
  refine dA (fun T H => ∃ aA : List aB, Has T [(0, (.msl 2 lo0p 0 (List.length aA))), (1, (eI a1)), (2, (eI b2)), (3, (.fn (.func cmp3_f) cmp3_a cmp3_c)), (8, (eI i8))] ∧ aK ⟨H0, [lo0p], []⟩ H [(lo0p, 2, List.map aE aA)] ∧ List.length aA = N0 ∧ iX cmp3 aA a1 b2 i8 = some out1) ?_ ?_
  ·clear hO hN h1
   rintro T H ⟨aA, hT, hO, hN, h1⟩
   refine aY hT ?_
   clear hT
   unfold iX at h1
   refine aT aG 3 ?_
   refine bC ?_
   exact aH (aF (⟨rfl, _, (oI h1).symm, .eq (by kernel_rfl), hO, hN⟩))
  refine bN 1 ?_
  refine aS aG 2 [] [(9, (eI i8))] ?_
  refine bN 2 ?_
  refine dK [(0, (.msl 2 lo0p 0 (List.length aA))), (1, (eI a1)), (2, (eI b2)), (3, (.fn (.func cmp3_f) cmp3_a cmp3_c)), (8, (eI i8)), (9, (eI i8))] ?_
  refine cQ (fun T H => ∃ aA : List aB, ∃ j9 : Int, Has T [(0, (.msl 2 lo0p 0 (List.length aA))), (1, (eI a1)), (2, (eI b2)), (3, (.fn (.func cmp3_f) cmp3_a cmp3_c)), (8, (eI i8)), (9, (eI j9))] ∧ aK ⟨H0, [lo0p], []⟩ H [(lo0p, 2, List.map aE aA)] ∧ List.length aA = N0 ∧ mR cmp3 aA a1 b2 i8 j9 = some out1) ?_ ⟨aA, i8, .eq (by kernel_rfl), hO, hN, h1⟩
  clear hO hN h1
  rintro T H ⟨aA, j9, hT, hO, hN, h1⟩
  refine aY hT ?_
  clear hT
  unfold mR at h1
  obtain ⟨rr1, hl1, h1⟩ := aW h1
  refine cB (by kernel_rfl) (fun (s : List aB × Int) T H => Has T [(0, (.msl 2 lo0p 0 (List.length s.1))), (1, (eI a1)), (2, (eI b2)), (3, (.fn (.func cmp3_f) cmp3_a cmp3_c)), (8, (eI i8)), (9, (eI s.2))] ∧ aK ⟨H0, [lo0p], []⟩ H [(lo0p, 2, List.map aE s.1)] ∧ List.length s.1 = N0) hl1 ⟨.eq (by kernel_rfl), hO, hN⟩ ?_
  clear hO hN
  rintro k1 s out2 T H ⟨hT, hO, hN⟩ h2 ho1
  obtain ⟨aA, j9⟩ := s
  replace h2 : mV cmp3 a1 b2 i8 aA j9 = some out2 := h2
  try dsimp only at hT
  refine aY hT ?_
  clear hT
  unfold mV at h2
  refine aO ?_
  refine aO ?_
  obtain ⟨c2, h2⟩ := aX h2
  obtain ⟨c3, h2⟩ := aX h2
  obtain ⟨x4, hx5, h2⟩ := aW h2
  refine eR (eP []) aG 17 ?_
  refine uF (K := fun T H => Has (lift T) [(0, (.msl 2 lo0p 0 (List.length aA))), (1, (eI a1)), (2, (eI b2)), (3, (.fn (.func cmp3_f) cmp3_a cmp3_c)), (8, (eI i8)), (9, (eI j9)), (34, (aJ ((decide (a1 < j9)) && (decide (x4 < (0 : Int))))))] ∧ aK ⟨H0, [lo0p], []⟩ H [(lo0p, 2, List.map aE aA)]) ?_ ?_
  ·refine qV 4 ?_
   refine sE (t := 21) (e := decide (a1 < j9)) (by kernel_rfl) (fun hg6 => ?_) (fun hg6 => ?_)
   ·refine bQ 8 [0 ≤ j9 ∧ j9 < (lN aA)] ⟨(c2 hg6), trivial⟩ ?_
    refine jH 0 lo0p 2 (0 + Int.toNat j9) (aE (gD aA j9)) (aE (gD aA j9)) (List.map aE aA) (by kernel_rfl) (by kernel_rfl) (by kernel_rfl) hO (by kernel_rfl) (bJ (c2 hg6)) ?_
    refine bQ 13 [0 ≤ (wR (j9 - (1 : Int))) ∧ (wR (j9 - (1 : Int))) < (lN aA)] ⟨(c3 hg6), trivial⟩ ?_
    refine jH 0 lo0p 2 (0 + Int.toNat (wR (j9 - (1 : Int)))) (aE (gD aA (wR (j9 - (1 : Int))))) (aE (gD aA (wR (j9 - (1 : Int))))) (List.map aE aA) (by kernel_rfl) (by kernel_rfl) (by kernel_rfl) hO (by kernel_rfl) (bJ (c3 hg6)) ?_
    refine tX cmp3_f (cmp3_a ++ [(aE (gD aA j9)), (aE (gD aA (wR (j9 - (1 : Int)))))] ++ cmp3_c) (eI x4) (by kernel_rfl) (by kernel_rfl) (cmp3_h (gD aA j9) (gD aA (wR (j9 - (1 : Int)))) _ (pN hx5 hg6)) hO ?_
    intro H hO
    refine jI ?_
    exact ⟨⟨[(0, (.msl 2 lo0p 0 (List.length aA))), (1, (eI a1)), (2, (eI b2)), (3, (.fn (.func cmp3_f) cmp3_a cmp3_c)), (8, (eI i8)), (9, (eI j9)), (34, (aJ (decide (x4 < (0 : Int)))))], by kernel_rfl, rfl, ⟨aL.refl _, aL.refl _, aL.refl _, aL.refl _, aL.refl _, aL.refl _, aL.eq (congrArg aJ (qD hg6 rfl).symm), trivial⟩⟩, hO⟩
   refine jI ?_
   exact ⟨⟨[(0, (.msl 2 lo0p 0 (List.length aA))), (1, (eI a1)), (2, (eI b2)), (3, (.fn (.func cmp3_f) cmp3_a cmp3_c)), (8, (eI i8)), (9, (eI j9)), (34, (aJ false))], by kernel_rfl, rfl, ⟨aL.refl _, aL.refl _, aL.refl _, aL.refl _, aL.refl _, aL.refl _, aL.eq (congrArg aJ (qD hg6 rfl).symm), trivial⟩⟩, hO⟩
  ·rintro T H ⟨hT, hO⟩
   refine cA hT ?_
   clear hT
   refine aH (aF ?_)
   refine bE h2 (fun h2 => ?_) (fun h2 => ?_)
   ·refine bG ?_
    refine bD [(0, (.msl 2 lo0p 0 (List.length aA))), (1, (eI a1)), (2, (eI b2)), (3, (.fn (.func cmp3_f) cmp3_a cmp3_c)), (8, (eI i8)), (9, (eI j9))] ?_
    refine aO ?_
    refine bN 3 ?_
    refine eR (eP []) aG 18 ?_
    obtain ⟨c8, h2⟩ := aX h2
    refine bQ 9 [0 ≤ (wR (j9 - (1 : Int))) ∧ (wR (j9 - (1 : Int))) < (lN aA)] ⟨c8, trivial⟩ ?_
    refine dN 0 lo0p 2 (0 + Int.toNat (wR (j9 - (1 : Int)))) (aE (gD aA (wR (j9 - (1 : Int))))) (aE (gD aA (wR (j9 - (1 : Int))))) (List.map aE aA) hO (bJ c8) ?_
    obtain ⟨c9, h2⟩ := aX h2
    refine bQ 13 [0 ≤ j9 ∧ j9 < (lN aA)] ⟨c9, trivial⟩ ?_
    refine dN 0 lo0p 2 (0 + Int.toNat j9) (aE (gD aA j9)) (aE (gD aA j9)) (List.map aE aA) hO (bJ c9) ?_
    obtain ⟨c10, h2⟩ := aX h2
    refine bQ 15 [0 ≤ j9 ∧ j9 < (lN aA)] ⟨c10, trivial⟩ ?_
    refine iD 0 lo0p 2 (0 + Int.toNat j9) (aE (gD aA j9)) (aE (gD aA (wR (j9 - (1 : Int))))) (List.map aE aA) [(lo0p, 2, List.map aE (List.set aA (Int.toNat j9) (gD aA (wR (j9 - (1 : Int))))))] hO (bJ c10) (by simp only [List.set, eA]) ?_
    intro H hO
    replace hN : List.length (List.set aA (Int.toNat j9) (gD aA (wR (j9 - (1 : Int))))) = N0 := by simpa using hN
    obtain ⟨c11, h2⟩ := aX h2
    refine bQ 17 [0 ≤ (wR (j9 - (1 : Int))) ∧ (wR (j9 - (1 : Int))) < (lN aA)] ⟨c11, trivial⟩ ?_
    refine iD 0 lo0p 2 (0 + Int.toNat (wR (j9 - (1 : Int)))) (aE (gD (List.set aA (Int.toNat j9) (gD aA (wR (j9 - (1 : Int))))) (wR (j9 - (1 : Int))))) (aE (gD aA j9)) (List.map aE (List.set aA (Int.toNat j9) (gD aA (wR (j9 - (1 : Int)))))) [(lo0p, 2, List.map aE (List.set (List.set aA (Int.toNat j9) (gD aA (wR (j9 - (1 : Int))))) (Int.toNat (wR (j9 - (1 : Int)))) (gD aA j9)))] hO (lQ c11 (by simp [])) (by simp only [List.set, eA]) ?_
    intro H hO
    replace hN : List.length (List.set (List.set aA (Int.toNat j9) (gD aA (wR (j9 - (1 : Int))))) (Int.toNat (wR (j9 - (1 : Int)))) (gD aA j9)) = N0 := by simpa using hN
    refine nU (by kernel_rfl) ?_
    refine cA (l := [(0, (.msl 2 lo0p 0 (List.length (List.set (List.set aA (Int.toNat j9) (gD aA (wR (j9 - (1 : Int))))) (Int.toNat (wR (j9 - (1 : Int)))) (gD aA j9))))), (1, (eI a1)), (2, (eI b2)), (3, (.fn (.func cmp3_f) cmp3_a cmp3_c)), (8, (eI i8)), (9, (eI j9))]) ⟨[(0, (.msl 2 lo0p 0 (List.length aA))), (1, (eI a1)), (2, (eI b2)), (3, (.fn (.func cmp3_f) cmp3_a cmp3_c)), (8, (eI i8)), (9, (eI j9))], by kernel_rfl, rfl, ⟨aL.eq (by simp []), aL.refl _, aL.refl _, aL.refl _, aL.refl _, aL.refl _, trivial⟩⟩ ?_
    refine aH (aU (aF (?_)))
    refine aT aG 3 ?_
    refine bC ?_
    exact aH (aF (⟨rfl, _, (oI h2).symm, .eq (by kernel_rfl), hO, hN⟩))
   refine dW 2 ?_
   obtain rfl := oI h2
   obtain rfl : _ = rr1 := ho1
   replace h1 : iX cmp3 aA a1 b2 i8 = some out1 := h1
   exact aH (aR (aR (bF (aU (aF (⟨rfl, _, .eq (by kernel_rfl), hO, hN, h1⟩))))))
 refine dW 0 ?_
 obtain rfl := oI h1
 obtain rfl : _ = rr0 := ho0
 replace h0 : some aA = some r := h0
 obtain rfl := oI h0
 exact aH (aR (aR (bF (rY (x := (.tup [])) (by kernel_rfl) (aL.refl _) ⟨rfl, hO.ext, hO.at 0 (by kernel_rfl), by first | rfl | (simp only [List.length_map]; exact hN.trans hN0)⟩))))

theorem pR (lo0p : Nat) (aA : (List aB)) (a1 : Int) (b2 : Int) (n3 : Int) (cmp4_f : Nat) (cmp4_a cmp4_c : List V) (cmp4 : aB → aB → Option Int) (cmp4_h : ∀ a0 a1 r, cmp4 a0 a1 = some r → cO Tryz.prog cmp4_f (cmp4_a ++ [(aE a0), (aE a1)] ++ cmp4_c) (eI r)) (r : List aB) (h0 : iA aA a1 b2 n3 cmp4 = some r) : iG Tryz.prog 101 lo0p 2 (List.map aE aA) (List.map aE r) [(.msl 2 lo0p 0 (List.length aA)), (eI a1), (eI b2), (eI n3), (.fn (.func cmp4_f) cmp4_a cmp4_c)] (.tup []) := by
 intro H0 hl0
 refine cP Tryz.func101 ?_
 have hO := aK.nP hl0
 clear hl0
 obtain ⟨N0, hN0⟩ : ∃ n, n = List.length aA := ⟨_, rfl⟩
 have hN : List.length aA = N0 := hN0.symm
 unfold iA at h0
 refine aS aG 1 [4] [(10, (eI (0 : Int)))] ?_
 refine bN 0 ?_
 refine dK [(0, (.msl 2 lo0p 0 (List.length aA))), (1, (eI a1)), (2, (eI b2)), (3, (eI n3)), (10, (eI (0 : Int)))] ?_
 refine cQ (fun T H => ∃ aA : List aB, ∃ i10 : Int, Has T [(0, (.msl 2 lo0p 0 (List.length aA))), (1, (eI a1)), (2, (eI b2)), (3, (eI n3)), (10, (eI i10))] ∧ aK ⟨H0, [lo0p], []⟩ H [(lo0p, 2, List.map aE aA)] ∧ List.length aA = N0 ∧ oT cmp4 aA a1 b2 n3 i10 = some r) ?_ ⟨aA, (0 : Int), .eq (by kernel_rfl), hO, hN, h0⟩
 clear hO hN h0
 rintro T H ⟨aA, i10, hT, hO, hN, h0⟩
 refine aY hT ?_
 clear hT
 unfold oT at h0
 obtain ⟨rr0, hl0, h0⟩ := aW h0
 refine cB (by kernel_rfl) (fun (s : List aB × Int) T H => Has T [(0, (.msl 2 lo0p 0 (List.length s.1))), (1, (eI a1)), (2, (eI b2)), (3, (eI n3)), (10, (eI s.2))] ∧ aK ⟨H0, [lo0p], []⟩ H [(lo0p, 2, List.map aE s.1)] ∧ List.length s.1 = N0) hl0 ⟨.eq (by kernel_rfl), hO, hN⟩ ?_
 clear hO hN
 rintro k0 s out1 T H ⟨hT, hO, hN⟩ h1 ho0
 obtain ⟨aA, i10⟩ := s
 replace h1 : oM cmp4 a1 b2 n3 aA i10 = some out1 := h1
 try dsimp only at hT
 refine aY hT ?_
 clear hT
 unfold oM at h1
 refine aO ?_
 refine aS aG 3 [] [(13, (aJ (decide (i10 < n3))))] ?_
 refine bE h1 (fun h1 => ?_) (fun h1 => ?_)
 ·refine bG ?_
  refine bD [(0, (.msl 2 lo0p 0 (List.length aA))), (1, (eI a1)), (2, (eI b2)), (3, (eI n3)), (10, (eI i10))] ?_
  refine aO ?_
  refine bN 1 ?_
  refine eR (eP []) aG 24 ?_
  obtain ⟨c2, h1⟩ := aX h1
  refine bQ 13 [0 ≤ (wR (b2 + i10)) ∧ (wR (b2 + i10)) < (lN aA)] ⟨c2, trivial⟩ ?_
  refine dN 0 lo0p 2 (0 + Int.toNat (wR (b2 + i10))) (aE (gD aA (wR (b2 + i10)))) (aE (gD aA (wR (b2 + i10)))) (List.map aE aA) hO (bJ c2) ?_
  obtain ⟨c3, h1⟩ := aX h1
  refine bQ 19 [0 ≤ (wR (a1 + i10)) ∧ (wR (a1 + i10)) < (lN aA)] ⟨c3, trivial⟩ ?_
  refine dN 0 lo0p 2 (0 + Int.toNat (wR (a1 + i10))) (aE (gD aA (wR (a1 + i10)))) (aE (gD aA (wR (a1 + i10)))) (List.map aE aA) hO (bJ c3) ?_
  obtain ⟨c4, h1⟩ := aX h1
  refine bQ 21 [0 ≤ (wR (a1 + i10)) ∧ (wR (a1 + i10)) < (lN aA)] ⟨c4, trivial⟩ ?_
  refine iD 0 lo0p 2 (0 + Int.toNat (wR (a1 + i10))) (aE (gD aA (wR (a1 + i10)))) (aE (gD aA (wR (b2 + i10)))) (List.map aE aA) [(lo0p, 2, List.map aE (List.set aA (Int.toNat (wR (a1 + i10))) (gD aA (wR (b2 + i10)))))] hO (bJ c4) (by simp only [List.set, eA]) ?_
  intro H hO
  replace hN : List.length (List.set aA (Int.toNat (wR (a1 + i10))) (gD aA (wR (b2 + i10)))) = N0 := by simpa using hN
  obtain ⟨c5, h1⟩ := aX h1
  refine bQ 23 [0 ≤ (wR (b2 + i10)) ∧ (wR (b2 + i10)) < (lN aA)] ⟨c5, trivial⟩ ?_
  refine iD 0 lo0p 2 (0 + Int.toNat (wR (b2 + i10))) (aE (gD (List.set aA (Int.toNat (wR (a1 + i10))) (gD aA (wR (b2 + i10)))) (wR (b2 + i10)))) (aE (gD aA (wR (a1 + i10)))) (List.map aE (List.set aA (Int.toNat (wR (a1 + i10))) (gD aA (wR (b2 + i10))))) [(lo0p, 2, List.map aE (List.set (List.set aA (Int.toNat (wR (a1 + i10))) (gD aA (wR (b2 + i10)))) (Int.toNat (wR (b2 + i10))) (gD aA (wR (a1 + i10)))))] hO (lQ c5 (by simp [])) (by simp only [List.set, eA]) ?_
  intro H hO
  replace hN : List.length (List.set (List.set aA (Int.toNat (wR (a1 + i10))) (gD aA (wR (b2 + i10)))) (Int.toNat (wR (b2 + i10))) (gD aA (wR (a1 + i10)))) = N0 := by simpa using hN
  refine nU (by kernel_rfl) ?_
  refine cA (l := [(0, (.msl 2 lo0p 0 (List.length (List.set (List.set aA (Int.toNat (wR (a1 + i10))) (gD aA (wR (b2 + i10)))) (Int.toNat (wR (b2 + i10))) (gD aA (wR (a1 + i10))))))), (1, (eI a1)), (2, (eI b2)), (3, (eI n3)), (10, (eI i10))]) ⟨[(0, (.msl 2 lo0p 0 (List.length aA))), (1, (eI a1)), (2, (eI b2)), (3, (eI n3)), (10, (eI i10))], by kernel_rfl, rfl, ⟨aL.eq (by simp []), aL.refl _, aL.refl _, aL.refl _, aL.refl _, trivial⟩⟩ ?_
  refine aH (aU (aF (?_)))
  refine aT aG 3 ?_
  refine bC ?_
  exact aH (aF (⟨rfl, _, (oI h1).symm, .eq (by kernel_rfl), hO, hN⟩))
 refine dW 0 ?_
 obtain rfl := oI h1
 obtain rfl : _ = rr0 := ho0
 replace h0 : some aA = some r := h0
 obtain rfl := oI h0
 exact aH (aR (aR (bF (rY (x := (.tup [])) (by kernel_rfl) (aL.refl _) ⟨rfl, hO.ext, hO.at 0 (by kernel_rfl), by first | rfl | (simp only [List.length_map]; exact hN.trans hN0)⟩))))

end Go.Abs
