/- What the law AlignSums stands on: the framework, the given functions as plain functions, their walks, and the plain laws; part 4. -/
import Derived.Test.YtmnbomkkobifbaaAlignSumsZ3
set_option linter.unusedSimpArgs false
set_option linter.unusedVariables false
namespace Go.Abs
open Go Go.RowKit Go.Proofs
theorem lB (lo0p : Nat) (aA : (List aD)) (a1 : Int) (b2 : Int) (n3 : Int) (cmp4_f : Nat) (cmp4_a cmp4_c : List V) (cmp4 : aD → aD → Option Int) (cmp4_h : ∀ a0 a1 r, cmp4 a0 a1 = some r → cF Try.prog cmp4_f (cmp4_a ++ [(aE a0), (aE a1)] ++ cmp4_c) (eI r)) (r : List aD) (h0 : eH aA a1 b2 n3 cmp4 = some r) : mF Try.prog 100 lo0p 2 (List.map aE aA) (List.map aE r) [(.msl 2 lo0p 0 (List.length aA)), (eI a1), (eI b2), (eI n3), (.fn (.func cmp4_f) cmp4_a cmp4_c)] (.tup []) := by
  intro H0 hl0
  refine cJ Try.func100 ?_
  have hO := aL.pI hl0
  clear hl0
  obtain ⟨N0, hN0⟩ : ∃ n, n = List.length aA := ⟨_, rfl⟩
  have hN : List.length aA = N0 := hN0.symm
  unfold eH at h0
  refine aT aF 1 [4] [(10, (eI (0 : Int)))] ?_
  refine bU 0 ?_
  refine dJ [(0, (.msl 2 lo0p 0 (List.length aA))), (1, (eI a1)), (2, (eI b2)), (3, (eI n3)), (10, (eI (0 : Int)))] ?_
  refine cR (fun T H => ∃ aA : List aD, ∃ i10 : Int, Has T [(0, (.msl 2 lo0p 0 (List.length aA))), (1, (eI a1)), (2, (eI b2)), (3, (eI n3)), (10, (eI i10))] ∧ aL ⟨H0, [lo0p], []⟩ H [(lo0p, 2, List.map aE aA)] ∧ List.length aA = N0 ∧ jX cmp4 aA a1 b2 n3 i10 = some r) ?_ ⟨aA, (0 : Int), bA, hO, hN, h0⟩
  clear hO hN h0
  rintro T H ⟨aA, i10, hT, hO, hN, h0⟩
  refine bD hT ?_
  clear hT
  unfold jX at h0
  obtain ⟨rr0, hl0, h0⟩ := bB h0
  refine eS (fun (s : List aD × Int) T H => Has T [(0, (.msl 2 lo0p 0 (List.length s.1))), (1, (eI a1)), (2, (eI b2)), (3, (eI n3)), (10, (eI s.2))] ∧ aL ⟨H0, [lo0p], []⟩ H [(lo0p, 2, List.map aE s.1)] ∧ List.length s.1 = N0) hl0 ⟨bA, hO, hN⟩ ?_
  clear hO hN
  rintro k0 s out1 T H ⟨hT, hO, hN⟩ h1 ho0
  obtain ⟨aA, i10⟩ := s
  replace h1 : kK cmp4 a1 b2 n3 aA i10 = some out1 := h1
  try dsimp only at hT
  refine bD hT ?_
  clear hT
  unfold kK at h1
  refine aP ?_
  refine aT aF 3 [] [(13, (aK (decide (i10 < n3))))] ?_
  refine bL h1 (fun h1 => ?_) (fun h1 => ?_)
  · refine bP ?_
    refine bK [(0, (.msl 2 lo0p 0 (List.length aA))), (1, (eI a1)), (2, (eI b2)), (3, (eI n3)), (10, (eI i10))] ?_
    refine aP ?_
    refine bU 1 ?_
    refine kH (jW []) aF 24 ?_
    obtain ⟨c2, h1⟩ := bJ h1
    refine dA 13 [0 ≤ (wR (b2 + i10)) ∧ (wR (b2 + i10)) < (lN aA)] ⟨c2, trivial⟩ ?_
    refine kC 0 lo0p 2 (0 + Int.toNat (wR (b2 + i10))) (aE (gD aA (wR (b2 + i10)))) (aE (gD aA (wR (b2 + i10)))) (List.map aE aA) hO (cG c2) ?_
    obtain ⟨c3, h1⟩ := bJ h1
    refine dA 19 [0 ≤ (wR (a1 + i10)) ∧ (wR (a1 + i10)) < (lN aA)] ⟨c3, trivial⟩ ?_
    refine kC 0 lo0p 2 (0 + Int.toNat (wR (a1 + i10))) (aE (gD aA (wR (a1 + i10)))) (aE (gD aA (wR (a1 + i10)))) (List.map aE aA) hO (cG c3) ?_
    obtain ⟨c4, h1⟩ := bJ h1
    refine dA 21 [0 ≤ (wR (a1 + i10)) ∧ (wR (a1 + i10)) < (lN aA)] ⟨c4, trivial⟩ ?_
    refine sE 0 lo0p 2 (0 + Int.toNat (wR (a1 + i10))) (aE (gD aA (wR (a1 + i10)))) (aE (gD aA (wR (b2 + i10)))) (List.map aE aA) [(lo0p, 2, List.map aE (List.set aA (Int.toNat (wR (a1 + i10))) (gD aA (wR (b2 + i10)))))] hO (cG c4) (by simp only [List.set, mO]) ?_
    intro H hO
    replace hN : List.length (List.set aA (Int.toNat (wR (a1 + i10))) (gD aA (wR (b2 + i10)))) = N0 := by simpa using hN
    obtain ⟨c5, h1⟩ := bJ h1
    refine dA 23 [0 ≤ (wR (b2 + i10)) ∧ (wR (b2 + i10)) < (lN aA)] ⟨c5, trivial⟩ ?_
    refine sE 0 lo0p 2 (0 + Int.toNat (wR (b2 + i10))) (aE (gD (List.set aA (Int.toNat (wR (a1 + i10))) (gD aA (wR (b2 + i10)))) (wR (b2 + i10)))) (aE (gD aA (wR (a1 + i10)))) (List.map aE (List.set aA (Int.toNat (wR (a1 + i10))) (gD aA (wR (b2 + i10))))) [(lo0p, 2, List.map aE (List.set (List.set aA (Int.toNat (wR (a1 + i10))) (gD aA (wR (b2 + i10)))) (Int.toNat (wR (b2 + i10))) (gD aA (wR (a1 + i10)))))] hO (vG c5 (by simp [])) (by simp only [List.set, mO]) ?_
    intro H hO
    replace hN : List.length (List.set (List.set aA (Int.toNat (wR (a1 + i10))) (gD aA (wR (b2 + i10)))) (Int.toNat (wR (b2 + i10))) (gD aA (wR (a1 + i10)))) = N0 := by simpa using hN
    refine xA (by kernel_rfl) ?_
    refine cT (l := [(0, (.msl 2 lo0p 0 (List.length (List.set (List.set aA (Int.toNat (wR (a1 + i10))) (gD aA (wR (b2 + i10)))) (Int.toNat (wR (b2 + i10))) (gD aA (wR (a1 + i10))))))), (1, (eI a1)), (2, (eI b2)), (3, (eI n3)), (10, (eI i10))]) ⟨[(0, (.msl 2 lo0p 0 (List.length aA))), (1, (eI a1)), (2, (eI b2)), (3, (eI n3)), (10, (eI i10))], by kernel_rfl, rfl, ⟨aS.eq (by simp []), aS.refl _, aS.refl _, aS.refl _, aS.refl _, trivial⟩⟩ ?_
    refine aI (aZ (aG (?_)))
    refine aU aF 3 ?_
    refine bE ?_
    exact aI (aG (⟨rfl, _, (oI h1).symm, bA, hO, hN⟩))
  refine eR 0 ?_
  obtain rfl := oI h1
  obtain rfl : _ = rr0 := ho0
  replace h0 : some aA = some r := h0
  obtain rfl := oI h0
  exact aI (aX (aX (bT (qK (x := (.tup [])) (by kernel_rfl) (aS.refl _) ⟨rfl, hO.ext, hO.at 0 (by kernel_rfl), by first | rfl | (simp only [List.length_map]; exact hN.trans hN0)⟩))))

theorem vO (lo0p : Nat) (aA : (List aD)) (a1 : Int) (m2 : Int) (b3 : Int) (cmp4_f : Nat) (cmp4_a cmp4_c : List V) (cmp4 : aD → aD → Option Int) (cmp4_h : ∀ a0 a1 r, cmp4 a0 a1 = some r → cF Try.prog cmp4_f (cmp4_a ++ [(aE a0), (aE a1)] ++ cmp4_c) (eI r)) (r : List aD) (h0 : mI aA a1 m2 b3 cmp4 = some r) : mF Try.prog 99 lo0p 2 (List.map aE aA) (List.map aE r) [(.msl 2 lo0p 0 (List.length aA)), (eI a1), (eI m2), (eI b3), (.fn (.func cmp4_f) cmp4_a cmp4_c)] (.tup []) := by
  intro H0 hl0
  refine cJ Try.func99 ?_
  have hO := aL.pI hl0
  clear hl0
  obtain ⟨N0, hN0⟩ : ∃ n, n = List.length aA := ⟨_, rfl⟩
  have hN : List.length aA = N0 := hN0.symm
  unfold mI at h0
  refine aT aF 4 [1] [(10, (eI (wR (m2 - a1))))] ?_
  refine aT aF 4 [3] [(11, (eI (wR (b3 - m2))))] ?_
  refine dB (fun T H => ∃ aA : List aD, ∃ i10 : Int, Has T [(0, (.msl 2 lo0p 0 (List.length aA))), (2, (eI m2)), (4, (.fn (.func cmp4_f) cmp4_a cmp4_c)), (10, (eI i10))] ∧ aL ⟨H0, [lo0p], []⟩ H [(lo0p, 2, List.map aE aA)] ∧ List.length aA = N0 ∧ iH cmp4 aA m2 i10 = some r) ?_ ?_
  · clear hO hN h0
    rintro T H ⟨aA, i10, hT, hO, hN, h0⟩
    refine bD hT ?_
    clear hT
    unfold iH at h0
    refine aU aF 8 ?_
    refine bN 7 ?_
    obtain ⟨x1, hx2, h0⟩ := bB h0
    refine oQ [(lo0p, 2, List.map aE x1)] 0 (lB lo0p aA (wR (m2 - i10)) m2 i10 cmp4_f cmp4_a cmp4_c cmp4 cmp4_h _ hx2) hO ?_
    intro H hO hl3
    simp only [List.length_map] at hl3
    replace hN := hl3.trans hN
    refine cL ?_
    refine cT (l := [(0, (.msl 2 lo0p 0 (List.length x1)))]) ⟨[(0, (.msl 2 lo0p 0 (List.length aA)))], by kernel_rfl, rfl, ⟨aS.eq (by simp [hl3]), trivial⟩⟩ ?_
    obtain rfl := oI h0
    exact aI (qK (x := (.tup [])) (by kernel_rfl) (aS.refl _) ⟨rfl, hO.ext, hO.at 0 (by kernel_rfl), by simp only [List.length_map]; exact hN.trans hN0⟩)
  refine bU 0 ?_
  refine dJ [(0, (.msl 2 lo0p 0 (List.length aA))), (2, (eI m2)), (4, (.fn (.func cmp4_f) cmp4_a cmp4_c)), (10, (eI (wR (m2 - a1)))), (11, (eI (wR (b3 - m2))))] ?_
  refine cR (fun T H => ∃ aA : List aD, ∃ i10 : Int, ∃ j11 : Int, Has T [(0, (.msl 2 lo0p 0 (List.length aA))), (2, (eI m2)), (4, (.fn (.func cmp4_f) cmp4_a cmp4_c)), (10, (eI i10)), (11, (eI j11))] ∧ aL ⟨H0, [lo0p], []⟩ H [(lo0p, 2, List.map aE aA)] ∧ List.length aA = N0 ∧ lY cmp4 aA m2 i10 j11 = some r) ?_ ⟨aA, wR (m2 - a1), wR (b3 - m2), bA, hO, hN, h0⟩
  clear hO hN h0
  rintro T H ⟨aA, i10, j11, hT, hO, hN, h0⟩
  refine bD hT ?_
  clear hT
  unfold lY at h0
  obtain ⟨rr0, hl0, h0⟩ := bB h0
  refine eS (fun (s : List aD × Int × Int) T H => Has T [(0, (.msl 2 lo0p 0 (List.length s.1))), (2, (eI m2)), (4, (.fn (.func cmp4_f) cmp4_a cmp4_c)), (10, (eI s.2.1)), (11, (eI s.2.2))] ∧ aL ⟨H0, [lo0p], []⟩ H [(lo0p, 2, List.map aE s.1)] ∧ List.length s.1 = N0) hl0 ⟨bA, hO, hN⟩ ?_
  clear hO hN
  rintro k0 s out1 T H ⟨hT, hO, hN⟩ h1 ho0
  obtain ⟨aA, i10, j11⟩ := s
  replace h1 : lV cmp4 m2 aA i10 j11 = some out1 := h1
  try dsimp only at hT
  refine bD hT ?_
  clear hT
  unfold lV at h1
  refine aP ?_
  refine aT aF 3 [] [(20, (aK (!decide (i10 = j11))))] ?_
  refine bL h1 (fun h1 => ?_) (fun h1 => ?_)
  · refine bP ?_
    refine bK [(0, (.msl 2 lo0p 0 (List.length aA))), (2, (eI m2)), (4, (.fn (.func cmp4_f) cmp4_a cmp4_c)), (10, (eI i10)), (11, (eI j11))] ?_
    refine bU 1 ?_
    refine aT aF 3 [] [(23, (aK (decide (j11 < i10))))] ?_
    refine bL h1 (fun h1 => ?_) (fun h1 => ?_)
    · refine aP ?_
      refine aU aF 8 ?_
      refine bN 7 ?_
      obtain ⟨x6, hx7, h1⟩ := bB h1
      refine oQ [(lo0p, 2, List.map aE x6)] 0 (lB lo0p aA (wR (m2 - i10)) m2 j11 cmp4_f cmp4_a cmp4_c cmp4 cmp4_h _ hx7) hO ?_
      intro H hO hl8
      simp only [List.length_map] at hl8
      replace hN := hl8.trans hN
      refine cL ?_
      refine cT (l := [(0, (.msl 2 lo0p 0 (List.length x6))), (2, (eI m2)), (4, (.fn (.func cmp4_f) cmp4_a cmp4_c)), (10, (eI i10)), (11, (eI j11))]) ⟨[(0, (.msl 2 lo0p 0 (List.length aA))), (2, (eI m2)), (4, (.fn (.func cmp4_f) cmp4_a cmp4_c)), (10, (eI i10)), (11, (eI j11))], by kernel_rfl, rfl, ⟨aS.eq (by simp [hl8]), aS.refl _, aS.refl _, aS.refl _, aS.refl _, trivial⟩⟩ ?_
      refine aI (aG (?_))
      refine aU aF 4 ?_
      refine bE ?_
      exact aI (aZ (aG (⟨rfl, _, (oI h1).symm, bA, hO, hN⟩)))
    refine aP ?_
    refine aU aF 12 ?_
    refine bN 11 ?_
    obtain ⟨x9, hx10, h1⟩ := bB h1
    refine oQ [(lo0p, 2, List.map aE x9)] 0 (lB lo0p aA (wR (m2 - i10)) (wR ((wR (m2 + j11)) - i10)) i10 cmp4_f cmp4_a cmp4_c cmp4 cmp4_h _ hx10) hO ?_
    intro H hO hl11
    simp only [List.length_map] at hl11
    replace hN := hl11.trans hN
    refine cL ?_
    refine cT (l := [(0, (.msl 2 lo0p 0 (List.length x9))), (2, (eI m2)), (4, (.fn (.func cmp4_f) cmp4_a cmp4_c)), (10, (eI i10)), (11, (eI j11))]) ⟨[(0, (.msl 2 lo0p 0 (List.length aA))), (2, (eI m2)), (4, (.fn (.func cmp4_f) cmp4_a cmp4_c)), (10, (eI i10)), (11, (eI j11))], by kernel_rfl, rfl, ⟨aS.eq (by simp [hl11]), aS.refl _, aS.refl _, aS.refl _, aS.refl _, trivial⟩⟩ ?_
    refine aI (aG (?_))
    refine aU aF 4 ?_
    refine bE ?_
    exact aI (aZ (aG (⟨rfl, _, (oI h1).symm, bA, hO, hN⟩)))
  refine eR 0 ?_
  obtain rfl := oI h1
  obtain rfl : _ = rr0 := ho0
  replace h0 : iH cmp4 aA m2 i10 = some r := h0
  exact aI (aX (aX (bT (aG (⟨rfl, _, _, bA, hO, hN, h0⟩)))))

end Go.Abs
namespace Go.Abs
open Go Go.RowKit Go.Proofs
theorem sF (cmp4_f : Nat) (cmp4_a cmp4_c : List V) (cmp4 : aD → aD → Option Int) (cmp4_h : ∀ a0 a1 r, cmp4 a0 a1 = some r → cF Try.prog cmp4_f (cmp4_a ++ [(aE a0), (aE a1)] ++ cmp4_c) (eI r)) (rec : (List aD) → Int → Int → Int → Option (List aD)) (ih : ∀ (lo0p : Nat) (aA : (List aD)) (a1 : Int) (m2 : Int) (b3 : Int) (r : List aD), rec aA a1 m2 b3 = some r → mF Try.prog 96 lo0p 2 (List.map aE aA) (List.map aE r) [(.msl 2 lo0p 0 (List.length aA)), (eI a1), (eI m2), (eI b3), (.fn (.func cmp4_f) cmp4_a cmp4_c)] (.tup [])) (lo0p : Nat) (aA : (List aD)) (a1 : Int) (m2 : Int) (b3 : Int) (r : List aD) (h0 : dU cmp4 rec aA a1 m2 b3 = some r) : mF Try.prog 96 lo0p 2 (List.map aE aA) (List.map aE r) [(.msl 2 lo0p 0 (List.length aA)), (eI a1), (eI m2), (eI b3), (.fn (.func cmp4_f) cmp4_a cmp4_c)] (.tup []) := by
  intro H0 hl0
  refine cJ Try.func96 ?_
  have hO := aL.pI hl0
  clear hl0
  obtain ⟨N0, hN0⟩ : ∃ n, n = List.length aA := ⟨_, rfl⟩
  have hN : List.length aA = N0 := hN0.symm
  unfold dU at h0
  refine dB (fun T H => ∃ aA : List aD, Has T [(0, (.msl 2 lo0p 0 (List.length aA))), (1, (eI a1)), (2, (eI m2)), (3, (eI b3)), (4, (.fn (.func cmp4_f) cmp4_a cmp4_c))] ∧ aL ⟨H0, [lo0p], []⟩ H [(lo0p, 2, List.map aE aA)] ∧ List.length aA = N0 ∧ kY cmp4 rec aA a1 m2 b3 = some r) ?_ ?_
  · clear hO hN h0
    rintro T H ⟨aA, hT, hO, hN, h0⟩
    refine bD hT ?_
    clear hT
    unfold kY at h0
    refine dB (fun T H => ∃ aA : List aD, Has T [(0, (.msl 2 lo0p 0 (List.length aA))), (1, (eI a1)), (2, (eI m2)), (3, (eI b3)), (4, (.fn (.func cmp4_f) cmp4_a cmp4_c))] ∧ aL ⟨H0, [lo0p], []⟩ H [(lo0p, 2, List.map aE aA)] ∧ List.length aA = N0 ∧ kZ cmp4 rec aA a1 m2 b3 = some r) ?_ ?_
    · clear hO hN h0
      rintro T H ⟨aA, hT, hO, hN, h0⟩
      refine bD hT ?_
      clear hT
      unfold kZ at h0
      refine aP ?_
      refine aU aF 7 ?_
      obtain ⟨c1, h0⟩ := bJ h0
      refine sH [0 ≤ (1 : Int)] ⟨c1, trivial⟩ ?_
      refine bS [] [(18, (eI (wR (Int.fdiv (IntKind.u64.wrap (wR (a1 + b3))) (2 ^ (min (Int.toNat (1 : Int)) 64))))))] ?_
      refine aT aF 4 [] [(19, (eI (wR ((wR (Int.fdiv (IntKind.u64.wrap (wR (a1 + b3))) (2 ^ (min (Int.toNat (1 : Int)) 64)))) + m2))))] ?_
      refine aT aF 2 [] [] ?_
      refine dB (fun T H => ∃ aA : List aD, ∃ bR : Int, ∃ n19 : Int, ∃ aQ : Int, ∃ r21 : Int, Has T [(0, (.msl 2 lo0p 0 (List.length aA))), (1, (eI a1)), (2, (eI m2)), (3, (eI b3)), (4, (.fn (.func cmp4_f) cmp4_a cmp4_c)), (18, (eI bR)), (19, (eI n19)), (20, (eI aQ)), (21, (eI r21))] ∧ aL ⟨H0, [lo0p], []⟩ H [(lo0p, 2, List.map aE aA)] ∧ List.length aA = N0 ∧ gF cmp4 rec aA a1 m2 b3 bR n19 aQ r21 = some r) ?_ ?_
      · clear hO hN h0
        rintro T H ⟨aA, bR, n19, aQ, r21, hT, hO, hN, h0⟩
        refine bD hT ?_
        clear hT
        unfold gF at h0
        refine aT aF 3 [] [(22, (eI (wR (n19 - (1 : Int)))))] ?_
        refine dB (fun T H => ∃ aA : List aD, ∃ aQ : Int, Has T [(0, (.msl 2 lo0p 0 (List.length aA))), (1, (eI a1)), (2, (eI m2)), (3, (eI b3)), (4, (.fn (.func cmp4_f) cmp4_a cmp4_c)), (18, (eI bR)), (19, (eI n19)), (20, (eI aQ))] ∧ aL ⟨H0, [lo0p], []⟩ H [(lo0p, 2, List.map aE aA)] ∧ List.length aA = N0 ∧ gK cmp4 rec aA a1 m2 b3 bR n19 aQ = some r) ?_ ?_
        · clear hO hN h0
          rintro T H ⟨aA, aQ, hT, hO, hN, h0⟩
          refine bD hT ?_
          clear hT
          unfold gK at h0
          refine aT aF 4 [19] [(24, (eI (wR (n19 - aQ))))] ?_
          refine dB (fun T H => ∃ aA : List aD, ∃ dX : Int, Has T [(0, (.msl 2 lo0p 0 (List.length aA))), (1, (eI a1)), (3, (eI b3)), (4, (.fn (.func cmp4_f) cmp4_a cmp4_c)), (18, (eI bR)), (20, (eI aQ)), (24, (eI dX))] ∧ aL ⟨H0, [lo0p], []⟩ H [(lo0p, 2, List.map aE aA)] ∧ List.length aA = N0 ∧ gQ cmp4 rec aA a1 b3 bR aQ dX = some r) ?_ ?_
          · clear hO hN h0
            rintro T H ⟨aA, dX, hT, hO, hN, h0⟩
            refine bD hT ?_
            clear hT
            unfold gQ at h0
            refine dB (fun T H => ∃ aA : List aD, Has T [(0, (.msl 2 lo0p 0 (List.length aA))), (3, (eI b3)), (4, (.fn (.func cmp4_f) cmp4_a cmp4_c)), (18, (eI bR)), (24, (eI dX))] ∧ aL ⟨H0, [lo0p], []⟩ H [(lo0p, 2, List.map aE aA)] ∧ List.length aA = N0 ∧ gE cmp4 rec aA b3 bR dX = some r) ?_ ?_
            · clear hO hN h0
              rintro T H ⟨aA, hT, hO, hN, h0⟩
              refine bD hT ?_
              clear hT
              unfold gE at h0
              refine aT aF 8 [] [(213, (aK ((decide (bR < dX)) && (decide (dX < b3)))))] ?_
              refine bL h0 (fun h0 => ?_) (fun h0 => ?_)
              · refine aU aF 6 ?_
                refine bN 5 ?_
                obtain ⟨x3, hx4, h0⟩ := bB h0
                refine oQ [(lo0p, 2, List.map aE x3)] 0 (ih lo0p aA bR dX b3 _ hx4) hO ?_
                intro H hO hl5
                simp only [List.length_map] at hl5
                replace hN := hl5.trans hN
                refine cL ?_
                refine cT (l := [(0, (.msl 2 lo0p 0 (List.length x3)))]) ⟨[(0, (.msl 2 lo0p 0 (List.length aA)))], by kernel_rfl, rfl, ⟨aS.eq (by simp [hl5]), trivial⟩⟩ ?_
                obtain rfl := oI h0
                exact aI (qK (x := (.tup [])) (by kernel_rfl) (aS.refl _) ⟨rfl, hO.ext, hO.at 0 (by kernel_rfl), by simp only [List.length_map]; exact hN.trans hN0⟩)
              refine bP ?_
              obtain rfl := oI h0
              exact aI (qK (x := (.tup [])) (by kernel_rfl) (aS.refl _) ⟨rfl, hO.ext, hO.at 0 (by kernel_rfl), by first | rfl | (simp only [List.length_map]; exact hN.trans hN0)⟩)
            refine aT aF 8 [] [(199, (aK ((decide (a1 < aQ)) && (decide (aQ < bR)))))] ?_
            refine bL h0 (fun h0 => ?_) (fun h0 => ?_)
            · refine aU aF 6 ?_
              refine bN 5 ?_
              obtain ⟨x7, hx8, h0⟩ := bB h0
              refine oQ [(lo0p, 2, List.map aE x7)] 0 (ih lo0p aA a1 aQ bR _ hx8) hO ?_
              intro H hO hl9
              simp only [List.length_map] at hl9
              replace hN := hl9.trans hN
              refine cL ?_
              refine cT (l := [(0, (.msl 2 lo0p 0 (List.length x7))), (3, (eI b3)), (4, (.fn (.func cmp4_f) cmp4_a cmp4_c)), (18, (eI bR)), (24, (eI dX))]) ⟨[(0, (.msl 2 lo0p 0 (List.length aA))), (3, (eI b3)), (4, (.fn (.func cmp4_f) cmp4_a cmp4_c)), (18, (eI bR)), (24, (eI dX))], by kernel_rfl, rfl, ⟨aS.eq (by simp [hl9]), aS.refl _, aS.refl _, aS.refl _, aS.refl _, trivial⟩⟩ ?_
              exact aI (aG (⟨rfl, _, bA, hO, hN, h0⟩))
            refine bP ?_
            exact aI (aG (⟨rfl, _, bA, hO, hN, h0⟩))
          refine aT aF 8 [] [(185, (aK ((decide (aQ < m2)) && (decide (m2 < (wR (n19 - aQ)))))))] ?_
          refine bL h0 (fun h0 => ?_) (fun h0 => ?_)
          · refine aU aF 6 ?_
            refine bN 5 ?_
            obtain ⟨x11, hx12, h0⟩ := bB h0
            refine oQ [(lo0p, 2, List.map aE x11)] 0 (vO lo0p aA aQ m2 (wR (n19 - aQ)) cmp4_f cmp4_a cmp4_c cmp4 cmp4_h _ hx12) hO ?_
            intro H hO hl13
            simp only [List.length_map] at hl13
            replace hN := hl13.trans hN
            refine cL ?_
            refine cT (l := [(0, (.msl 2 lo0p 0 (List.length x11))), (1, (eI a1)), (3, (eI b3)), (4, (.fn (.func cmp4_f) cmp4_a cmp4_c)), (18, (eI bR)), (20, (eI aQ)), (24, (eI (wR (n19 - aQ))))]) ⟨[(0, (.msl 2 lo0p 0 (List.length aA))), (1, (eI a1)), (3, (eI b3)), (4, (.fn (.func cmp4_f) cmp4_a cmp4_c)), (18, (eI bR)), (20, (eI aQ)), (24, (eI (wR (n19 - aQ))))], by kernel_rfl, rfl, ⟨aS.eq (by simp [hl13]), aS.refl _, aS.refl _, aS.refl _, aS.refl _, aS.refl _, aS.refl _, trivial⟩⟩ ?_
            exact aI (aG (⟨rfl, _, _, bA, hO, hN, h0⟩))
          refine bP ?_
          exact aI (aG (⟨rfl, _, _, bA, hO, hN, h0⟩))
        refine bU 8 ?_
        refine dJ [(0, (.msl 2 lo0p 0 (List.length aA))), (1, (eI a1)), (2, (eI m2)), (3, (eI b3)), (4, (.fn (.func cmp4_f) cmp4_a cmp4_c)), (18, (eI bR)), (19, (eI n19)), (20, (eI aQ)), (21, (eI r21)), (22, (eI (wR (n19 - (1 : Int)))))] ?_
        refine cR (fun T H => ∃ aA : List aD, ∃ aQ : Int, ∃ r21 : Int, ∃ p22 : Int, Has T [(0, (.msl 2 lo0p 0 (List.length aA))), (1, (eI a1)), (2, (eI m2)), (3, (eI b3)), (4, (.fn (.func cmp4_f) cmp4_a cmp4_c)), (18, (eI bR)), (19, (eI n19)), (20, (eI aQ)), (21, (eI r21)), (22, (eI p22))] ∧ aL ⟨H0, [lo0p], []⟩ H [(lo0p, 2, List.map aE aA)] ∧ List.length aA = N0 ∧ lJ cmp4 rec aA a1 m2 b3 bR n19 aQ r21 p22 = some r) ?_ ⟨aA, aQ, r21, wR (n19 - (1 : Int)), bA, hO, hN, h0⟩
        clear hO hN h0
        rintro T H ⟨aA, aQ, r21, p22, hT, hO, hN, h0⟩
        refine bD hT ?_
        clear hT
        unfold lJ at h0
        obtain ⟨rr0, hl0, h0⟩ := bB h0
        refine eS (fun (s : List aD × Int × Int) T H => Has T [(0, (.msl 2 lo0p 0 (List.length s.1))), (1, (eI a1)), (2, (eI m2)), (3, (eI b3)), (4, (.fn (.func cmp4_f) cmp4_a cmp4_c)), (18, (eI bR)), (19, (eI n19)), (20, (eI s.2.1)), (21, (eI s.2.2)), (22, (eI p22))] ∧ aL ⟨H0, [lo0p], []⟩ H [(lo0p, 2, List.map aE s.1)] ∧ List.length s.1 = N0) hl0 ⟨bA, hO, hN⟩ ?_
        clear hO hN
        rintro k0 s out1 T H ⟨hT, hO, hN⟩ h1 ho0
        obtain ⟨aA, aQ, r21⟩ := s
        replace h1 : lG cmp4 rec a1 m2 b3 bR n19 p22 aA aQ r21 = some out1 := h1
        try dsimp only at hT
        refine bD hT ?_
        clear hT
        unfold lG at h1
        refine aP ?_
        refine aT aF 3 [] [(151, (aK (decide (aQ < r21))))] ?_
        refine bL h1 (fun h1 => ?_) (fun h1 => ?_)
        · refine bP ?_
          refine bK [(0, (.msl 2 lo0p 0 (List.length aA))), (1, (eI a1)), (2, (eI m2)), (3, (eI b3)), (4, (.fn (.func cmp4_f) cmp4_a cmp4_c)), (18, (eI bR)), (19, (eI n19)), (20, (eI aQ)), (21, (eI r21)), (22, (eI p22))] ?_
          refine bU 9 ?_
          refine aP ?_
          refine aU aF 7 ?_
          obtain ⟨c15, h1⟩ := bJ h1
          refine sH [0 ≤ (1 : Int)] ⟨c15, trivial⟩ ?_
          refine bS [] [(23, (eI (wR (Int.fdiv (IntKind.u64.wrap (wR (aQ + r21))) (2 ^ (min (Int.toNat (1 : Int)) 64))))))] ?_
          refine aP ?_
          refine kH (jW [169]) aF 14 ?_
          obtain ⟨c16, h1⟩ := bJ h1
          refine dA 6 [0 ≤ (wR (p22 - (wR (Int.fdiv (IntKind.u64.wrap (wR (aQ + r21))) (2 ^ (min (Int.toNat (1 : Int)) 64)))))) ∧ (wR (p22 - (wR (Int.fdiv (IntKind.u64.wrap (wR (aQ + r21))) (2 ^ (min (Int.toNat (1 : Int)) 64)))))) < (lN aA)] ⟨c16, trivial⟩ ?_
          refine kC 0 lo0p 2 (0 + Int.toNat (wR (p22 - (wR (Int.fdiv (IntKind.u64.wrap (wR (aQ + r21))) (2 ^ (min (Int.toNat (1 : Int)) 64))))))) (aE (gD aA (wR (p22 - (wR (Int.fdiv (IntKind.u64.wrap (wR (aQ + r21))) (2 ^ (min (Int.toNat (1 : Int)) 64)))))))) (aE (gD aA (wR (p22 - (wR (Int.fdiv (IntKind.u64.wrap (wR (aQ + r21))) (2 ^ (min (Int.toNat (1 : Int)) 64)))))))) (List.map aE aA) hO (cG c16) ?_
          obtain ⟨c17, h1⟩ := bJ h1
          refine dA 10 [0 ≤ (wR (Int.fdiv (IntKind.u64.wrap (wR (aQ + r21))) (2 ^ (min (Int.toNat (1 : Int)) 64)))) ∧ (wR (Int.fdiv (IntKind.u64.wrap (wR (aQ + r21))) (2 ^ (min (Int.toNat (1 : Int)) 64)))) < (lN aA)] ⟨c17, trivial⟩ ?_
          refine kC 0 lo0p 2 (0 + Int.toNat (wR (Int.fdiv (IntKind.u64.wrap (wR (aQ + r21))) (2 ^ (min (Int.toNat (1 : Int)) 64))))) (aE (gD aA (wR (Int.fdiv (IntKind.u64.wrap (wR (aQ + r21))) (2 ^ (min (Int.toNat (1 : Int)) 64)))))) (aE (gD aA (wR (Int.fdiv (IntKind.u64.wrap (wR (aQ + r21))) (2 ^ (min (Int.toNat (1 : Int)) 64)))))) (List.map aE aA) hO (cG c17) ?_
          obtain ⟨x18, hx19, h1⟩ := bB h1
          refine zC (cmp4_h (gD aA (wR (p22 - (wR (Int.fdiv (IntKind.u64.wrap (wR (aQ + r21))) (2 ^ (min (Int.toNat (1 : Int)) 64))))))) (gD aA (wR (Int.fdiv (IntKind.u64.wrap (wR (aQ + r21))) (2 ^ (min (Int.toNat (1 : Int)) 64))))) _ hx19) hO ?_
          intro H hO
          refine oO ?_
          refine bS [] [(171, (aK (!(decide (x18 < (0 : Int))))))] ?_
          refine bL h1 (fun h1 => ?_) (fun h1 => ?_)
          · refine aU aF 3 ?_
            refine bE ?_
            exact aI (aZ (aG (⟨rfl, _, (oI h1).symm, bA, hO, hN⟩)))
          refine aU aF 2 ?_
          refine bE ?_
          exact aI (aZ (aG (⟨rfl, _, (oI h1).symm, bA, hO, hN⟩)))
        refine eR 8 ?_
        obtain rfl := oI h1
        obtain rfl : _ = rr0 := ho0
        replace h0 : gK cmp4 rec aA a1 m2 b3 bR n19 aQ = some r := h0
        exact aI (aX (aX (bT (aG (⟨rfl, _, _, bA, hO, hN, h0⟩)))))
      refine aT aF 3 [] [(140, (aK (decide ((wR (Int.fdiv (IntKind.u64.wrap (wR (a1 + b3))) (2 ^ (min (Int.toNat (1 : Int)) 64)))) < m2))))] ?_
      refine bL h0 (fun h0 => ?_) (fun h0 => ?_)
      · refine bX aF 4 [(0, (.msl 2 lo0p 0 (List.length aA))), (1, (eI a1)), (2, (eI m2)), (3, (eI b3)), (4, (.fn (.func cmp4_f) cmp4_a cmp4_c)), (18, (eI (wR (Int.fdiv (IntKind.u64.wrap (wR (a1 + b3))) (2 ^ (min (Int.toNat (1 : Int)) 64)))))), (19, (eI (wR ((wR (Int.fdiv (IntKind.u64.wrap (wR (a1 + b3))) (2 ^ (min (Int.toNat (1 : Int)) 64)))) + m2)))), (20, (eI (wR ((wR ((wR (Int.fdiv (IntKind.u64.wrap (wR (a1 + b3))) (2 ^ (min (Int.toNat (1 : Int)) 64)))) + m2)) - b3))))] ?_
        refine aU aF 2 ?_
        refine bE ?_
        exact aI (aG (⟨rfl, _, _, _, _, _, bA, hO, hN, h0⟩))
      refine bX aF 2 [(0, (.msl 2 lo0p 0 (List.length aA))), (1, (eI a1)), (2, (eI m2)), (3, (eI b3)), (4, (.fn (.func cmp4_f) cmp4_a cmp4_c)), (18, (eI (wR (Int.fdiv (IntKind.u64.wrap (wR (a1 + b3))) (2 ^ (min (Int.toNat (1 : Int)) 64)))))), (19, (eI (wR ((wR (Int.fdiv (IntKind.u64.wrap (wR (a1 + b3))) (2 ^ (min (Int.toNat (1 : Int)) 64)))) + m2)))), (20, (eI a1))] ?_
      refine aU aF 2 ?_
      refine bE ?_
      exact aI (aG (⟨rfl, _, _, _, _, _, bA, hO, hN, h0⟩))
    refine aT aF 4 [] [(80, (aK (decide ((wR (b3 - m2)) = (1 : Int)))))] ?_
    refine bL h0 (fun h0 => ?_) (fun h0 => ?_)
    · refine aT aF 2 [1, 3, 80] [(14, (eI a1))] ?_
      refine aT aF 2 [] [(15, (eI m2))] ?_
      refine dB (fun T H => ∃ aA : List aD, ∃ i14 : Int, Has T [(0, (.msl 2 lo0p 0 (List.length aA))), (2, (eI m2)), (14, (eI i14))] ∧ aL ⟨H0, [lo0p], []⟩ H [(lo0p, 2, List.map aE aA)] ∧ List.length aA = N0 ∧ gU cmp4 rec aA m2 i14 = some r) ?_ ?_
      · clear hO hN h0
        rintro T H ⟨aA, i14, hT, hO, hN, h0⟩
        refine bD hT ?_
        clear hT
        unfold gU at h0
        refine dB (fun T H => ∃ aA : List aD, Has T [(0, (.msl 2 lo0p 0 (List.length aA)))] ∧ aL ⟨H0, [lo0p], []⟩ H [(lo0p, 2, List.map aE aA)] ∧ List.length aA = N0 ∧ gT cmp4 rec aA = some r) ?_ ?_
        · clear hO hN h0
          rintro T H ⟨aA, hT, hO, hN, h0⟩
          refine bD hT ?_
          clear hT
          unfold gT at h0
          refine bM ?_
          obtain rfl := oI h0
          exact aI (aW (nB (x := (.tup [])) (by kernel_rfl) (aS.refl _) ⟨rfl, hO.ext, hO.at 0 (by kernel_rfl), by first | rfl | (simp only [List.length_map]; exact hN.trans hN0)⟩))
        refine aT aF 2 [2] [(17, (eI m2))] ?_
        refine bU 6 ?_
        refine dJ [(0, (.msl 2 lo0p 0 (List.length aA))), (14, (eI i14)), (17, (eI m2))] ?_
        refine cR (fun T H => ∃ aA : List aD, ∃ k17 : Int, Has T [(0, (.msl 2 lo0p 0 (List.length aA))), (14, (eI i14)), (17, (eI k17))] ∧ aL ⟨H0, [lo0p], []⟩ H [(lo0p, 2, List.map aE aA)] ∧ List.length aA = N0 ∧ kR cmp4 rec aA i14 k17 = some r) ?_ ⟨aA, m2, bA, hO, hN, h0⟩
        clear hO hN h0
        rintro T H ⟨aA, k17, hT, hO, hN, h0⟩
        refine bD hT ?_
        clear hT
        unfold kR at h0
        obtain ⟨rr0, hl0, h0⟩ := bB h0
        refine eS (fun (s : List aD × Int) T H => Has T [(0, (.msl 2 lo0p 0 (List.length s.1))), (14, (eI i14)), (17, (eI s.2))] ∧ aL ⟨H0, [lo0p], []⟩ H [(lo0p, 2, List.map aE s.1)] ∧ List.length s.1 = N0) hl0 ⟨bA, hO, hN⟩ ?_
        clear hO hN
        rintro k0 s out1 T H ⟨hT, hO, hN⟩ h1 ho0
        obtain ⟨aA, k17⟩ := s
        replace h1 : kI cmp4 rec i14 aA k17 = some out1 := h1
        try dsimp only at hT
        refine bD hT ?_
        clear hT
        unfold kI at h1
        refine aP ?_
        refine aT aF 3 [] [(110, (aK (decide (i14 < k17))))] ?_
        refine bL h1 (fun h1 => ?_) (fun h1 => ?_)
        · refine bP ?_
          refine bK [(0, (.msl 2 lo0p 0 (List.length aA))), (14, (eI i14)), (17, (eI k17))] ?_
          refine aP ?_
          refine bU 7 ?_
          refine kH (jW []) aF 18 ?_
          obtain ⟨c25, h1⟩ := bJ h1
          refine dA 9 [0 ≤ (wR (k17 - (1 : Int))) ∧ (wR (k17 - (1 : Int))) < (lN aA)] ⟨c25, trivial⟩ ?_
          refine kC 0 lo0p 2 (0 + Int.toNat (wR (k17 - (1 : Int)))) (aE (gD aA (wR (k17 - (1 : Int))))) (aE (gD aA (wR (k17 - (1 : Int))))) (List.map aE aA) hO (cG c25) ?_
          obtain ⟨c26, h1⟩ := bJ h1
          refine dA 13 [0 ≤ k17 ∧ k17 < (lN aA)] ⟨c26, trivial⟩ ?_
          refine kC 0 lo0p 2 (0 + Int.toNat k17) (aE (gD aA k17)) (aE (gD aA k17)) (List.map aE aA) hO (cG c26) ?_
          obtain ⟨c27, h1⟩ := bJ h1
          refine dA 15 [0 ≤ k17 ∧ k17 < (lN aA)] ⟨c27, trivial⟩ ?_
          refine sE 0 lo0p 2 (0 + Int.toNat k17) (aE (gD aA k17)) (aE (gD aA (wR (k17 - (1 : Int))))) (List.map aE aA) [(lo0p, 2, List.map aE (List.set aA (Int.toNat k17) (gD aA (wR (k17 - (1 : Int))))))] hO (cG c27) (by simp only [List.set, mO]) ?_
          intro H hO
          replace hN : List.length (List.set aA (Int.toNat k17) (gD aA (wR (k17 - (1 : Int))))) = N0 := by simpa using hN
          obtain ⟨c28, h1⟩ := bJ h1
          refine dA 17 [0 ≤ (wR (k17 - (1 : Int))) ∧ (wR (k17 - (1 : Int))) < (lN aA)] ⟨c28, trivial⟩ ?_
          refine sE 0 lo0p 2 (0 + Int.toNat (wR (k17 - (1 : Int)))) (aE (gD (List.set aA (Int.toNat k17) (gD aA (wR (k17 - (1 : Int))))) (wR (k17 - (1 : Int))))) (aE (gD aA k17)) (List.map aE (List.set aA (Int.toNat k17) (gD aA (wR (k17 - (1 : Int)))))) [(lo0p, 2, List.map aE (List.set (List.set aA (Int.toNat k17) (gD aA (wR (k17 - (1 : Int))))) (Int.toNat (wR (k17 - (1 : Int)))) (gD aA k17)))] hO (vG c28 (by simp [])) (by simp only [List.set, mO]) ?_
          intro H hO
          replace hN : List.length (List.set (List.set aA (Int.toNat k17) (gD aA (wR (k17 - (1 : Int))))) (Int.toNat (wR (k17 - (1 : Int)))) (gD aA k17)) = N0 := by simpa using hN
          refine xA (by kernel_rfl) ?_
          refine cT (l := [(0, (.msl 2 lo0p 0 (List.length (List.set (List.set aA (Int.toNat k17) (gD aA (wR (k17 - (1 : Int))))) (Int.toNat (wR (k17 - (1 : Int)))) (gD aA k17))))), (14, (eI i14)), (17, (eI k17))]) ⟨[(0, (.msl 2 lo0p 0 (List.length aA))), (14, (eI i14)), (17, (eI k17))], by kernel_rfl, rfl, ⟨aS.eq (by simp []), aS.refl _, aS.refl _, trivial⟩⟩ ?_
          refine aI (aZ (aG (?_)))
          refine aU aF 3 ?_
          refine bE ?_
          exact aI (aG (⟨rfl, _, (oI h1).symm, bA, hO, hN⟩))
        refine eR 6 ?_
        obtain rfl := oI h1
        obtain rfl : _ = rr0 := ho0
        replace h0 : gT cmp4 rec aA = some r := h0
        exact aI (aX (aX (bT (aG (⟨rfl, _, bA, hO, hN, h0⟩)))))
      refine bU 4 ?_
      refine dJ [(0, (.msl 2 lo0p 0 (List.length aA))), (2, (eI m2)), (4, (.fn (.func cmp4_f) cmp4_a cmp4_c)), (14, (eI a1)), (15, (eI m2))] ?_
      refine cR (fun T H => ∃ aA : List aD, ∃ i14 : Int, ∃ j15 : Int, Has T [(0, (.msl 2 lo0p 0 (List.length aA))), (2, (eI m2)), (4, (.fn (.func cmp4_f) cmp4_a cmp4_c)), (14, (eI i14)), (15, (eI j15))] ∧ aL ⟨H0, [lo0p], []⟩ H [(lo0p, 2, List.map aE aA)] ∧ List.length aA = N0 ∧ kF cmp4 rec aA m2 i14 j15 = some r) ?_ ⟨aA, a1, m2, bA, hO, hN, h0⟩
      clear hO hN h0
      rintro T H ⟨aA, i14, j15, hT, hO, hN, h0⟩
      refine bD hT ?_
      clear hT
      unfold kF at h0
      obtain ⟨rr0, hl0, h0⟩ := bB h0
      refine eS (fun (s : List aD × Int × Int) T H => Has T [(0, (.msl 2 lo0p 0 (List.length s.1))), (2, (eI m2)), (4, (.fn (.func cmp4_f) cmp4_a cmp4_c)), (14, (eI s.2.1)), (15, (eI s.2.2))] ∧ aL ⟨H0, [lo0p], []⟩ H [(lo0p, 2, List.map aE s.1)] ∧ List.length s.1 = N0) hl0 ⟨bA, hO, hN⟩ ?_
      clear hO hN
      rintro k0 s out1 T H ⟨hT, hO, hN⟩ h1 ho0
      obtain ⟨aA, i14, j15⟩ := s
      replace h1 : kD cmp4 rec m2 aA i14 j15 = some out1 := h1
      try dsimp only at hT
      refine bD hT ?_
      clear hT
      unfold kD at h1
      refine aP ?_
      refine aT aF 3 [] [(85, (aK (decide (i14 < j15))))] ?_
      refine bL h1 (fun h1 => ?_) (fun h1 => ?_)
      · refine bP ?_
        refine bK [(0, (.msl 2 lo0p 0 (List.length aA))), (2, (eI m2)), (4, (.fn (.func cmp4_f) cmp4_a cmp4_c)), (14, (eI i14)), (15, (eI j15))] ?_
        refine bU 5 ?_
        refine aP ?_
        refine aU aF 7 ?_
        obtain ⟨c30, h1⟩ := bJ h1
        refine sH [0 ≤ (1 : Int)] ⟨c30, trivial⟩ ?_
        refine bS [] [(16, (eI (wR (Int.fdiv (IntKind.u64.wrap (wR (i14 + j15))) (2 ^ (min (Int.toNat (1 : Int)) 64))))))] ?_
        refine aP ?_
        refine kH (jW [101]) aF 12 ?_
        obtain ⟨c31, h1⟩ := bJ h1
        refine dA 4 [0 ≤ m2 ∧ m2 < (lN aA)] ⟨c31, trivial⟩ ?_
        refine kC 0 lo0p 2 (0 + Int.toNat m2) (aE (gD aA m2)) (aE (gD aA m2)) (List.map aE aA) hO (cG c31) ?_
        obtain ⟨c32, h1⟩ := bJ h1
        refine dA 8 [0 ≤ (wR (Int.fdiv (IntKind.u64.wrap (wR (i14 + j15))) (2 ^ (min (Int.toNat (1 : Int)) 64)))) ∧ (wR (Int.fdiv (IntKind.u64.wrap (wR (i14 + j15))) (2 ^ (min (Int.toNat (1 : Int)) 64)))) < (lN aA)] ⟨c32, trivial⟩ ?_
        refine kC 0 lo0p 2 (0 + Int.toNat (wR (Int.fdiv (IntKind.u64.wrap (wR (i14 + j15))) (2 ^ (min (Int.toNat (1 : Int)) 64))))) (aE (gD aA (wR (Int.fdiv (IntKind.u64.wrap (wR (i14 + j15))) (2 ^ (min (Int.toNat (1 : Int)) 64)))))) (aE (gD aA (wR (Int.fdiv (IntKind.u64.wrap (wR (i14 + j15))) (2 ^ (min (Int.toNat (1 : Int)) 64)))))) (List.map aE aA) hO (cG c32) ?_
        obtain ⟨x33, hx34, h1⟩ := bB h1
        refine zC (cmp4_h (gD aA m2) (gD aA (wR (Int.fdiv (IntKind.u64.wrap (wR (i14 + j15))) (2 ^ (min (Int.toNat (1 : Int)) 64))))) _ hx34) hO ?_
        intro H hO
        refine oO ?_
        refine bS [] [(103, (aK (!(decide (x33 < (0 : Int))))))] ?_
        refine bL h1 (fun h1 => ?_) (fun h1 => ?_)
        · refine aU aF 3 ?_
          refine bE ?_
          exact aI (aZ (aG (⟨rfl, _, (oI h1).symm, bA, hO, hN⟩)))
        refine aU aF 2 ?_
        refine bE ?_
        exact aI (aZ (aG (⟨rfl, _, (oI h1).symm, bA, hO, hN⟩)))
      refine eR 4 ?_
      obtain rfl := oI h1
      obtain rfl : _ = rr0 := ho0
      replace h0 : gU cmp4 rec aA m2 i14 = some r := h0
      exact aI (aX (aX (bT (aG (⟨rfl, _, _, bA, hO, hN, h0⟩)))))
    refine bP ?_
    exact aI (aG (⟨rfl, _, bA, hO, hN, h0⟩))
  refine aT aF 4 [] [(28, (aK (decide ((wR (m2 - a1)) = (1 : Int)))))] ?_
  refine bL h0 (fun h0 => ?_) (fun h0 => ?_)
  · refine aT aF 2 [2, 28] [(10, (eI m2))] ?_
    refine aT aF 2 [3] [(11, (eI b3))] ?_
    refine dB (fun T H => ∃ aA : List aD, ∃ i10 : Int, Has T [(0, (.msl 2 lo0p 0 (List.length aA))), (1, (eI a1)), (10, (eI i10))] ∧ aL ⟨H0, [lo0p], []⟩ H [(lo0p, 2, List.map aE aA)] ∧ List.length aA = N0 ∧ fZ cmp4 rec aA a1 i10 = some r) ?_ ?_
    · clear hO hN h0
      rintro T H ⟨aA, i10, hT, hO, hN, h0⟩
      refine bD hT ?_
      clear hT
      unfold fZ at h0
      refine dB (fun T H => ∃ aA : List aD, Has T [(0, (.msl 2 lo0p 0 (List.length aA)))] ∧ aL ⟨H0, [lo0p], []⟩ H [(lo0p, 2, List.map aE aA)] ∧ List.length aA = N0 ∧ fX cmp4 rec aA = some r) ?_ ?_
      · clear hO hN h0
        rintro T H ⟨aA, hT, hO, hN, h0⟩
        refine bD hT ?_
        clear hT
        unfold fX at h0
        refine bM ?_
        obtain rfl := oI h0
        exact aI (aW (nB (x := (.tup [])) (by kernel_rfl) (aS.refl _) ⟨rfl, hO.ext, hO.at 0 (by kernel_rfl), by first | rfl | (simp only [List.length_map]; exact hN.trans hN0)⟩))
      refine aT aF 2 [1] [(13, (eI a1))] ?_
      refine bU 2 ?_
      refine dJ [(0, (.msl 2 lo0p 0 (List.length aA))), (10, (eI i10)), (13, (eI a1))] ?_
      refine cR (fun T H => ∃ aA : List aD, ∃ k13 : Int, Has T [(0, (.msl 2 lo0p 0 (List.length aA))), (10, (eI i10)), (13, (eI k13))] ∧ aL ⟨H0, [lo0p], []⟩ H [(lo0p, 2, List.map aE aA)] ∧ List.length aA = N0 ∧ kM cmp4 rec aA i10 k13 = some r) ?_ ⟨aA, a1, bA, hO, hN, h0⟩
      clear hO hN h0
      rintro T H ⟨aA, k13, hT, hO, hN, h0⟩
      refine bD hT ?_
      clear hT
      unfold kM at h0
      obtain ⟨rr0, hl0, h0⟩ := bB h0
      refine eS (fun (s : List aD × Int) T H => Has T [(0, (.msl 2 lo0p 0 (List.length s.1))), (10, (eI i10)), (13, (eI s.2))] ∧ aL ⟨H0, [lo0p], []⟩ H [(lo0p, 2, List.map aE s.1)] ∧ List.length s.1 = N0) hl0 ⟨bA, hO, hN⟩ ?_
      clear hO hN
      rintro k0 s out1 T H ⟨hT, hO, hN⟩ h1 ho0
      obtain ⟨aA, k13⟩ := s
      replace h1 : kU cmp4 rec i10 aA k13 = some out1 := h1
      try dsimp only at hT
      refine bD hT ?_
      clear hT
      unfold kU at h1
      refine aP ?_
      refine aT aF 4 [] [(58, (aK (decide (k13 < (wR (i10 - (1 : Int)))))))] ?_
      refine bL h1 (fun h1 => ?_) (fun h1 => ?_)
      · refine bP ?_
        refine bK [(0, (.msl 2 lo0p 0 (List.length aA))), (10, (eI i10)), (13, (eI k13))] ?_
        refine aP ?_
        refine bU 3 ?_
        refine kH (jW []) aF 18 ?_
        obtain ⟨c39, h1⟩ := bJ h1
        refine dA 9 [0 ≤ (wR (k13 + (1 : Int))) ∧ (wR (k13 + (1 : Int))) < (lN aA)] ⟨c39, trivial⟩ ?_
        refine kC 0 lo0p 2 (0 + Int.toNat (wR (k13 + (1 : Int)))) (aE (gD aA (wR (k13 + (1 : Int))))) (aE (gD aA (wR (k13 + (1 : Int))))) (List.map aE aA) hO (cG c39) ?_
        obtain ⟨c40, h1⟩ := bJ h1
        refine dA 13 [0 ≤ k13 ∧ k13 < (lN aA)] ⟨c40, trivial⟩ ?_
        refine kC 0 lo0p 2 (0 + Int.toNat k13) (aE (gD aA k13)) (aE (gD aA k13)) (List.map aE aA) hO (cG c40) ?_
        obtain ⟨c41, h1⟩ := bJ h1
        refine dA 15 [0 ≤ k13 ∧ k13 < (lN aA)] ⟨c41, trivial⟩ ?_
        refine sE 0 lo0p 2 (0 + Int.toNat k13) (aE (gD aA k13)) (aE (gD aA (wR (k13 + (1 : Int))))) (List.map aE aA) [(lo0p, 2, List.map aE (List.set aA (Int.toNat k13) (gD aA (wR (k13 + (1 : Int))))))] hO (cG c41) (by simp only [List.set, mO]) ?_
        intro H hO
        replace hN : List.length (List.set aA (Int.toNat k13) (gD aA (wR (k13 + (1 : Int))))) = N0 := by simpa using hN
        obtain ⟨c42, h1⟩ := bJ h1
        refine dA 17 [0 ≤ (wR (k13 + (1 : Int))) ∧ (wR (k13 + (1 : Int))) < (lN aA)] ⟨c42, trivial⟩ ?_
        refine sE 0 lo0p 2 (0 + Int.toNat (wR (k13 + (1 : Int)))) (aE (gD (List.set aA (Int.toNat k13) (gD aA (wR (k13 + (1 : Int))))) (wR (k13 + (1 : Int))))) (aE (gD aA k13)) (List.map aE (List.set aA (Int.toNat k13) (gD aA (wR (k13 + (1 : Int)))))) [(lo0p, 2, List.map aE (List.set (List.set aA (Int.toNat k13) (gD aA (wR (k13 + (1 : Int))))) (Int.toNat (wR (k13 + (1 : Int)))) (gD aA k13)))] hO (vG c42 (by simp [])) (by simp only [List.set, mO]) ?_
        intro H hO
        replace hN : List.length (List.set (List.set aA (Int.toNat k13) (gD aA (wR (k13 + (1 : Int))))) (Int.toNat (wR (k13 + (1 : Int)))) (gD aA k13)) = N0 := by simpa using hN
        refine xA (by kernel_rfl) ?_
        refine cT (l := [(0, (.msl 2 lo0p 0 (List.length (List.set (List.set aA (Int.toNat k13) (gD aA (wR (k13 + (1 : Int))))) (Int.toNat (wR (k13 + (1 : Int)))) (gD aA k13))))), (10, (eI i10)), (13, (eI k13))]) ⟨[(0, (.msl 2 lo0p 0 (List.length aA))), (10, (eI i10)), (13, (eI k13))], by kernel_rfl, rfl, ⟨aS.eq (by simp []), aS.refl _, aS.refl _, trivial⟩⟩ ?_
        refine aI (aZ (aG (?_)))
        refine aU aF 3 ?_
        refine bE ?_
        exact aI (aG (⟨rfl, _, (oI h1).symm, bA, hO, hN⟩))
      refine eR 2 ?_
      obtain rfl := oI h1
      obtain rfl : _ = rr0 := ho0
      replace h0 : fX cmp4 rec aA = some r := h0
      exact aI (aX (aX (bT (aG (⟨rfl, _, bA, hO, hN, h0⟩)))))
    refine bU 0 ?_
    refine dJ [(0, (.msl 2 lo0p 0 (List.length aA))), (1, (eI a1)), (4, (.fn (.func cmp4_f) cmp4_a cmp4_c)), (10, (eI m2)), (11, (eI b3))] ?_
    refine cR (fun T H => ∃ aA : List aD, ∃ i10 : Int, ∃ j11 : Int, Has T [(0, (.msl 2 lo0p 0 (List.length aA))), (1, (eI a1)), (4, (.fn (.func cmp4_f) cmp4_a cmp4_c)), (10, (eI i10)), (11, (eI j11))] ∧ aL ⟨H0, [lo0p], []⟩ H [(lo0p, 2, List.map aE aA)] ∧ List.length aA = N0 ∧ kP cmp4 rec aA a1 i10 j11 = some r) ?_ ⟨aA, m2, b3, bA, hO, hN, h0⟩
    clear hO hN h0
    rintro T H ⟨aA, i10, j11, hT, hO, hN, h0⟩
    refine bD hT ?_
    clear hT
    unfold kP at h0
    obtain ⟨rr0, hl0, h0⟩ := bB h0
    refine eS (fun (s : List aD × Int × Int) T H => Has T [(0, (.msl 2 lo0p 0 (List.length s.1))), (1, (eI a1)), (4, (.fn (.func cmp4_f) cmp4_a cmp4_c)), (10, (eI s.2.1)), (11, (eI s.2.2))] ∧ aL ⟨H0, [lo0p], []⟩ H [(lo0p, 2, List.map aE s.1)] ∧ List.length s.1 = N0) hl0 ⟨bA, hO, hN⟩ ?_
    clear hO hN
    rintro k0 s out1 T H ⟨hT, hO, hN⟩ h1 ho0
    obtain ⟨aA, i10, j11⟩ := s
    replace h1 : kE cmp4 rec a1 aA i10 j11 = some out1 := h1
    try dsimp only at hT
    refine bD hT ?_
    clear hT
    unfold kE at h1
    refine aP ?_
    refine aT aF 3 [] [(33, (aK (decide (i10 < j11))))] ?_
    refine bL h1 (fun h1 => ?_) (fun h1 => ?_)
    · refine bP ?_
      refine bK [(0, (.msl 2 lo0p 0 (List.length aA))), (1, (eI a1)), (4, (.fn (.func cmp4_f) cmp4_a cmp4_c)), (10, (eI i10)), (11, (eI j11))] ?_
      refine bU 1 ?_
      refine aP ?_
      refine aU aF 7 ?_
      obtain ⟨c44, h1⟩ := bJ h1
      refine sH [0 ≤ (1 : Int)] ⟨c44, trivial⟩ ?_
      refine bS [] [(12, (eI (wR (Int.fdiv (IntKind.u64.wrap (wR (i10 + j11))) (2 ^ (min (Int.toNat (1 : Int)) 64))))))] ?_
      refine aP ?_
      refine kH (jW [49]) aF 11 ?_
      obtain ⟨c45, h1⟩ := bJ h1
      refine dA 4 [0 ≤ (wR (Int.fdiv (IntKind.u64.wrap (wR (i10 + j11))) (2 ^ (min (Int.toNat (1 : Int)) 64)))) ∧ (wR (Int.fdiv (IntKind.u64.wrap (wR (i10 + j11))) (2 ^ (min (Int.toNat (1 : Int)) 64)))) < (lN aA)] ⟨c45, trivial⟩ ?_
      refine kC 0 lo0p 2 (0 + Int.toNat (wR (Int.fdiv (IntKind.u64.wrap (wR (i10 + j11))) (2 ^ (min (Int.toNat (1 : Int)) 64))))) (aE (gD aA (wR (Int.fdiv (IntKind.u64.wrap (wR (i10 + j11))) (2 ^ (min (Int.toNat (1 : Int)) 64)))))) (aE (gD aA (wR (Int.fdiv (IntKind.u64.wrap (wR (i10 + j11))) (2 ^ (min (Int.toNat (1 : Int)) 64)))))) (List.map aE aA) hO (cG c45) ?_
      obtain ⟨c46, h1⟩ := bJ h1
      refine dA 8 [0 ≤ a1 ∧ a1 < (lN aA)] ⟨c46, trivial⟩ ?_
      refine kC 0 lo0p 2 (0 + Int.toNat a1) (aE (gD aA a1)) (aE (gD aA a1)) (List.map aE aA) hO (cG c46) ?_
      obtain ⟨x47, hx48, h1⟩ := bB h1
      refine zC (cmp4_h (gD aA (wR (Int.fdiv (IntKind.u64.wrap (wR (i10 + j11))) (2 ^ (min (Int.toNat (1 : Int)) 64))))) (gD aA a1) _ hx48) hO ?_
      intro H hO
      refine oO ?_
      refine bS [] [(50, (aK (decide (x47 < (0 : Int)))))] ?_
      refine bL h1 (fun h1 => ?_) (fun h1 => ?_)
      · refine aU aF 3 ?_
        refine bE ?_
        exact aI (aZ (aG (⟨rfl, _, (oI h1).symm, bA, hO, hN⟩)))
      refine aU aF 2 ?_
      refine bE ?_
      exact aI (aZ (aG (⟨rfl, _, (oI h1).symm, bA, hO, hN⟩)))
    refine eR 0 ?_
    obtain rfl := oI h1
    obtain rfl : _ = rr0 := ho0
    replace h0 : fZ cmp4 rec aA a1 i10 = some r := h0
    exact aI (aX (aX (bT (aG (⟨rfl, _, _, bA, hO, hN, h0⟩)))))
  refine bP ?_
  exact aI (aG (⟨rfl, _, bA, hO, hN, h0⟩))

theorem oC (cmp4_f : Nat) (cmp4_a cmp4_c : List V) (cmp4 : aD → aD → Option Int) (cmp4_h : ∀ a0 a1 r, cmp4 a0 a1 = some r → cF Try.prog cmp4_f (cmp4_a ++ [(aE a0), (aE a1)] ++ cmp4_c) (eI r)) : ∀ (k : Nat) (lo0p : Nat) (aA : (List aD)) (a1 : Int) (m2 : Int) (b3 : Int) (r : List aD), gR cmp4 k aA a1 m2 b3 = some r → mF Try.prog 96 lo0p 2 (List.map aE aA) (List.map aE r) [(.msl 2 lo0p 0 (List.length aA)), (eI a1), (eI m2), (eI b3), (.fn (.func cmp4_f) cmp4_a cmp4_c)] (.tup [])
  | 0, _, _, _, _, _, _, h => by cases h
  | k + 1, lo0p, aA, a1, m2, b3, r, h => sF cmp4_f cmp4_a cmp4_c cmp4 cmp4_h _ (oC cmp4_f cmp4_a cmp4_c cmp4 cmp4_h k) lo0p aA a1 m2 b3 r h

theorem oU (lo0p : Nat) (aA : (List aD)) (a1 : Int) (m2 : Int) (b3 : Int) (cmp4_f : Nat) (cmp4_a cmp4_c : List V) (cmp4 : aD → aD → Option Int) (cmp4_h : ∀ a0 a1 r, cmp4 a0 a1 = some r → cF Try.prog cmp4_f (cmp4_a ++ [(aE a0), (aE a1)] ++ cmp4_c) (eI r)) (r : List aD) (h0 : eK aA a1 m2 b3 cmp4 = some r) : mF Try.prog 96 lo0p 2 (List.map aE aA) (List.map aE r) [(.msl 2 lo0p 0 (List.length aA)), (eI a1), (eI m2), (eI b3), (.fn (.func cmp4_f) cmp4_a cmp4_c)] (.tup []) := by
  obtain ⟨k, hk⟩ := EO h0
  exact oC cmp4_f cmp4_a cmp4_c cmp4 cmp4_h k lo0p aA a1 m2 b3 r hk

theorem vN (lo0p : Nat) (aA : (List aD)) (n1 : Int) (cmp2_f : Nat) (cmp2_a cmp2_c : List V) (cmp2 : aD → aD → Option Int) (cmp2_h : ∀ a0 a1 r, cmp2 a0 a1 = some r → cF Try.prog cmp2_f (cmp2_a ++ [(aE a0), (aE a1)] ++ cmp2_c) (eI r)) (r : List aD) (h0 : fG aA n1 cmp2 = some r) : mF Try.prog 87 lo0p 2 (List.map aE aA) (List.map aE r) [(.msl 2 lo0p 0 (List.length aA)), (eI n1), (.fn (.func cmp2_f) cmp2_a cmp2_c)] (.tup []) := by
  intro H0 hl0
  refine cJ Try.func87 ?_
  have hO := aL.pI hl0
  clear hl0
  obtain ⟨N0, hN0⟩ : ∃ n, n = List.length aA := ⟨_, rfl⟩
  have hN : List.length aA = N0 := hN0.symm
  unfold fG at h0
  refine aT aF 1 [] [(6, (eI (20 : Int)))] ?_
  refine aT aF 3 [] [(7, (eI (0 : Int))), (8, (eI (20 : Int)))] ?_
  refine dB (fun T H => ∃ aA : List aD, ∃ aM : Int, ∃ a7 : Int, Has T [(0, (.msl 2 lo0p 0 (List.length aA))), (1, (eI n1)), (2, (.fn (.func cmp2_f) cmp2_a cmp2_c)), (6, (eI aM)), (7, (eI a7))] ∧ aL ⟨H0, [lo0p], []⟩ H [(lo0p, 2, List.map aE aA)] ∧ List.length aA = N0 ∧ eZ cmp2 aA n1 aM a7 = some r) ?_ ?_
  · clear hO hN h0
    rintro T H ⟨aA, aM, a7, hT, hO, hN, h0⟩
    refine bD hT ?_
    clear hT
    unfold eZ at h0
    refine aP ?_
    refine aU aF 5 ?_
    refine bN 4 ?_
    obtain ⟨x1, hx2, h0⟩ := bB h0
    refine oQ [(lo0p, 2, List.map aE x1)] 0 (nE lo0p aA a7 n1 cmp2_f cmp2_a cmp2_c cmp2 cmp2_h _ hx2) hO ?_
    intro H hO hl3
    simp only [List.length_map] at hl3
    replace hN := hl3.trans hN
    refine cL ?_
    refine cT (l := [(0, (.msl 2 lo0p 0 (List.length x1))), (1, (eI n1)), (2, (.fn (.func cmp2_f) cmp2_a cmp2_c)), (6, (eI aM))]) ⟨[(0, (.msl 2 lo0p 0 (List.length aA))), (1, (eI n1)), (2, (.fn (.func cmp2_f) cmp2_a cmp2_c)), (6, (eI aM))], by kernel_rfl, rfl, ⟨aS.eq (by simp [hl3]), aS.refl _, aS.refl _, aS.refl _, trivial⟩⟩ ?_
    refine aI (aG (?_))
    refine bU 2 ?_
    refine dJ [(0, (.msl 2 lo0p 0 (List.length x1))), (1, (eI n1)), (2, (.fn (.func cmp2_f) cmp2_a cmp2_c)), (6, (eI aM))] ?_
    refine cR (fun T H => ∃ aA : List aD, ∃ aM : Int, Has T [(0, (.msl 2 lo0p 0 (List.length aA))), (1, (eI n1)), (2, (.fn (.func cmp2_f) cmp2_a cmp2_c)), (6, (eI aM))] ∧ aL ⟨H0, [lo0p], []⟩ H [(lo0p, 2, List.map aE aA)] ∧ List.length aA = N0 ∧ iC cmp2 aA n1 aM = some r) ?_ ⟨x1, aM, bA, hO, hN, h0⟩
    clear hO hN h0
    rintro T H ⟨aA, aM, hT, hO, hN, h0⟩
    refine bD hT ?_
    clear hT
    unfold iC at h0
    obtain ⟨rr0, hl0, h0⟩ := bB h0
    refine eS (fun (s : List aD × Int) T H => Has T [(0, (.msl 2 lo0p 0 (List.length s.1))), (1, (eI n1)), (2, (.fn (.func cmp2_f) cmp2_a cmp2_c)), (6, (eI s.2))] ∧ aL ⟨H0, [lo0p], []⟩ H [(lo0p, 2, List.map aE s.1)] ∧ List.length s.1 = N0) hl0 ⟨bA, hO, hN⟩ ?_
    clear hO hN
    rintro k0 s out1 T H ⟨hT, hO, hN⟩ h1 ho0
    obtain ⟨aA, aM⟩ := s
    replace h1 : iB cmp2 n1 aA aM = some out1 := h1
    try dsimp only at hT
    refine bD hT ?_
    clear hT
    unfold iB at h1
    refine aP ?_
    refine aT aF 3 [] [(30, (aK (decide (aM < n1))))] ?_
    refine bL h1 (fun h1 => ?_) (fun h1 => ?_)
    · refine bP ?_
      refine bK [(0, (.msl 2 lo0p 0 (List.length aA))), (1, (eI n1)), (2, (.fn (.func cmp2_f) cmp2_a cmp2_c)), (6, (eI aM))] ?_
      refine bU 3 ?_
      refine aT aF 4 [] [(7, (eI (0 : Int))), (8, (eI (wR ((2 : Int) * aM))))] ?_
      refine dB (fun T H => ∃ aA : List aD, ∃ a7 : Int, Has T [(0, (.msl 2 lo0p 0 (List.length aA))), (1, (eI n1)), (2, (.fn (.func cmp2_f) cmp2_a cmp2_c)), (6, (eI aM)), (7, (eI a7))] ∧ aL ⟨H0, [lo0p], []⟩ H [(lo0p, 2, List.map aE aA)] ∧ List.length aA = N0 ∧ fA cmp2 aA n1 aM a7 = some out1) ?_ ?_
      · clear hO hN h1
        rintro T H ⟨aA, a7, hT, hO, hN, h1⟩
        refine bD hT ?_
        clear hT
        unfold fA at h1
        refine dB (fun T H => ∃ aA : List aD, Has T [(0, (.msl 2 lo0p 0 (List.length aA))), (1, (eI n1)), (2, (.fn (.func cmp2_f) cmp2_a cmp2_c)), (6, (eI aM))] ∧ aL ⟨H0, [lo0p], []⟩ H [(lo0p, 2, List.map aE aA)] ∧ List.length aA = N0 ∧ iD cmp2 aA n1 aM = some out1) ?_ ?_
        · clear hO hN h1
          rintro T H ⟨aA, hT, hO, hN, h1⟩
          refine bD hT ?_
          clear hT
          unfold iD at h1
          refine aU aF 3 ?_
          refine bE ?_
          exact aI (aZ (aG (⟨rfl, _, (oI h1).symm, bA, hO, hN⟩)))
        refine aT aF 4 [] [(9, (eI (wR (a7 + aM))))] ?_
        refine aT aF 3 [] [(54, (aK (decide ((wR (a7 + aM)) < n1))))] ?_
        refine bL h1 (fun h1 => ?_) (fun h1 => ?_)
        · refine aU aF 6 ?_
          refine bN 5 ?_
          obtain ⟨x6, hx7, h1⟩ := bB h1
          refine oQ [(lo0p, 2, List.map aE x6)] 0 (oU lo0p aA a7 (wR (a7 + aM)) n1 cmp2_f cmp2_a cmp2_c cmp2 cmp2_h _ hx7) hO ?_
          intro H hO hl8
          simp only [List.length_map] at hl8
          replace hN := hl8.trans hN
          refine cL ?_
          refine cT (l := [(0, (.msl 2 lo0p 0 (List.length x6))), (1, (eI n1)), (2, (.fn (.func cmp2_f) cmp2_a cmp2_c)), (6, (eI aM))]) ⟨[(0, (.msl 2 lo0p 0 (List.length aA))), (1, (eI n1)), (2, (.fn (.func cmp2_f) cmp2_a cmp2_c)), (6, (eI aM))], by kernel_rfl, rfl, ⟨aS.eq (by simp [hl8]), aS.refl _, aS.refl _, aS.refl _, trivial⟩⟩ ?_
          exact aI (aG (⟨rfl, _, bA, hO, hN, h1⟩))
        refine bP ?_
        exact aI (aG (⟨rfl, _, bA, hO, hN, h1⟩))
      refine bU 4 ?_
      refine dJ [(0, (.msl 2 lo0p 0 (List.length aA))), (1, (eI n1)), (2, (.fn (.func cmp2_f) cmp2_a cmp2_c)), (6, (eI aM)), (7, (eI (0 : Int))), (8, (eI (wR ((2 : Int) * aM))))] ?_
      refine cR (fun T H => ∃ aA : List aD, ∃ a7 : Int, ∃ b8 : Int, Has T [(0, (.msl 2 lo0p 0 (List.length aA))), (1, (eI n1)), (2, (.fn (.func cmp2_f) cmp2_a cmp2_c)), (6, (eI aM)), (7, (eI a7)), (8, (eI b8))] ∧ aL ⟨H0, [lo0p], []⟩ H [(lo0p, 2, List.map aE aA)] ∧ List.length aA = N0 ∧ iO cmp2 aA n1 aM a7 b8 = some out1) ?_ ⟨aA, (0 : Int), wR ((2 : Int) * aM), bA, hO, hN, h1⟩
      clear hO hN h1
      rintro T H ⟨aA, a7, b8, hT, hO, hN, h1⟩
      refine bD hT ?_
      clear hT
      unfold iO at h1
      obtain ⟨rr1, hl1, h1⟩ := bB h1
      refine eS (fun (s : List aD × Int × Int) T H => Has T [(0, (.msl 2 lo0p 0 (List.length s.1))), (1, (eI n1)), (2, (.fn (.func cmp2_f) cmp2_a cmp2_c)), (6, (eI aM)), (7, (eI s.2.1)), (8, (eI s.2.2))] ∧ aL ⟨H0, [lo0p], []⟩ H [(lo0p, 2, List.map aE s.1)] ∧ List.length s.1 = N0) hl1 ⟨bA, hO, hN⟩ ?_
      clear hO hN
      rintro k1 s out2 T H ⟨hT, hO, hN⟩ h2 ho1
      obtain ⟨aA, a7, b8⟩ := s
      replace h2 : iL cmp2 n1 aM aA a7 b8 = some out2 := h2
      try dsimp only at hT
      refine bD hT ?_
      clear hT
      unfold iL at h2
      refine aP ?_
      refine aT aF 3 [] [(35, (aK (decide (b8 ≤ n1))))] ?_
      refine bL h2 (fun h2 => ?_) (fun h2 => ?_)
      · refine bP ?_
        refine bK [(0, (.msl 2 lo0p 0 (List.length aA))), (1, (eI n1)), (2, (.fn (.func cmp2_f) cmp2_a cmp2_c)), (6, (eI aM)), (7, (eI a7)), (8, (eI b8))] ?_
        refine bU 5 ?_
        refine aP ?_
        refine aU aF 8 ?_
        refine bN 7 ?_
        obtain ⟨x10, hx11, h2⟩ := bB h2
        refine oQ [(lo0p, 2, List.map aE x10)] 0 (oU lo0p aA a7 (wR (a7 + aM)) b8 cmp2_f cmp2_a cmp2_c cmp2 cmp2_h _ hx11) hO ?_
        intro H hO hl12
        simp only [List.length_map] at hl12
        replace hN := hl12.trans hN
        refine cL ?_
        refine cT (l := [(0, (.msl 2 lo0p 0 (List.length x10))), (1, (eI n1)), (2, (.fn (.func cmp2_f) cmp2_a cmp2_c)), (6, (eI aM)), (8, (eI b8))]) ⟨[(0, (.msl 2 lo0p 0 (List.length aA))), (1, (eI n1)), (2, (.fn (.func cmp2_f) cmp2_a cmp2_c)), (6, (eI aM)), (8, (eI b8))], by kernel_rfl, rfl, ⟨aS.eq (by simp [hl12]), aS.refl _, aS.refl _, aS.refl _, aS.refl _, trivial⟩⟩ ?_
        refine aI (aG (?_))
        refine aT aF 2 [] [(7, (eI b8))] ?_
        refine aU aF 5 ?_
        refine bE ?_
        exact aI (aZ (aG (⟨rfl, _, (oI h2).symm, bA, hO, hN⟩)))
      refine eR 4 ?_
      obtain rfl := oI h2
      obtain rfl : _ = rr1 := ho1
      replace h1 : fA cmp2 aA n1 aM a7 = some out1 := h1
      exact aI (aX (aX (bT (aG (⟨rfl, _, _, bA, hO, hN, h1⟩)))))
    refine eR 2 ?_
    obtain rfl := oI h1
    obtain rfl : _ = rr0 := ho0
    replace h0 : some aA = some r := h0
    obtain rfl := oI h0
    exact aI (aX (aX (bT (qK (x := (.tup [])) (by kernel_rfl) (aS.refl _) ⟨rfl, hO.ext, hO.at 0 (by kernel_rfl), by first | rfl | (simp only [List.length_map]; exact hN.trans hN0)⟩))))
  refine bU 0 ?_
  refine dJ [(0, (.msl 2 lo0p 0 (List.length aA))), (1, (eI n1)), (2, (.fn (.func cmp2_f) cmp2_a cmp2_c)), (6, (eI (20 : Int))), (7, (eI (0 : Int))), (8, (eI (20 : Int)))] ?_
  refine cR (fun T H => ∃ aA : List aD, ∃ aM : Int, ∃ a7 : Int, ∃ b8 : Int, Has T [(0, (.msl 2 lo0p 0 (List.length aA))), (1, (eI n1)), (2, (.fn (.func cmp2_f) cmp2_a cmp2_c)), (6, (eI aM)), (7, (eI a7)), (8, (eI b8))] ∧ aL ⟨H0, [lo0p], []⟩ H [(lo0p, 2, List.map aE aA)] ∧ List.length aA = N0 ∧ iP cmp2 aA n1 aM a7 b8 = some r) ?_ ⟨aA, (20 : Int), (0 : Int), (20 : Int), bA, hO, hN, h0⟩
  clear hO hN h0
  rintro T H ⟨aA, aM, a7, b8, hT, hO, hN, h0⟩
  refine bD hT ?_
  clear hT
  unfold iP at h0
  obtain ⟨rr0, hl0, h0⟩ := bB h0
  refine eS (fun (s : List aD × Int × Int) T H => Has T [(0, (.msl 2 lo0p 0 (List.length s.1))), (1, (eI n1)), (2, (.fn (.func cmp2_f) cmp2_a cmp2_c)), (6, (eI aM)), (7, (eI s.2.1)), (8, (eI s.2.2))] ∧ aL ⟨H0, [lo0p], []⟩ H [(lo0p, 2, List.map aE s.1)] ∧ List.length s.1 = N0) hl0 ⟨bA, hO, hN⟩ ?_
  clear hO hN
  rintro k0 s out1 T H ⟨hT, hO, hN⟩ h1 ho0
  obtain ⟨aA, a7, b8⟩ := s
  replace h1 : iQ cmp2 n1 aM aA a7 b8 = some out1 := h1
  try dsimp only at hT
  refine bD hT ?_
  clear hT
  unfold iQ at h1
  refine aP ?_
  refine aT aF 3 [] [(13, (aK (decide (b8 ≤ n1))))] ?_
  refine bL h1 (fun h1 => ?_) (fun h1 => ?_)
  · refine bP ?_
    refine bK [(0, (.msl 2 lo0p 0 (List.length aA))), (1, (eI n1)), (2, (.fn (.func cmp2_f) cmp2_a cmp2_c)), (6, (eI aM)), (7, (eI a7)), (8, (eI b8))] ?_
    refine bU 1 ?_
    refine aP ?_
    refine aU aF 5 ?_
    refine bN 4 ?_
    obtain ⟨x14, hx15, h1⟩ := bB h1
    refine oQ [(lo0p, 2, List.map aE x14)] 0 (nE lo0p aA a7 b8 cmp2_f cmp2_a cmp2_c cmp2 cmp2_h _ hx15) hO ?_
    intro H hO hl16
    simp only [List.length_map] at hl16
    replace hN := hl16.trans hN
    refine cL ?_
    refine cT (l := [(0, (.msl 2 lo0p 0 (List.length x14))), (1, (eI n1)), (2, (.fn (.func cmp2_f) cmp2_a cmp2_c)), (6, (eI aM)), (8, (eI b8))]) ⟨[(0, (.msl 2 lo0p 0 (List.length aA))), (1, (eI n1)), (2, (.fn (.func cmp2_f) cmp2_a cmp2_c)), (6, (eI aM)), (8, (eI b8))], by kernel_rfl, rfl, ⟨aS.eq (by simp [hl16]), aS.refl _, aS.refl _, aS.refl _, aS.refl _, trivial⟩⟩ ?_
    refine aI (aG (?_))
    refine aT aF 2 [] [(7, (eI b8))] ?_
    refine aU aF 4 ?_
    refine bE ?_
    exact aI (aZ (aG (⟨rfl, _, (oI h1).symm, bA, hO, hN⟩)))
  refine eR 0 ?_
  obtain rfl := oI h1
  obtain rfl : _ = rr0 := ho0
  replace h0 : eZ cmp2 aA n1 aM a7 = some r := h0
  exact aI (aX (aX (bT (aG (⟨rfl, _, _, _, bA, hO, hN, h0⟩)))))

theorem qW (lo0p : Nat) (x0 : (List aD)) (cmp1_f : Nat) (cmp1_a cmp1_c : List V) (cmp1 : aD → aD → Option Int) (cmp1_h : ∀ a0 a1 r, cmp1 a0 a1 = some r → cF Try.prog cmp1_f (cmp1_a ++ [(aE a0), (aE a1)] ++ cmp1_c) (eI r)) (r : List aD) (h0 : cX x0 cmp1 = some r) : mF Try.prog 70 lo0p 2 (List.map aE x0) (List.map aE r) [(.msl 2 lo0p 0 (List.length x0)), (.fn (.func cmp1_f) cmp1_a cmp1_c)] (.tup []) := by
  intro H0 hl0
  refine cJ Try.func70 ?_
  have hO := aL.pI hl0
  clear hl0
  obtain ⟨N0, hN0⟩ : ∃ n, n = List.length x0 := ⟨_, rfl⟩
  have hN : List.length x0 = N0 := hN0.symm
  unfold cX at h0
  refine aU aF 5 ?_
  refine bN 4 ?_
  obtain ⟨x1, hx2, h0⟩ := bB h0
  refine oQ [(lo0p, 2, List.map aE x1)] 0 (vN lo0p x0 (lN x0) cmp1_f cmp1_a cmp1_c cmp1 cmp1_h _ hx2) hO ?_
  intro H hO hl3
  simp only [List.length_map] at hl3
  replace hN := hl3.trans hN
  refine cL ?_
  refine cT (l := [(0, (.msl 2 lo0p 0 (List.length x1)))]) ⟨[(0, (.msl 2 lo0p 0 (List.length x0)))], by kernel_rfl, rfl, ⟨aS.eq (by simp [hl3]), trivial⟩⟩ ?_
  obtain rfl := oI h0
  exact aI (qK (x := (.tup [])) (by kernel_rfl) (aS.refl _) ⟨rfl, hO.ext, hO.at 0 (by kernel_rfl), by simp only [List.length_map]; exact hN.trans hN0⟩)

theorem KX (a0 : aD) (b1 : aD) (r : Int) (h0 : mX a0 b1 = some r) : cF Try.prog 71 [(aE a0), (aE b1)] (eI r) := by
  intro H0
  refine cJ Try.func71 ?_
  have hO := aL.start H0
  unfold mX at h0
  refine aP ?_
  refine aU aF 3 ?_
  refine qR 2 (aE a0) ?_
  refine qR 2 (aE b1) ?_
  refine bE ?_
  refine bK [(2, (.rp (aE a0))), (3, (.rp (aE b1)))] ?_
  refine aP ?_
  refine aU aF 6 ?_
  refine bN 4 ?_
  obtain ⟨x1, hx2, h0⟩ := bB h0
  refine eJ (tY a0.At b1.At _ hx2) hO ?_
  intro H hO
  refine bE ?_
  refine bK [(4, (eI x1))] ?_
  refine bM ?_
  obtain rfl := oI h0
  exact aI (Q_r hO)

theorem PN (f0 : (List aD)) (r : ((List aD) × Int)) (h0 : rV f0 = some r) : cF Try.prog 72 [(eL aE f0)] (.tup [(eL aE r.1), (eI r.2)]) := by
  intro H0
  refine cJ Try.func72 ?_
  have hO := aL.start H0
  unfold rV at h0
  refine aT aF 2 [] [] ?_
  refine aP ?_
  refine aP ?_
  refine aU aF 3 ?_
  refine bN 1 ?_
  obtain ⟨x1, hx2, h0⟩ := bB h0
  refine eJ (HH f0 _ hx2) hO ?_
  intro H hO
  refine bE ?_
  refine bS [] [(6, (aK (!x1)))] ?_
  refine bL h0 (fun h0 => ?_) (fun h0 => ?_)
  · refine bX aF 2 [(2, (.sl true 0 (fun _ => .bad))), (3, (eI (7 : Int)))] ?_
    refine bM ?_
    refine cT (l := [(2, (eL aE ([]))), (3, (eI (7 : Int)))]) ⟨[(2, (.sl true 0 (fun _ => .bad))), (3, (eI (7 : Int)))], by kernel_rfl, rfl, ⟨pE, aS.refl _, trivial⟩⟩ ?_
    obtain rfl := oI h0
    exact aI (aW (Q_r hO))
  refine bP ?_
  refine bK [(0, (eL aE f0))] ?_
  refine bX aF 3 [(2, (eL aE f0)), (3, (eI (0 : Int)))] ?_
  refine bM ?_
  obtain rfl := oI h0
  exact aI (Q_r hO)

theorem PT (l0 : (List aD)) (r : ((List aD) × Int)) (h0 : uE l0 = some r) : cF Try.prog 42 [(eL aE l0)] (.tup [(eL aE r.1), (eI r.2)]) := by
  intro H0
  refine cJ Try.func42 ?_
  have hO := aL.start H0
  unfold uE at h0
  refine aT aF 2 [] [] ?_
  refine aP ?_
  refine aP ?_
  refine aU aF 2 ?_
  refine bN 1 ?_
  obtain ⟨x1, hx2, h0⟩ := bB h0
  refine eJ (mY l0 66 [] [] (fun y0 => rM y0) (fun y0 r h => KZ y0 r h) _ hx2) hO ?_
  intro H hO
  refine cL ?_
  refine bS [] [(9, (aK x1))] ?_
  refine bL h0 (fun h0 => ?_) (fun h0 => ?_)
  · refine bX aF 2 [(2, (.sl true 0 (fun _ => .bad))), (3, (eI (2 : Int)))] ?_
    refine bM ?_
    refine cT (l := [(2, (eL aE ([]))), (3, (eI (2 : Int)))]) ⟨[(2, (.sl true 0 (fun _ => .bad))), (3, (eI (2 : Int)))], by kernel_rfl, rfl, ⟨pE, aS.refl _, trivial⟩⟩ ?_
    obtain rfl := oI h0
    exact aI (aW (Q_r hO))
  refine bP ?_
  refine bK [(0, (eL aE l0))] ?_
  refine aP ?_
  refine aP ?_
  refine aU aF 2 ?_
  refine bN 1 ?_
  obtain ⟨x5, hx6, h0⟩ := bB h0
  refine eJ (mY l0 68 [] [] (fun y0 => rP y0) (fun y0 r h => KV y0 r h) _ hx6) hO ?_
  intro H hO
  refine cL ?_
  refine bS [] [(11, (aK x5))] ?_
  refine bL h0 (fun h0 => ?_) (fun h0 => ?_)
  · refine bX aF 2 [(2, (.sl true 0 (fun _ => .bad))), (3, (eI (13 : Int)))] ?_
    refine bM ?_
    refine cT (l := [(2, (eL aE ([]))), (3, (eI (13 : Int)))]) ⟨[(2, (.sl true 0 (fun _ => .bad))), (3, (eI (13 : Int)))], by kernel_rfl, rfl, ⟨pE, aS.refl _, trivial⟩⟩ ?_
    obtain rfl := oI h0
    exact aI (aW (Q_r hO))
  refine bP ?_
  refine bK [(0, (eL aE l0))] ?_
  refine aP ?_
  refine aU aF 3 ?_
  refine bN 1 ?_
  obtain ⟨x9, hx10, h0⟩ := bB h0
  refine JD (L' := fun lo11 => [(lo11, 2, List.map aE x9)]) 2 (List.map aE x9) 69 [(eL aE l0)] (fun lo11 => (.msl 2 lo11 0 (List.length x9))) (by kernel_rfl) (by kernel_rfl) (uW l0 _ hx10) hO (fun _ => by kernel_rfl) ?_
  intro lo11 H hO
  refine bE ?_
  refine bK [(4, (.msl 2 lo11 0 (List.length x9)))] ?_
  refine aP ?_
  refine aU aF 2 ?_
  refine bN 1 ?_
  obtain ⟨x12, hx13, h0⟩ := bB h0
  refine oQ [(lo11, 2, List.map aE x12)] 0 (qW lo11 x9 71 [] [] (fun y0 y1 => mX y0 y1) (fun y0 y1 r h => KX y0 y1 r h) _ hx13) hO ?_
  intro H hO hl14
  simp only [List.length_map] at hl14
  refine cL ?_
  refine cT (l := [(4, (.msl 2 lo11 0 (List.length x12)))]) ⟨[(4, (.msl 2 lo11 0 (List.length x9)))], by kernel_rfl, rfl, ⟨aS.eq (by simp [hl14]), trivial⟩⟩ ?_
  refine aI (aG (?_))
  refine aP ?_
  refine aU aF 2 ?_
  refine sL [] 2 ?_
  refine bE ?_
  refine bS [] [(5, (.sl true 0 (fun _ => .bad)))] ?_
  refine dB (fun T H => ∃ out5 : List aD, ∃ lo15 : Nat, Has T [(5, (.msl 2 lo15 0 (List.length out5)))] ∧ aL ⟨H0, [], []⟩ H [(lo15, 2, List.map aE out5)] ∧ tB out5 = some r) ?_ ?_
  · clear hO h0
    rintro T H ⟨out5, lo15, hT, hO, h0⟩
    refine bD hT ?_
    clear hT
    unfold tB at h0
    refine aP ?_
    refine aU aF 6 ?_
    refine xN (e := aE) out5 0 5 2 lo15 (List.length out5) [] (by kernel_rfl) hO (by kernel_rfl) (by kernel_rfl) (by kernel_rfl) (by kernel_rfl) ?_
    intro H hO
    refine bN 1 ?_
    obtain ⟨x16, hx17, h0⟩ := bB h0
    refine eJ (PN out5 _ hx17) hO ?_
    intro H hO
    refine bE ?_
    refine bK [(2, (eL aE x16.1)), (3, (eI x16.2))] ?_
    refine bM ?_
    obtain rfl := oI h0
    exact aI (Q_r hO)
  refine aT aF 1 [] [(6, (eI (0 : Int)))] ?_
  refine bU 0 ?_
  refine dJ [(4, (.msl 2 lo11 0 (List.length x12))), (5, (.sl true 0 (fun _ => .bad))), (6, (eI (0 : Int)))] ?_
  refine EW (el := (fun _ => .bad)) 1 5 2 hO (by kernel_rfl) ?_
  intro lo40 H41 hO
  refine cR (fun T H => ∃ all4 : List aD, ∃ out5 : List aD, ∃ i6 : Int, ∃ lo21 : Nat, ∃ lo22 : Nat, Has T [(4, (.msl 2 lo21 0 (List.length all4))), (5, (.msl 2 lo22 0 (List.length out5))), (6, (eI i6))] ∧ aL ⟨H0, [], []⟩ H [(lo21, 2, List.map aE all4), (lo22, 2, List.map aE out5)] ∧ wC all4 out5 i6 = some r) ?_ ⟨x12, ([] : List aD), (0 : Int), lo11, lo40, bA, hO, h0⟩
  clear hO h0
  rintro T H ⟨all4, out5, i6, lo21, lo22, hT, hO, h0⟩
  refine bD hT ?_
  clear hT
  unfold wC at h0
  obtain ⟨rr0, hl0, h0⟩ := bB h0
  refine eS (fun (s : List aD × List aD × Int) T H => ∃ lo21 : Nat, ∃ lo22 : Nat, Has T [(4, (.msl 2 lo21 0 (List.length s.1))), (5, (.msl 2 lo22 0 (List.length s.2.1))), (6, (eI s.2.2))] ∧ aL ⟨H0, [], []⟩ H [(lo21, 2, List.map aE s.1), (lo22, 2, List.map aE s.2.1)]) hl0 ⟨lo21, lo22, bA, hO⟩ ?_
  clear hO
  rintro k0 s out1 T H ⟨lo21, lo22, hT, hO⟩ h1 ho0
  obtain ⟨all4, out5, i6⟩ := s
  replace h1 : lS all4 out5 i6 = some out1 := h1
  try dsimp only at hT
  refine bD hT ?_
  clear hT
  unfold lS at h1
  refine aP ?_
  refine aT aF 4 [] [(20, (aK (decide (i6 < (lN all4)))))] ?_
  refine bL h1 (fun h1 => ?_) (fun h1 => ?_)
  · refine bP ?_
    refine bK [(4, (.msl 2 lo21 0 (List.length all4))), (5, (.msl 2 lo22 0 (List.length out5))), (6, (eI i6))] ?_
    refine bU 1 ?_
    refine aP ?_
    refine aU aF 8 ?_
    obtain ⟨c24, h1⟩ := bJ h1
    refine rB 4 [0 ≤ i6 ∧ i6 < (lN all4)] ⟨c24, trivial⟩ ?_
    refine nY 0 lo21 2 (0 + Int.toNat i6) (aE (gD all4 i6)) (eI ((gD all4 i6).At)) (List.map aE all4) hO (cG c24) ?_
    refine bN 6 ?_
    refine mP 2 (aE (aD.mk 0 0)) (by kernel_rfl) (by kernel_rfl) hO ?_
    intro lo25 H hO
    refine mZ 2 lo25 2 0 (aE (aD.mk 0 0)) (aE (aD.mk ((gD all4 i6).At) 0)) [(aE (aD.mk 0 0))] [(lo21, 2, List.map aE all4), (lo22, 2, List.map aE out5), (lo25, 2, [(aE (aD.mk ((gD all4 i6).At) 0))])] hO rfl (by kernel_rfl) ?_
    intro H hO
    refine cL ?_
    refine bS [] [(7, (.lp lo25 0 0))] ?_
    refine dB (fun T H => ∃ all4 : List aD, ∃ out5 : List aD, ∃ i6 : Int, ∃ j7 : aD, ∃ lo26 : Nat, ∃ lo27 : Nat, Has T [(4, (.msl 2 lo26 0 (List.length all4))), (5, (.msl 2 lo27 0 (List.length out5))), (6, (eI i6)), (7, (.lp lo25 0 0))] ∧ aL ⟨H0, [], []⟩ H [(lo26, 2, List.map aE all4), (lo27, 2, List.map aE out5), (lo25, 2, [(aE j7)])] ∧ tH all4 out5 i6 j7 = some out1) ?_ ?_
    · clear hO h1
      rintro T H ⟨all4, out5, i6, j7, lo26, lo27, hT, hO, h1⟩
      refine bD hT ?_
      clear hT
      unfold tH at h1
      refine aP ?_
      refine aU aF 8 ?_
      refine bN 1 ?_
      refine nY 2 lo25 2 0 (aE j7) (eI j7.Net) [(aE j7)] hO rfl ?_
      refine bN 5 ?_
      refine vI [(55, true)] 2 lo25 2 0 (aE j7) (eI j7.At) [(aE j7)] (by kernel_rfl) (by kernel_rfl) hO (by kernel_rfl) (!decide (j7.Net = (0 : Int))) (by kernel_rfl) (fun hb28 => rfl) ?_
      refine bE ?_
      refine bS [] [(59, (aK ((!decide (j7.Net = (0 : Int))) && (decide (j7.At < (1125899906842624 : Int))))))] ?_
      refine bL h1 (fun h1 => ?_) (fun h1 => ?_)
      · refine aU aF 5 ?_
        refine bN 1 ?_
        refine nY 2 lo25 2 0 (aE j7) (aE j7) [(aE j7)] hO rfl ?_
        refine sL [(aE j7)] 2 ?_
        obtain ⟨c31, h1⟩ := bJ h1
        refine DS aE out5 ([j7]) 1 lo27 2 16 (lI [(aE j7)]) (fun lo30 => [(lo26, 2, List.map aE all4), (lo30, 2, List.map aE (out5 ++ ([j7]))), (lo25, 2, [(aE j7)])]) hO (by kernel_rfl) c31 ?_
        intro lo30 H hO
        refine bE ?_
        replace hO := hO.pick (L' := [(lo26, 2, List.map aE all4), (lo30, 2, List.map aE (out5 ++ ([j7])))]) [0, 1] (by decide) (by kernel_rfl)
        exact aI (aZ (aG (⟨rfl, _, (oI h1).symm, _, _, bA, hO⟩)))
      refine bP ?_
      replace hO := hO.pick (L' := [(lo26, 2, List.map aE all4), (lo27, 2, List.map aE out5)]) [0, 1] (by decide) (by kernel_rfl)
      exact aI (aZ (aG (⟨rfl, _, (oI h1).symm, _, _, bA, hO⟩)))
    refine bU 2 ?_
    refine dJ [(4, (.msl 2 lo21 0 (List.length all4))), (5, (.msl 2 lo22 0 (List.length out5))), (6, (eI i6)), (7, (.lp lo25 0 0))] ?_
    refine cR (fun T H => ∃ all4 : List aD, ∃ out5 : List aD, ∃ i6 : Int, ∃ j7 : aD, ∃ lo34 : Nat, ∃ lo35 : Nat, Has T [(4, (.msl 2 lo34 0 (List.length all4))), (5, (.msl 2 lo35 0 (List.length out5))), (6, (eI i6)), (7, (.lp lo25 0 0))] ∧ aL ⟨H0, [], []⟩ H [(lo34, 2, List.map aE all4), (lo35, 2, List.map aE out5), (lo25, 2, [(aE j7)])] ∧ wA all4 out5 i6 j7 = some out1) ?_ ⟨all4, out5, i6, aD.mk ((gD all4 i6).At) 0, lo21, lo22, bA, hO, h1⟩
    clear hO h1
    rintro T H ⟨all4, out5, i6, j7, lo34, lo35, hT, hO, h1⟩
    refine bD hT ?_
    clear hT
    unfold wA at h1
    obtain ⟨rr1, hl1, h1⟩ := bB h1
    refine eS (fun (s : List aD × List aD × Int × aD) T H => ∃ lo34 : Nat, ∃ lo35 : Nat, Has T [(4, (.msl 2 lo34 0 (List.length s.1))), (5, (.msl 2 lo35 0 (List.length s.2.1))), (6, (eI s.2.2.1)), (7, (.lp lo25 0 0))] ∧ aL ⟨H0, [], []⟩ H [(lo34, 2, List.map aE s.1), (lo35, 2, List.map aE s.2.1), (lo25, 2, [(aE s.2.2.2)])]) hl1 ⟨lo34, lo35, bA, hO⟩ ?_
    clear hO
    rintro k1 s out2 T H ⟨lo34, lo35, hT, hO⟩ h2 ho1
    obtain ⟨all4, out5, i6, j7⟩ := s
    replace h2 : jU all4 out5 i6 j7 = some out2 := h2
    try dsimp only at hT
    refine bD hT ?_
    clear hT
    unfold jU at h2
    refine aP ?_
    refine aP ?_
    obtain ⟨c36, h2⟩ := bJ h2
    refine kH (jW []) aF 14 ?_
    refine BI (K := fun T H => Has (lift T) [(4, (.msl 2 lo34 0 (List.length all4))), (5, (.msl 2 lo35 0 (List.length out5))), (6, (eI i6)), (7, (.lp lo25 0 0)), (40, (aK ((decide (i6 < (lN all4))) && (decide (((gD all4 i6).At) = j7.At)))))] ∧ aL ⟨H0, [], []⟩ H [(lo34, 2, List.map aE all4), (lo35, 2, List.map aE out5), (lo25, 2, [(aE j7)])]) ?_ ?_
    · refine vA 5 ?_
      refine yN (t := 31) (e := decide (i6 < (lN all4))) (by kernel_rfl) (fun hg37 => ?_) (fun hg37 => ?_)
      · refine dA 9 [0 ≤ i6 ∧ i6 < (lN all4)] ⟨(c36 hg37), trivial⟩ ?_
        refine JC 0 lo34 2 (0 + Int.toNat i6) (aE (gD all4 i6)) (eI ((gD all4 i6).At)) (List.map aE all4) hO (cG (c36 hg37)) ?_
        refine vA 11 ?_
        refine JC 2 lo25 2 0 (aE j7) (eI j7.At) [(aE j7)] hO rfl ?_
        refine oO ?_
        exact ⟨⟨[(4, (.msl 2 lo34 0 (List.length all4))), (5, (.msl 2 lo35 0 (List.length out5))), (6, (eI i6)), (7, (.lp lo25 0 0)), (40, (aK (decide (((gD all4 i6).At) = j7.At))))], by kernel_rfl, rfl, ⟨aS.refl _, aS.refl _, aS.refl _, aS.refl _, aS.eq (congrArg aK (FD hg37 rfl).symm), trivial⟩⟩, hO⟩
      refine oO ?_
      exact ⟨⟨[(4, (.msl 2 lo34 0 (List.length all4))), (5, (.msl 2 lo35 0 (List.length out5))), (6, (eI i6)), (7, (.lp lo25 0 0)), (40, (aK false))], by kernel_rfl, rfl, ⟨aS.refl _, aS.refl _, aS.refl _, aS.refl _, aS.eq (congrArg aK (FD hg37 rfl).symm), trivial⟩⟩, hO⟩
    · rintro T H ⟨hT, hO⟩
      refine cT hT ?_
      clear hT
      refine aI (aG ?_)
      refine bL h2 (fun h2 => ?_) (fun h2 => ?_)
      · refine bP ?_
        refine bK [(4, (.msl 2 lo34 0 (List.length all4))), (5, (.msl 2 lo35 0 (List.length out5))), (6, (eI i6)), (7, (.lp lo25 0 0))] ?_
        refine aP ?_
        refine bU 3 ?_
        refine kH (jW []) aF 10 ?_
        refine vA 1 ?_
        refine kC 2 lo25 2 0 (aE j7) (eI j7.Net) [(aE j7)] hO rfl ?_
        obtain ⟨c39, h2⟩ := bJ h2
        refine dA 6 [0 ≤ i6 ∧ i6 < (lN all4)] ⟨c39, trivial⟩ ?_
        refine kC 0 lo34 2 (0 + Int.toNat i6) (aE (gD all4 i6)) (eI ((gD all4 i6).Net)) (List.map aE all4) hO (cG c39) ?_
        refine vA 9 ?_
        refine sE 2 lo25 2 0 (aE j7) (aE (aD.mk j7.At (wR (j7.Net + ((gD all4 i6).Net))))) [(aE j7)] [(lo34, 2, List.map aE all4), (lo35, 2, List.map aE out5), (lo25, 2, [(aE (aD.mk j7.At (wR (j7.Net + ((gD all4 i6).Net)))))])] hO rfl (by kernel_rfl) ?_
        intro H hO
        refine xA (by kernel_rfl) ?_
        refine dL [(4, (.msl 2 lo34 0 (List.length all4))), (5, (.msl 2 lo35 0 (List.length out5))), (6, (eI i6)), (7, (.lp lo25 0 0))] ?_
        refine aI (aZ (aG (?_)))
        refine aU aF 3 ?_
        refine bE ?_
        exact aI (aG (⟨rfl, _, (oI h2).symm, _, _, bA, hO⟩))
      refine eR 2 ?_
      obtain rfl := oI h2
      obtain rfl : _ = rr1 := ho1
      replace h1 : tH all4 out5 i6 j7 = some out1 := h1
      exact aI (aX (aX (bT (aG (⟨rfl, _, _, _, _, _, _, bA, hO, h1⟩)))))
  refine eR 0 ?_
  replace hO := hO.pick (L' := [(lo22, 2, List.map aE out5)]) [1] (by decide) (by kernel_rfl)
  obtain rfl := oI h1
  obtain rfl : _ = rr0 := ho0
  replace h0 : tB out5 = some r := h0
  exact aI (aX (aX (bT (aG (⟨rfl, _, _, bA, hO, h0⟩)))))

theorem KT (f0 : (List aD)) (r : ((List aD) × Int)) (h0 : rQ f0 = some r) : cF Try.prog 41 [(eL aE f0)] (.tup [(eL aE r.1), (eI r.2)]) := by
  intro H0
  refine cJ Try.func41 ?_
  have hO := aL.start H0
  unfold rQ at h0
  refine aT aF 2 [] [] ?_
  refine aP ?_
  refine aU aF 6 ?_
  refine bN 1 ?_
  obtain ⟨x1, hx2, h0⟩ := bB h0
  refine eJ (PT f0 _ hx2) hO ?_
  intro H hO
  refine bE ?_
  refine bK [(2, (eL aE x1.1)), (3, (eI x1.2))] ?_
  refine bM ?_
  obtain rfl := oI h0
  exact aI (Q_r hO)

theorem AG (l0 : (List aB)) (r : ((List aB) × Int)) (h0 : qE l0 = some r) : cF Try.prog 20 [(eL aC l0)] (.tup [(eL aC r.1), (eI r.2)]) := by
  intro H0
  refine cJ Try.func20 ?_
  have hO := aL.start H0
  unfold qE at h0
  refine aT aF 2 [] [] ?_
  refine aP ?_
  refine aP ?_
  refine aU aF 2 ?_
  refine bN 1 ?_
  obtain ⟨x1, hx2, h0⟩ := bB h0
  refine eJ (mV l0 31 [] [] (fun y0 => rN y0) (fun y0 r h => KW y0 r h) _ hx2) hO ?_
  intro H hO
  refine cL ?_
  refine bS [] [(6, (aK x1))] ?_
  refine bL h0 (fun h0 => ?_) (fun h0 => ?_)
  · refine bX aF 2 [(2, (.sl true 0 (fun _ => .bad))), (3, (eI (2 : Int)))] ?_
    refine bM ?_
    refine cT (l := [(2, (eL aC ([]))), (3, (eI (2 : Int)))]) ⟨[(2, (.sl true 0 (fun _ => .bad))), (3, (eI (2 : Int)))], by kernel_rfl, rfl, ⟨pE, aS.refl _, trivial⟩⟩ ?_
    obtain rfl := oI h0
    exact aI (aW (Q_r hO))
  refine bP ?_
  refine bK [(0, (eL aC l0))] ?_
  refine aP ?_
  refine aP ?_
  refine aU aF 2 ?_
  refine bN 1 ?_
  obtain ⟨x5, hx6, h0⟩ := bB h0
  refine eJ (mV l0 33 [] [] (fun y0 => rR y0) (fun y0 r h => LD y0 r h) _ hx6) hO ?_
  intro H hO
  refine cL ?_
  refine bS [] [(8, (aK x5))] ?_
  refine bL h0 (fun h0 => ?_) (fun h0 => ?_)
  · refine bX aF 2 [(2, (.sl true 0 (fun _ => .bad))), (3, (eI (13 : Int)))] ?_
    refine bM ?_
    refine cT (l := [(2, (eL aC ([]))), (3, (eI (13 : Int)))]) ⟨[(2, (.sl true 0 (fun _ => .bad))), (3, (eI (13 : Int)))], by kernel_rfl, rfl, ⟨pE, aS.refl _, trivial⟩⟩ ?_
    obtain rfl := oI h0
    exact aI (aW (Q_r hO))
  refine bP ?_
  refine bK [(0, (eL aC l0))] ?_
  refine aP ?_
  refine aU aF 3 ?_
  refine bN 1 ?_
  obtain ⟨x9, hx10, h0⟩ := bB h0
  refine JD (L' := fun lo11 => [(lo11, 3, List.map aC x9)]) 3 (List.map aC x9) 34 [(eL aC l0)] (fun lo11 => (.msl 3 lo11 0 (List.length x9))) (by kernel_rfl) (by kernel_rfl) (uX l0 _ hx10) hO (fun _ => by kernel_rfl) ?_
  intro lo11 H hO
  refine bE ?_
  refine bK [(4, (.msl 3 lo11 0 (List.length x9)))] ?_
  refine aP ?_
  refine aU aF 2 ?_
  refine bN 1 ?_
  obtain ⟨x12, hx13, h0⟩ := bB h0
  refine oQ [(lo11, 3, List.map aC x12)] 0 (qV lo11 x9 36 [] [] (fun y0 y1 => mW y0 y1) (fun y0 y1 r h => KU y0 y1 r h) _ hx13) hO ?_
  intro H hO hl14
  simp only [List.length_map] at hl14
  refine cL ?_
  refine cT (l := [(4, (.msl 3 lo11 0 (List.length x12)))]) ⟨[(4, (.msl 3 lo11 0 (List.length x9)))], by kernel_rfl, rfl, ⟨aS.eq (by simp [hl14]), trivial⟩⟩ ?_
  refine aI (aG (?_))
  refine aP ?_
  refine aU aF 6 ?_
  refine xN (e := aC) x12 0 4 3 lo11 (List.length x12) [] (by kernel_rfl) hO (by kernel_rfl) (by kernel_rfl) (by kernel_rfl) (by kernel_rfl) ?_
  intro H hO
  refine bN 1 ?_
  obtain ⟨x15, hx16, h0⟩ := bB h0
  refine eJ (LF x12 41 [] [] (fun y0 => rQ y0) (fun y0 r h => KT y0 r h) _ hx16) hO ?_
  intro H hO
  refine bE ?_
  refine bK [(2, (eL aC x15.1)), (3, (eI x15.2))] ?_
  refine bM ?_
  obtain rfl := oI h0
  exact aI (Q_r hO)

theorem RS (a0 : (List aB)) (b1 : (List aB)) (r : ((List aB) × Int)) (h0 : vY a0 b1 = some r) : cF Try.prog 27 [(eL aC a0), (eL aC b1)] (.tup [(eL aC r.1), (eI r.2)]) := by
  intro H0
  refine cJ Try.func27 ?_
  have hO := aL.start H0
  unfold vY at h0
  refine aT aF 2 [] [] ?_
  refine aP ?_
  refine aP ?_
  refine aU aF 8 ?_
  refine bN 1 ?_
  obtain ⟨x1, hx2, h0⟩ := bB h0
  refine eJ (yJ a0 _ hx2) hO ?_
  intro H hO
  refine bN 5 ?_
  obtain ⟨x4, hx5, h0⟩ := bB h0
  refine tO [(9, false)] 24 [(eL aC b1)] (aK x4) (!(!x1)) (by kernel_rfl) (by kernel_rfl) (by kernel_rfl) (fun hb6 => (yJ b1 _ (tI hx5 hb6))) hO ?_
  intro H hO
  refine bE ?_
  refine bS [] [(13, (aK ((!x1) || (!x4))))] ?_
  refine bL h0 (fun h0 => ?_) (fun h0 => ?_)
  · refine bX aF 2 [(4, (.sl true 0 (fun _ => .bad))), (5, (eI (2 : Int)))] ?_
    refine bM ?_
    refine cT (l := [(4, (eL aC ([]))), (5, (eI (2 : Int)))]) ⟨[(4, (.sl true 0 (fun _ => .bad))), (5, (eI (2 : Int)))], by kernel_rfl, rfl, ⟨pE, aS.refl _, trivial⟩⟩ ?_
    obtain rfl := oI h0
    exact aI (aW (Q_r hO))
  refine bP ?_
  refine bK [(0, (eL aC a0)), (1, (eL aC b1))] ?_
  refine aP ?_
  refine aU aF 9 ?_
  refine bN 2 ?_
  refine sL [(eL aC a0), (eL aC b1)] 1 ?_
  obtain ⟨x8, hx9, h0⟩ := bB h0
  refine aA1 47 [(lI [(eL aC a0), (eL aC b1)])] (eL aC x8) (cF.sub (uJ ([a0, b1]) _ hx9) ⟨HW (l := [a0, b1]), trivial⟩) hO ?_
  intro H hO
  obtain ⟨x11, hx12, h0⟩ := bB h0
  refine eJ (AG x8 _ hx12) hO ?_
  intro H hO
  refine bE ?_
  refine bK [(4, (eL aC x11.1)), (5, (eI x11.2))] ?_
  refine bM ?_
  obtain rfl := oI h0
  exact aI (Q_r hO)

theorem xX (lo0p : Nat) (bG : Nat) (a0 : aV) (k1 : Int) (l2 : (List aB)) (r : (Int × aV)) (h0 : lF a0 k1 l2 = some r) : qD Try.prog 12 [(.lp lo0p 0 0), (eI k1), (eL aC l2)] [(lo0p, 1, [(.agg [(.msl 2 bG 0 (List.length a0.inputs))])]), (bG, 2, List.map aN a0.inputs)] (fun x L => ∃ zM : Nat, x = (eI r.1) ∧ L = [(lo0p, 1, [(.agg [(.msl 2 zM 0 (List.length r.2.inputs))])]), (zM, 2, List.map aN r.2.inputs)]) := by
  intro F H0 hO
  obtain ⟨Fh, Fe, Fg⟩ := F
  refine cJ Try.func12 ?_
  unfold lF at h0
  refine aT aF 1 [] [] ?_
  refine aP ?_
  refine aU aF 9 ?_
  refine bN 2 ?_
  obtain ⟨x1, hx2, h0⟩ := bB h0
  refine vS [] [0, 1] (yO lo0p bG a0 k1 _ hx2) hO ?_
  intro r5 L6 H hP7 hO
  obtain ⟨rfl, hP7⟩ := hP7
  replace hO : aL ⟨Fh, Fe, Fg⟩ H [(lo0p, 1, [(.agg [(.msl 2 bG 0 (List.length a0.inputs))])]), (bG, 2, List.map aN a0.inputs)] := hO
  rcases hP7 with ⟨hv3, rfl, c4⟩ | ⟨hv3, rfl⟩
  · replace h0 := zO (decide_eq_true hv3) h0
    refine bN 6 ?_
    refine mP 1 (.lit (.pointer none)) (by kernel_rfl) (by kernel_rfl) hO ?_
    intro lo8 H hO
    refine mZ 2 lo8 1 0 (.lit (.pointer none)) (.lp bG (0 + Int.toNat k1) 0) [(.lit (.pointer none))] [(lo0p, 1, [(.agg [(.msl 2 bG 0 (List.length a0.inputs))])]), (bG, 2, List.map aN a0.inputs), (lo8, 1, [(.lp bG (0 + Int.toNat k1) 0)])] hO rfl (by kernel_rfl) ?_
    intro H hO
    refine bE ?_
    refine bS [1] [(7, (.lp lo8 0 0)), (8, (eI x1))] ?_
    refine aP ?_
    refine bU 0 ?_
    refine aT aF 3 [] [(16, (aK (!decide (x1 = (0 : Int)))))] ?_
    refine bL h0 (fun h0 => ?_) (fun h0 => ?_)
    · refine aP ?_
      refine aU aF 2 ?_
      refine bE ?_
      refine dL [(0, (.lp lo0p 0 0)), (6, (eI x1))] ?_
      replace hO := hO.pick (L' := [(lo0p, 1, [(.agg [(.msl 2 bG 0 (List.length a0.inputs))])]), (bG, 2, List.map aN a0.inputs)]) [0, 1] (by decide) (by kernel_rfl)
      refine aI (aG (?_))
      refine bM ?_
      obtain rfl := oI h0
      exact aI (bQ (aW (qL hO ⟨bG, rfl, rfl⟩)))
    refine aP ?_
    refine aU aF 4 ?_
    refine bN 1 ?_
    obtain ⟨x10, hx11, h0⟩ := bB h0
    refine eJ (yJ l2 _ hx11) hO ?_
    intro H hO
    refine bE ?_
    refine bS [8, 16] [(20, (aK (!x10)))] ?_
    refine bL h0 (fun h0 => ?_) (fun h0 => ?_)
    · refine aP ?_
      refine aU aF 1 ?_
      refine bE ?_
      refine dL [(0, (.lp lo0p 0 0)), (6, (eI (2 : Int)))] ?_
      replace hO := hO.pick (L' := [(lo0p, 1, [(.agg [(.msl 2 bG 0 (List.length a0.inputs))])]), (bG, 2, List.map aN a0.inputs)]) [0, 1] (by decide) (by kernel_rfl)
      refine aI (aG (?_))
      refine bM ?_
      obtain rfl := oI h0
      exact aI (bQ (aW (qL hO ⟨bG, rfl, rfl⟩)))
    refine aP ?_
    refine dJ [(0, (.lp lo0p 0 0)), (2, (eL aC l2)), (7, (.lp lo8 0 0)), (20, (aK (!x10)))] ?_
    refine DZ 2 2 7 1 lo8 (.lp bG (0 + Int.toNat k1) 0) [(lo0p, 1, [(.agg [(.msl 2 bG 0 (List.length a0.inputs))])]), (bG, 2, List.map aN a0.inputs)] hO (by kernel_rfl) (by kernel_rfl) (by kernel_rfl) ?_
    intro H hO
    refine aU aF 4 ?_
    refine bN 2 ?_
    obtain ⟨x14, hx15, h0⟩ := bB h0
    refine WN (fun (_ : Unit) G' => G' = up [(lo0p, 1, [(.agg [(.msl 2 bG 0 (List.length a0.inputs))])]), (bG, 2, List.map aN a0.inputs)] ++ Fg) [(lo0p, 1, [(.agg [(.msl 2 bG 0 (List.length a0.inputs))])]), (bG, 2, List.map aN a0.inputs)] () x14.1 25 [(eL aC l2), (.fn (.func 26) [] [(.rp (.lp bG (0 + Int.toNat k1) 0))])] (aK x14.2) (by kernel_rfl) (by kernel_rfl) (qU (fun (_ : Unit) G' => G' = up [(lo0p, 1, [(.agg [(.msl 2 bG 0 (List.length a0.inputs))])]), (bG, 2, List.map aN a0.inputs)] ++ Fg) l2 (.fn (.func 26) [] [(.rp (.lp bG (0 + Int.toNat k1) 0))]) (fun (st : Unit) y0 => (lP a0.inputs k1 y0).bind fun o => some (st, o)) (fun st y0 st2 rr hr => (DC bG a0.inputs k1 c4 y0 _ (aAQ hr)).toV (ys := []) (zs := [aC y0]) (cs := [(.rp (.lp bG (0 + Int.toNat k1) 0))]) (fun Gx hG => ⟨up [(lo0p, 1, [(.agg [(.msl 2 bG 0 (List.length a0.inputs))])])], up [] ++ Fg, hG, rfl⟩)) () _ hx15) hO rfl (fun _ h => h) ?_
    intro H hO
    refine bE ?_
    refine bS [20] [(24, (aK x14.2))] ?_
    refine bL h0 (fun h0 => ?_) (fun h0 => ?_)
    · refine bX aF 1 [(0, (.lp lo0p 0 0)), (6, (eI (16 : Int)))] ?_
      refine bM ?_
      obtain rfl := oI h0
      exact aI (bQ (aW (qL hO ⟨bG, rfl, rfl⟩)))
    refine bP ?_
    refine dL [(0, (.lp lo0p 0 0)), (2, (eL aC l2)), (7, (.rp (.lp bG (0 + Int.toNat k1) 0)))] ?_
    refine aI (aZ (aG (?_)))
    refine aP ?_
    refine aU aF 11 ?_
    refine bN 3 ?_
    refine nY 1 bG 2 (0 + Int.toNat k1) (aN (gD a0.inputs k1)) (eL aC ((gD a0.inputs k1).held)) (List.map aN a0.inputs) hO (cG c4) ?_
    refine bN 5 ?_
    obtain ⟨x17, hx18, h0⟩ := bB h0
    refine eJ (RS ((gD a0.inputs k1).held) l2 _ hx18) hO ?_
    intro H hO
    refine bE ?_
    refine bS [2] [(8, (eI x17.2)), (9, (eL aC x17.1))] ?_
    refine aP ?_
    refine aT aF 2 [] [(38, (aK (!decide (x17.2 = (0 : Int)))))] ?_
    refine bL h0 (fun h0 => ?_) (fun h0 => ?_)
    · refine bX aF 2 [(0, (.lp lo0p 0 0)), (6, (eI x17.2))] ?_
      refine bM ?_
      obtain rfl := oI h0
      exact aI (aW (qL hO ⟨bG, rfl, rfl⟩))
    refine bP ?_
    refine bK [(0, (.lp lo0p 0 0)), (7, (.rp (.lp bG (0 + Int.toNat k1) 0))), (9, (eL aC x17.1))] ?_
    refine aP ?_
    refine aU aF 5 ?_
    refine bN 4 ?_
    refine mZ 1 bG 2 (0 + Int.toNat k1) (aN (gD a0.inputs k1)) (aN (aY.mk (gD a0.inputs k1).clock x17.1)) (List.map aN a0.inputs) [(lo0p, 1, [(.agg [(.msl 2 bG 0 (List.length a0.inputs))])]), (bG, 2, List.map aN (List.set a0.inputs (Int.toNat k1) (aY.mk (gD a0.inputs k1).clock x17.1)))] hO (cG c4) (by simp only [List.set, mO]) ?_
    intro H hO
    refine cL ?_
    refine dL [(0, (.lp lo0p 0 0))] ?_
    replace hO : aL ⟨Fh, Fe, Fg⟩ H [(lo0p, 1, [(.agg [(.msl 2 bG 0 (List.length (List.set a0.inputs (Int.toNat k1) (aY.mk (gD a0.inputs k1).clock x17.1))))])]), (bG, 2, List.map aN (List.set a0.inputs (Int.toNat k1) (aY.mk (gD a0.inputs k1).clock x17.1)))] := by simpa only [List.length_set] using hO
    refine aI (aG (?_))
    refine aT aF 1 [] [(6, (eI (0 : Int)))] ?_
    refine bM ?_
    obtain rfl := oI h0
    exact aI (qL hO ⟨bG, rfl, rfl⟩)
  · replace h0 := zW (decide_eq_false hv3) h0
    refine bN 6 ?_
    refine mP 1 (.lit (.pointer none)) (by kernel_rfl) (by kernel_rfl) hO ?_
    intro lo21 H hO
    refine mZ 2 lo21 1 0 (.lit (.pointer none)) (.lit (.pointer none)) [(.lit (.pointer none))] [(lo0p, 1, [(.agg [(.msl 2 bG 0 (List.length a0.inputs))])]), (bG, 2, List.map aN a0.inputs), (lo21, 1, [(.lit (.pointer none))])] hO rfl (by kernel_rfl) ?_
    intro H hO
    refine bE ?_
    refine bS [1] [(7, (.lp lo21 0 0)), (8, (eI x1))] ?_
    refine aP ?_
    refine bU 0 ?_
    refine aT aF 3 [] [(16, (aK (!decide (x1 = (0 : Int)))))] ?_
    refine bL h0 (fun h0 => ?_) (fun h0 => ?_)
    · refine aP ?_
      refine aU aF 2 ?_
      refine bE ?_
      refine dL [(0, (.lp lo0p 0 0)), (6, (eI x1))] ?_
      replace hO := hO.pick (L' := [(lo0p, 1, [(.agg [(.msl 2 bG 0 (List.length a0.inputs))])]), (bG, 2, List.map aN a0.inputs)]) [0, 1] (by decide) (by kernel_rfl)
      refine aI (aG (?_))
      refine bM ?_
      obtain rfl := oI h0
      exact aI (bQ (aW (qL hO ⟨bG, rfl, rfl⟩)))
    refine aP ?_
    refine aU aF 4 ?_
    refine bN 1 ?_
    obtain ⟨x23, hx24, h0⟩ := bB h0
    refine eJ (yJ l2 _ hx24) hO ?_
    intro H hO
    refine bE ?_
    refine bS [8, 16] [(20, (aK (!x23)))] ?_
    refine bL h0 (fun h0 => ?_) (fun h0 => ?_)
    · refine aP ?_
      refine aU aF 1 ?_
      refine bE ?_
      refine dL [(0, (.lp lo0p 0 0)), (6, (eI (2 : Int)))] ?_
      replace hO := hO.pick (L' := [(lo0p, 1, [(.agg [(.msl 2 bG 0 (List.length a0.inputs))])]), (bG, 2, List.map aN a0.inputs)]) [0, 1] (by decide) (by kernel_rfl)
      refine aI (aG (?_))
      refine bM ?_
      obtain rfl := oI h0
      exact aI (bQ (aW (qL hO ⟨bG, rfl, rfl⟩)))
    refine aP ?_
    refine dJ [(0, (.lp lo0p 0 0)), (2, (eL aC l2)), (7, (.lp lo21 0 0)), (20, (aK (!x23)))] ?_
    refine DZ 2 2 7 1 lo21 (.lit (.pointer none)) [(lo0p, 1, [(.agg [(.msl 2 bG 0 (List.length a0.inputs))])]), (bG, 2, List.map aN a0.inputs)] hO (by kernel_rfl) (by kernel_rfl) (by kernel_rfl) ?_
    intro H hO
    refine aU aF 4 ?_
    refine bN 2 ?_
    cases h0

theorem pS (lo0p : Nat) (bG : Nat) (a0 : aV) (k1 : Int) (t2 : Int) (r : (Int × aV)) (h0 : dZ a0 k1 t2 = some r) : qD Try.prog 14 [(.lp lo0p 0 0), (eI k1), (eI t2)] [(lo0p, 1, [(.agg [(.msl 2 bG 0 (List.length a0.inputs))])]), (bG, 2, List.map aN a0.inputs)] (fun x L => ∃ zM : Nat, x = (eI r.1) ∧ L = [(lo0p, 1, [(.agg [(.msl 2 zM 0 (List.length r.2.inputs))])]), (zM, 2, List.map aN r.2.inputs)]) := by
  intro F H0 hO
  obtain ⟨Fh, Fe, Fg⟩ := F
  refine cJ Try.func14 ?_
  unfold dZ at h0
  refine aT aF 1 [] [] ?_
  refine aP ?_
  refine aU aF 8 ?_
  refine bN 2 ?_
  obtain ⟨x1, hx2, h0⟩ := bB h0
  refine vS [] [0, 1] (yO lo0p bG a0 k1 _ hx2) hO ?_
  intro r5 L6 H hP7 hO
  obtain ⟨rfl, hP7⟩ := hP7
  replace hO : aL ⟨Fh, Fe, Fg⟩ H [(lo0p, 1, [(.agg [(.msl 2 bG 0 (List.length a0.inputs))])]), (bG, 2, List.map aN a0.inputs)] := hO
  rcases hP7 with ⟨hv3, rfl, c4⟩ | ⟨hv3, rfl⟩
  · replace h0 := zO (decide_eq_true hv3) h0
    refine bE ?_
    refine bS [1] [(7, (.lp bG (0 + Int.toNat k1) 0)), (8, (eI x1))] ?_
    refine aP ?_
    refine bU 0 ?_
    refine aT aF 3 [] [(15, (aK (!decide (x1 = (0 : Int)))))] ?_
    refine bL h0 (fun h0 => ?_) (fun h0 => ?_)
    · refine bX aF 2 [(0, (.lp lo0p 0 0)), (6, (eI x1))] ?_
      refine bM ?_
      obtain rfl := oI h0
      exact aI (bQ (aW (qL hO ⟨bG, rfl, rfl⟩)))
    refine aT aF 7 [8, 15] [(19, (aK ((decide (t2 < (0 : Int))) || (decide ((1125899906842624 : Int) < t2)))))] ?_
    refine bL h0 (fun h0 => ?_) (fun h0 => ?_)
    · refine bX aF 1 [(0, (.lp lo0p 0 0)), (6, (eI (13 : Int)))] ?_
      refine bM ?_
      obtain rfl := oI h0
      exact aI (bQ (aW (qL hO ⟨bG, rfl, rfl⟩)))
    refine aP ?_
    refine aU aF 7 ?_
    refine bN 4 ?_
    refine nY 1 bG 2 (0 + Int.toNat k1) (aN (gD a0.inputs k1)) (eI ((gD a0.inputs k1).clock)) (List.map aN a0.inputs) hO (cG c4) ?_
    refine bE ?_
    refine bK [(0, (.lp lo0p 0 0)), (2, (eI t2)), (7, (.lp bG (0 + Int.toNat k1) 0)), (26, (aK (decide (t2 < ((gD a0.inputs k1).clock)))))] ?_
    refine bL h0 (fun h0 => ?_) (fun h0 => ?_)
    · refine bX aF 1 [(0, (.lp lo0p 0 0)), (6, (eI (16 : Int)))] ?_
      refine bM ?_
      obtain rfl := oI h0
      exact aI (bQ (aW (qL hO ⟨bG, rfl, rfl⟩)))
    refine bP ?_
    refine dL [(0, (.lp lo0p 0 0)), (2, (eI t2)), (7, (.lp bG (0 + Int.toNat k1) 0))] ?_
    refine aI (aZ (aG (?_)))
    refine aP ?_
    refine aU aF 5 ?_
    refine bN 4 ?_
    refine mZ 1 bG 2 (0 + Int.toNat k1) (aN (gD a0.inputs k1)) (aN (aY.mk t2 (gD a0.inputs k1).held)) (List.map aN a0.inputs) [(lo0p, 1, [(.agg [(.msl 2 bG 0 (List.length a0.inputs))])]), (bG, 2, List.map aN (List.set a0.inputs (Int.toNat k1) (aY.mk t2 (gD a0.inputs k1).held)))] hO (cG c4) (by simp only [List.set, mO]) ?_
    intro H hO
    refine cL ?_
    refine dL [(0, (.lp lo0p 0 0))] ?_
    replace hO : aL ⟨Fh, Fe, Fg⟩ H [(lo0p, 1, [(.agg [(.msl 2 bG 0 (List.length (List.set a0.inputs (Int.toNat k1) (aY.mk t2 (gD a0.inputs k1).held))))])]), (bG, 2, List.map aN (List.set a0.inputs (Int.toNat k1) (aY.mk t2 (gD a0.inputs k1).held)))] := by simpa only [List.length_set] using hO
    refine aI (aG (?_))
    refine aT aF 1 [] [(6, (eI (0 : Int)))] ?_
    refine bM ?_
    obtain rfl := oI h0
    exact aI (qL hO ⟨bG, rfl, rfl⟩)
  · replace h0 := zW (decide_eq_false hv3) h0
    refine bE ?_
    refine bS [1] [(7, (.lit (.pointer none))), (8, (eI x1))] ?_
    refine aP ?_
    refine bU 0 ?_
    refine aT aF 3 [] [(15, (aK (!decide (x1 = (0 : Int)))))] ?_
    refine bL h0 (fun h0 => ?_) (fun h0 => ?_)
    · refine bX aF 2 [(0, (.lp lo0p 0 0)), (6, (eI x1))] ?_
      refine bM ?_
      obtain rfl := oI h0
      exact aI (bQ (aW (qL hO ⟨bG, rfl, rfl⟩)))
    refine aT aF 7 [8, 15] [(19, (aK ((decide (t2 < (0 : Int))) || (decide ((1125899906842624 : Int) < t2)))))] ?_
    refine bL h0 (fun h0 => ?_) (fun h0 => ?_)
    · refine bX aF 1 [(0, (.lp lo0p 0 0)), (6, (eI (13 : Int)))] ?_
      refine bM ?_
      obtain rfl := oI h0
      exact aI (bQ (aW (qL hO ⟨bG, rfl, rfl⟩)))
    refine aP ?_
    refine aU aF 7 ?_
    cases h0

theorem pO (lo0p : Nat) (bG : Nat) (a0 : aV) (r : Int) (h0 : eA a0 = some r) : qD Try.prog 7 [(.lp lo0p 0 0)] [(lo0p, 1, [(.agg [(.msl 2 bG 0 (List.length a0.inputs))])]), (bG, 2, List.map aN a0.inputs)] (fun x L => x = (eI r) ∧ L = [(lo0p, 1, [(.agg [(.msl 2 bG 0 (List.length a0.inputs))])]), (bG, 2, List.map aN a0.inputs)]) := by
  intro F H0 hO
  obtain ⟨Fh, Fe, Fg⟩ := F
  refine cJ Try.func7 ?_
  unfold eA at h0
  refine aT aF 1 [] [] ?_
  refine aP ?_
  refine aP ?_
  refine aU aF 2 ?_
  refine bN 1 ?_
  refine BP false ?_
  refine cL ?_
  refine bS [] [(6, (aK false))] ?_
  refine mR (false) (fun hc1 => ?_) (fun hc1 => ?_)
  · cases hc1
  · refine bP ?_
    refine bK [(0, (.lp lo0p 0 0))] ?_
    refine aT aF 1 [] [(3, (eI (1125899906842624 : Int)))] ?_
    refine dB (fun T H => ∃ t3 : Int, Has T [(0, (.lp lo0p 0 0)), (3, (eI t3))] ∧ aL ⟨Fh, Fe, Fg⟩ H [(lo0p, 1, [(.agg [(.msl 2 bG 0 (List.length a0.inputs))])]), (bG, 2, List.map aN a0.inputs)] ∧ oS a0 t3 = some r) ?_ ?_
    · clear hO h0
      rintro T H ⟨t3, hT, hO, h0⟩
      refine bD hT ?_
      clear hT
      unfold oS at h0
      refine aT aF 2 [3] [(2, (eI t3))] ?_
      refine bM ?_
      obtain rfl := oI h0
      exact aI (qL hO ⟨rfl, rfl⟩)
    refine aP ?_
    refine aU aF 6 ?_
    refine bN 3 ?_
    refine nY 0 lo0p 1 0 (.agg [(.msl 2 bG 0 (List.length a0.inputs))]) (.msl 2 bG 0 (List.length a0.inputs)) [(.agg [(.msl 2 bG 0 (List.length a0.inputs))])] hO rfl ?_
    refine bE ?_
    refine bS [] [(11, (eI (lN a0.inputs))), (12, (eI (0 : Int)))] ?_
    refine bU 0 ?_
    refine dJ [(0, (.lp lo0p 0 0)), (3, (eI (1125899906842624 : Int))), (11, (eI (lN a0.inputs))), (12, (eI (0 : Int)))] ?_
    refine cR (fun T H => ∃ t3 : Int, ∃ t11 : Int, ∃ t12 : Int, Has T [(0, (.lp lo0p 0 0)), (3, (eI t3)), (11, (eI t11)), (12, (eI t12))] ∧ aL ⟨Fh, Fe, Fg⟩ H [(lo0p, 1, [(.agg [(.msl 2 bG 0 (List.length a0.inputs))])]), (bG, 2, List.map aN a0.inputs)] ∧ oP a0 t3 t11 t12 = some r) ?_ ⟨(1125899906842624 : Int), (lN a0.inputs), (0 : Int), bA, hO, h0⟩
    clear hO h0
    rintro T H ⟨t3, t11, t12, hT, hO, h0⟩
    refine bD hT ?_
    clear hT
    unfold oP at h0
    obtain ⟨rr0, hl0, h0⟩ := bB h0
    refine eS (fun (s : Int × Int) T H => Has T [(0, (.lp lo0p 0 0)), (3, (eI s.1)), (11, (eI t11)), (12, (eI s.2))] ∧ aL ⟨Fh, Fe, Fg⟩ H [(lo0p, 1, [(.agg [(.msl 2 bG 0 (List.length a0.inputs))])]), (bG, 2, List.map aN a0.inputs)]) hl0 ⟨bA, hO⟩ ?_
    clear hO
    rintro k0 s out1 T H ⟨hT, hO⟩ h1 ho0
    obtain ⟨t3, t12⟩ := s
    replace h1 : kQ a0 t11 t3 t12 = some out1 := h1
    try dsimp only at hT
    refine bD hT ?_
    clear hT
    unfold kQ at h1
    refine aT aF 1 [] [(13, (aK (decide (t12 < t11))))] ?_
    refine aP ?_
    refine bL h1 (fun h1 => ?_) (fun h1 => ?_)
    · refine bP ?_
      refine bK [(0, (.lp lo0p 0 0)), (3, (eI t3)), (11, (eI t11)), (12, (eI t12))] ?_
      refine aP ?_
      refine bU 1 ?_
      refine aT aF 2 [] [(4, (eI t12))] ?_
      refine aU aF 11 ?_
      refine bN 4 ?_
      refine nY 0 lo0p 1 0 (.agg [(.msl 2 bG 0 (List.length a0.inputs))]) (.msl 2 bG 0 (List.length a0.inputs)) [(.agg [(.msl 2 bG 0 (List.length a0.inputs))])] hO rfl ?_
      obtain ⟨c3, h1⟩ := bJ h1
      refine rB 8 [0 ≤ t12 ∧ t12 < (lN a0.inputs)] ⟨c3, trivial⟩ ?_
      refine nY 1 bG 2 (0 + Int.toNat t12) (aN (gD a0.inputs t12)) (eI ((gD a0.inputs t12).clock)) (List.map aN a0.inputs) hO (cG c3) ?_
      refine bE ?_
      refine dL [(0, (.lp lo0p 0 0)), (3, (eI (if ((gD a0.inputs t12).clock) < t3 then ((gD a0.inputs t12).clock) else t3))), (11, (eI t11)), (12, (eI t12))] ?_
      refine aI (aZ (aG (?_)))
      refine aU aF 2 ?_
      refine bE ?_
      exact aI (aG (⟨rfl, _, (oI h1).symm, bA, hO⟩))
    refine eR 0 ?_
    obtain rfl := oI h1
    obtain rfl : _ = rr0 := ho0
    replace h0 : oS a0 t3 = some r := h0
    exact aI (aX (aX (bT (aG (⟨rfl, _, bA, hO, h0⟩)))))

theorem wK (x0 : aB) (lo1p : Nat) (t1 : Int) (lo2p : Nat) (lo2q : Nat) (t2 : (List aB)) (lo3p : Nat) (lo3q : Nat) (t3 : (List aB)) (r : (Int × (List aB) × (List aB))) (h0 : gY x0 t1 t2 t3 = some r) : qD Try.prog 22 [(aC x0), (.lp lo1p 0 0), (.lp lo2p 0 0), (.lp lo3p 0 0)] [(lo1p, 1, [(eI t1)]), (lo2p, 1, [(.msl 3 lo2q 0 (List.length t2))]), (lo2q, 3, List.map aC t2), (lo3p, 1, [(.msl 3 lo3q 0 (List.length t3))]), (lo3q, 3, List.map aC t3)] (fun x L => ∃ lo2n : Nat, ∃ lo3n : Nat, x = (.tup []) ∧ L = [(lo1p, 1, [(eI r.1)]), (lo2p, 1, [(.msl 3 lo2n 0 (List.length r.2.1))]), (lo2n, 3, List.map aC r.2.1), (lo3p, 1, [(.msl 3 lo3n 0 (List.length r.2.2))]), (lo3n, 3, List.map aC r.2.2)]) := by
  intro F H0 hO
  obtain ⟨Fh, Fe, Fg⟩ := F
  refine cJ Try.func22 ?_
  unfold gY at h0
  refine aP ?_
  refine aU aF 1 ?_
  refine qR 3 (aC x0) ?_
  refine cL ?_
  refine bS [0] [(4, (.rp (aC x0)))] ?_
  refine aP ?_
  refine aU aF 4 ?_
  refine bN 2 ?_
  refine nY 0 lo1p 1 0 (eI t1) (eI t1) [(eI t1)] hO rfl ?_
  refine bE ?_
  refine bS [] [(8, (aK (decide (x0.At < t1))))] ?_
  refine bL h0 (fun h0 => ?_) (fun h0 => ?_)
  · refine aU aF 5 ?_
    refine nY 1 lo2p 1 0 (.msl 3 lo2q 0 (List.length t2)) (.msl 3 lo2q 0 (List.length t2)) [(.msl 3 lo2q 0 (List.length t2))] hO rfl ?_
    refine bN 2 ?_
    refine sL [(aC x0)] 3 ?_
    obtain ⟨c3, h0⟩ := bJ h0
    refine DS aC t2 ([x0]) 2 lo2q 3 40 (lI [(aC x0)]) (fun lo2 => [(lo1p, 1, [(eI t1)]), (lo2p, 1, [(.msl 3 lo2q 0 (List.length t2))]), (lo2, 3, List.map aC (t2 ++ ([x0]))), (lo3p, 1, [(.msl 3 lo3q 0 (List.length t3))]), (lo3q, 3, List.map aC t3)]) hO (by kernel_rfl) c3 ?_
    intro lo2 H hO
    refine mZ 1 lo2p 1 0 (.msl 3 lo2q 0 (List.length t2)) (.msl 3 lo2 0 (List.length (t2 ++ ([x0])))) [(.msl 3 lo2q 0 (List.length t2))] [(lo1p, 1, [(eI t1)]), (lo2p, 1, [(.msl 3 lo2 0 (List.length (t2 ++ ([x0]))))]), (lo2, 3, List.map aC (t2 ++ ([x0]))), (lo3p, 1, [(.msl 3 lo3q 0 (List.length t3))]), (lo3q, 3, List.map aC t3)] hO rfl (by kernel_rfl) ?_
    intro H hO
    refine cL ?_
    obtain rfl := oI h0
    exact aI (aAB hO ⟨lo2, lo3q, rfl, rfl⟩)
  refine aU aF 5 ?_
  refine nY 3 lo3p 1 0 (.msl 3 lo3q 0 (List.length t3)) (.msl 3 lo3q 0 (List.length t3)) [(.msl 3 lo3q 0 (List.length t3))] hO rfl ?_
  refine bN 2 ?_
  refine sL [(aC x0)] 3 ?_
  obtain ⟨c5, h0⟩ := bJ h0
  refine DS aC t3 ([x0]) 4 lo3q 3 40 (lI [(aC x0)]) (fun lo4 => [(lo1p, 1, [(eI t1)]), (lo2p, 1, [(.msl 3 lo2q 0 (List.length t2))]), (lo2q, 3, List.map aC t2), (lo3p, 1, [(.msl 3 lo3q 0 (List.length t3))]), (lo4, 3, List.map aC (t3 ++ ([x0])))]) hO (by kernel_rfl) c5 ?_
  intro lo4 H hO
  refine mZ 3 lo3p 1 0 (.msl 3 lo3q 0 (List.length t3)) (.msl 3 lo4 0 (List.length (t3 ++ ([x0])))) [(.msl 3 lo3q 0 (List.length t3))] [(lo1p, 1, [(eI t1)]), (lo2p, 1, [(.msl 3 lo2q 0 (List.length t2))]), (lo2q, 3, List.map aC t2), (lo3p, 1, [(.msl 3 lo4 0 (List.length (t3 ++ ([x0]))))]), (lo4, 3, List.map aC (t3 ++ ([x0])))] hO rfl (by kernel_rfl) ?_
  intro H hO
  refine cL ?_
  obtain rfl := oI h0
  exact aI (aAB hO ⟨lo2q, lo4, rfl, rfl⟩)

theorem qP (lo0p : Nat) (bG : Nat) (a0 : aV) (r : ((List (List aB)) × aV)) (h0 : dI a0 = some r) : qD Try.prog 9 [(.lp lo0p 0 0)] [(lo0p, 1, [(.agg [(.msl 2 bG 0 (List.length a0.inputs))])]), (bG, 2, List.map aN a0.inputs)] (fun x L => ∃ zM : Nat, x = (eL (eL aC) r.1) ∧ L = [(lo0p, 1, [(.agg [(.msl 2 zM 0 (List.length r.2.inputs))])]), (zM, 2, List.map aN r.2.inputs)]) := by
  intro F H0 hO
  obtain ⟨Fh, Fe, Fg⟩ := F
  refine cJ Try.func9 ?_
  unfold dI at h0
  refine aT aF 1 [] [] ?_
  refine aP ?_
  refine aU aF 2 ?_
  refine sL [] 1 ?_
  refine bE ?_
  refine bS [] [(3, (.sl true 0 (fun _ => .bad)))] ?_
  refine aP ?_
  refine aP ?_
  refine aU aF 2 ?_
  refine bN 1 ?_
  refine BP false ?_
  refine cL ?_
  refine bS [] [(13, (aK false))] ?_
  refine mR (false) (fun hc1 => ?_) (fun hc1 => ?_)
  · cases hc1
  · refine bP ?_
    refine bK [(0, (.lp lo0p 0 0)), (3, (.sl true 0 (fun _ => .bad)))] ?_
    refine aP ?_
    refine aU aF 4 ?_
    refine bN 1 ?_
    obtain ⟨x2, hx3, h0⟩ := bB h0
    refine vS [] [0, 1] (pO lo0p bG a0 _ hx3) hO ?_
    intro r4 L5 H hP6 hO
    obtain ⟨rfl, rfl⟩ := hP6
    replace hO : aL ⟨Fh, Fe, Fg⟩ H [(lo0p, 1, [(.agg [(.msl 2 bG 0 (List.length a0.inputs))])]), (bG, 2, List.map aN a0.inputs)] := hO
    refine mP 1 (eI 0) (by kernel_rfl) (by kernel_rfl) hO ?_
    intro lo7 H hO
    refine mZ 2 lo7 1 0 (eI 0) (eI x2) [(eI 0)] [(lo0p, 1, [(.agg [(.msl 2 bG 0 (List.length a0.inputs))])]), (bG, 2, List.map aN a0.inputs), (lo7, 1, [(eI x2)])] hO rfl (by kernel_rfl) ?_
    intro H hO
    refine cL ?_
    refine bS [] [(4, (.lp lo7 0 0))] ?_
    refine dB (fun T H => ∃ a0 : aV, ∃ out3 : List (List aB), ∃ lo8 : Nat, ∃ lo9 : Nat, Has T [(0, (.lp lo0p 0 0)), (3, (.msl 1 lo9 0 (List.length out3)))] ∧ aL ⟨Fh, Fe, Fg⟩ H [(lo0p, 1, [(.agg [(.msl 2 lo8 0 (List.length a0.inputs))])]), (lo8, 2, List.map aN a0.inputs), (lo9, 1, List.map (eL aC) out3)] ∧ nS a0 out3 = some r) ?_ ?_
    · clear hO h0
      rintro T H ⟨a0, out3, lo8, lo9, hT, hO, h0⟩
      refine bD hT ?_
      clear hT
      unfold nS at h0
      refine aT aF 2 [3] [(2, (.msl 1 lo9 0 (List.length out3)))] ?_
      refine bM ?_
      refine dL [(0, (.lp lo0p 0 0)), (2, (.msl 1 lo9 0 (List.length out3)))] ?_
      refine DY (en := (eL aC)) out3 1 2 2 1 lo9 (List.length out3) hO (by kernel_rfl) (by kernel_rfl) (by kernel_rfl) (L' := [(lo0p, 1, [(.agg [(.msl 2 lo8 0 (List.length a0.inputs))])]), (lo8, 2, List.map aN a0.inputs)]) (by kernel_rfl) ?_
      intro H10 hO
      obtain rfl := oI h0
      exact aI (qL hO ⟨lo8, rfl, rfl⟩)
    refine aP ?_
    refine aU aF 6 ?_
    refine bN 3 ?_
    refine nY 0 lo0p 1 0 (.agg [(.msl 2 bG 0 (List.length a0.inputs))]) (.msl 2 bG 0 (List.length a0.inputs)) [(.agg [(.msl 2 bG 0 (List.length a0.inputs))])] hO rfl ?_
    refine bE ?_
    refine bS [] [(21, (eI (lN a0.inputs))), (22, (eI (0 : Int)))] ?_
    refine bU 0 ?_
    refine dJ [(0, (.lp lo0p 0 0)), (3, (.sl true 0 (fun _ => .bad))), (4, (.lp lo7 0 0)), (21, (eI (lN a0.inputs))), (22, (eI (0 : Int)))] ?_
    refine EW (el := (fun _ => .bad)) 1 3 1 hO (by kernel_rfl) ?_
    intro lo48 H49 hO
    replace hO := hO.pick (L' := [(lo0p, 1, [(.agg [(.msl 2 bG 0 (List.length a0.inputs))])]), (bG, 2, List.map aN a0.inputs), (lo48, 1, List.map (eL aC) ([] : List (List aB))), (lo7, 1, [(eI x2)])]) [0, 1, 3, 2] (by decide) (by kernel_rfl)
    refine cR (fun T H => ∃ a0 : aV, ∃ out3 : List (List aB), ∃ t4 : Int, ∃ t21 : Int, ∃ t22 : Int, ∃ lo13 : Nat, ∃ lo14 : Nat, Has T [(0, (.lp lo0p 0 0)), (3, (.msl 1 lo14 0 (List.length out3))), (4, (.lp lo7 0 0)), (21, (eI t21)), (22, (eI t22))] ∧ aL ⟨Fh, Fe, Fg⟩ H [(lo0p, 1, [(.agg [(.msl 2 lo13 0 (List.length a0.inputs))])]), (lo13, 2, List.map aN a0.inputs), (lo14, 1, List.map (eL aC) out3), (lo7, 1, [(eI t4)])] ∧ nT a0 out3 t4 t21 t22 = some r) ?_ ⟨a0, ([] : List (List aB)), x2, (lN a0.inputs), (0 : Int), bG, lo48, bA, hO, h0⟩
    clear hO h0
    rintro T H ⟨a0, out3, t4, t21, t22, lo13, lo14, hT, hO, h0⟩
    refine bD hT ?_
    clear hT
    unfold nT at h0
    obtain ⟨rr0, hl0, h0⟩ := bB h0
    refine eS (fun (s : aV × List (List aB) × Int × Int) T H => ∃ lo13 : Nat, ∃ lo14 : Nat, Has T [(0, (.lp lo0p 0 0)), (3, (.msl 1 lo14 0 (List.length s.2.1))), (4, (.lp lo7 0 0)), (21, (eI t21)), (22, (eI s.2.2.2))] ∧ aL ⟨Fh, Fe, Fg⟩ H [(lo0p, 1, [(.agg [(.msl 2 lo13 0 (List.length s.1.inputs))])]), (lo13, 2, List.map aN s.1.inputs), (lo14, 1, List.map (eL aC) s.2.1), (lo7, 1, [(eI s.2.2.1)])]) hl0 ⟨lo13, lo14, bA, hO⟩ ?_
    clear hO
    rintro k0 s out1 T H ⟨lo13, lo14, hT, hO⟩ h1 ho0
    obtain ⟨a0, out3, t4, t22⟩ := s
    replace h1 : fT t21 a0 out3 t4 t22 = some out1 := h1
    try dsimp only at hT
    refine bD hT ?_
    clear hT
    unfold fT at h1
    refine aT aF 1 [] [(23, (aK (decide (t22 < t21))))] ?_
    refine aP ?_
    refine bL h1 (fun h1 => ?_) (fun h1 => ?_)
    · refine bP ?_
      refine bK [(0, (.lp lo0p 0 0)), (3, (.msl 1 lo14 0 (List.length out3))), (4, (.lp lo7 0 0)), (21, (eI t21)), (22, (eI t22))] ?_
      refine dB (fun T H => ∃ a0 : aV, ∃ out3 : List (List aB), ∃ t4 : Int, ∃ lo16 : Nat, ∃ lo17 : Nat, Has T [(0, (.lp lo0p 0 0)), (3, (.msl 1 lo17 0 (List.length out3))), (4, (.lp lo7 0 0)), (21, (eI t21)), (22, (eI t22))] ∧ aL ⟨Fh, Fe, Fg⟩ H [(lo0p, 1, [(.agg [(.msl 2 lo16 0 (List.length a0.inputs))])]), (lo16, 2, List.map aN a0.inputs), (lo17, 1, List.map (eL aC) out3), (lo7, 1, [(eI t4)])] ∧ nR a0 out3 t4 t21 t22 = some out1) ?_ ?_
      · clear hO h1
        rintro T H ⟨a0, out3, t4, lo16, lo17, hT, hO, h1⟩
        refine bD hT ?_
        clear hT
        unfold nR at h1
        refine aU aF 2 ?_
        refine bE ?_
        exact aI (aG (⟨rfl, _, (oI h1).symm, _, _, bA, hO⟩))
      refine bU 1 ?_
      refine aT aF 2 [] [(5, (eI t22))] ?_
      refine aP ?_
      refine aU aF 2 ?_
      refine mP 1 (.sl true 0 (fun _ => .bad)) (by kernel_rfl) (by kernel_rfl) hO ?_
      intro lo18 H hO
      refine mP 1 (.sl true 0 (fun _ => .bad)) (by kernel_rfl) (by kernel_rfl) hO ?_
      intro lo19 H hO
      refine cL ?_
      refine TK 4 1 lo18 3 (fun _ => .bad) (fun lo20 => [(lo0p, 1, [(.agg [(.msl 2 lo13 0 (List.length a0.inputs))])]), (lo13, 2, List.map aN a0.inputs), (lo14, 1, List.map (eL aC) out3), (lo7, 1, [(eI t4)]), (lo18, 1, [(.msl 3 lo20 0 0)]), (lo19, 1, [(.sl true 0 (fun _ => .bad))]), (lo20, 3, List.map aC ([] : List aB))]) hO (by kernel_rfl) (fun _ => by kernel_rfl) ?_
      intro lo20 H hO
      replace hO : aL ⟨Fh, Fe, Fg⟩ H [(lo0p, 1, [(.agg [(.msl 2 lo13 0 (List.length a0.inputs))])]), (lo13, 2, List.map aN a0.inputs), (lo14, 1, List.map (eL aC) out3), (lo7, 1, [(eI t4)]), (lo18, 1, [(.msl 3 lo20 0 (List.length ([] : List aB)))]), (lo19, 1, [(.sl true 0 (fun _ => .bad))]), (lo20, 3, List.map aC ([] : List aB))] := hO
      refine TK 5 1 lo19 3 (fun _ => .bad) (fun lo21 => [(lo0p, 1, [(.agg [(.msl 2 lo13 0 (List.length a0.inputs))])]), (lo13, 2, List.map aN a0.inputs), (lo14, 1, List.map (eL aC) out3), (lo7, 1, [(eI t4)]), (lo18, 1, [(.msl 3 lo20 0 (List.length ([] : List aB)))]), (lo19, 1, [(.msl 3 lo21 0 0)]), (lo20, 3, List.map aC ([] : List aB)), (lo21, 3, List.map aC ([] : List aB))]) hO (by kernel_rfl) (fun _ => by kernel_rfl) ?_
      intro lo21 H hO
      replace hO : aL ⟨Fh, Fe, Fg⟩ H [(lo0p, 1, [(.agg [(.msl 2 lo13 0 (List.length a0.inputs))])]), (lo13, 2, List.map aN a0.inputs), (lo14, 1, List.map (eL aC) out3), (lo7, 1, [(eI t4)]), (lo18, 1, [(.msl 3 lo20 0 (List.length ([] : List aB)))]), (lo19, 1, [(.msl 3 lo21 0 (List.length ([] : List aB)))]), (lo20, 3, List.map aC ([] : List aB)), (lo21, 3, List.map aC ([] : List aB))] := hO
      refine dL [(0, (.lp lo0p 0 0)), (3, (.msl 1 lo14 0 (List.length out3))), (4, (.lp lo7 0 0)), (5, (eI t22)), (6, (.lp lo18 0 0)), (7, (.lp lo19 0 0)), (21, (eI t21)), (22, (eI t22))] ?_
      replace hO := hO.pick (L' := [(lo0p, 1, [(.agg [(.msl 2 lo13 0 (List.length a0.inputs))])]), (lo13, 2, List.map aN a0.inputs), (lo14, 1, List.map (eL aC) out3), (lo7, 1, [(eI t4)]), (lo18, 1, [(.msl 3 lo20 0 (List.length ([] : List aB)))]), (lo20, 3, List.map aC ([] : List aB)), (lo19, 1, [(.msl 3 lo21 0 (List.length ([] : List aB)))]), (lo21, 3, List.map aC ([] : List aB))]) [0, 1, 2, 3, 4, 6, 5, 7] (by decide) (by kernel_rfl)
      refine aI (aG (?_))
      refine aT aF 2 [] [(8, (.fn (.func 22) [] [(.lp lo7 0 0), (.lp lo18 0 0), (.lp lo19 0 0)]))] ?_
      refine dB (fun T H => ∃ a0 : aV, ∃ out3 : List (List aB), ∃ t4 : Int, ∃ k5 : Int, ∃ dN : List aB, ∃ dW : List aB, ∃ lo22 : Nat, ∃ lo23 : Nat, ∃ lo24 : Nat, ∃ lo25 : Nat, Has T [(0, (.lp lo0p 0 0)), (3, (.msl 1 lo23 0 (List.length out3))), (4, (.lp lo7 0 0)), (5, (eI k5)), (6, (.lp lo18 0 0)), (7, (.lp lo19 0 0)), (21, (eI t21)), (22, (eI t22))] ∧ aL ⟨Fh, Fe, Fg⟩ H [(lo0p, 1, [(.agg [(.msl 2 lo22 0 (List.length a0.inputs))])]), (lo22, 2, List.map aN a0.inputs), (lo23, 1, List.map (eL aC) out3), (lo7, 1, [(eI t4)]), (lo18, 1, [(.msl 3 lo24 0 (List.length dN))]), (lo24, 3, List.map aC dN), (lo19, 1, [(.msl 3 lo25 0 (List.length dW))]), (lo25, 3, List.map aC dW)] ∧ lR a0 out3 t4 k5 dN dW t21 t22 = some out1) ?_ ?_
      · clear hO h1
        rintro T H ⟨a0, out3, t4, k5, dN, dW, lo22, lo23, lo24, lo25, hT, hO, h1⟩
        refine bD hT ?_
        clear hT
        unfold lR at h1
        refine aP ?_
        refine CS (e := aC) dW 6 7 1 3 lo19 lo25 (List.length dW) [(lo0p, 1, [(.agg [(.msl 2 lo22 0 (List.length a0.inputs))])]), (lo22, 2, List.map aN a0.inputs), (lo23, 1, List.map (eL aC) out3), (lo7, 1, [(eI t4)]), (lo18, 1, [(.msl 3 lo24 0 (List.length dN))]), (lo24, 3, List.map aC dN), (lo19, 1, [(eL aC dW)])] hO (by kernel_rfl) (by kernel_rfl) (by kernel_rfl) (.inr (by decide)) (by kernel_rfl) ?_
        intro H hO
        refine kH (jW []) aF 9 ?_
        refine vA 3 ?_
        refine kC 0 lo0p 1 0 (.agg [(.msl 2 lo22 0 (List.length a0.inputs))]) (.msl 2 lo22 0 (List.length a0.inputs)) [(.agg [(.msl 2 lo22 0 (List.length a0.inputs))])] hO rfl ?_
        refine vA 5 ?_
        refine kC 6 lo19 1 0 (eL aC dW) (eL aC dW) [(eL aC dW)] hO rfl ?_
        obtain ⟨c26, h1⟩ := bJ h1
        refine dA 8 [0 ≤ k5 ∧ k5 < (lN a0.inputs)] ⟨c26, trivial⟩ ?_
        refine sE 1 lo22 2 (0 + Int.toNat k5) (aN (gD a0.inputs k5)) (aN (aY.mk (gD a0.inputs k5).clock dW)) (List.map aN a0.inputs) [(lo0p, 1, [(.agg [(.msl 2 lo22 0 (List.length a0.inputs))])]), (lo22, 2, List.map aN (List.set a0.inputs (Int.toNat k5) (aY.mk (gD a0.inputs k5).clock dW))), (lo23, 1, List.map (eL aC) out3), (lo7, 1, [(eI t4)]), (lo18, 1, [(.msl 3 lo24 0 (List.length dN))]), (lo24, 3, List.map aC dN), (lo19, 1, [(eL aC dW)])] hO (cG c26) (by simp only [List.set, mO]) ?_
        intro H hO
        refine xA (by kernel_rfl) ?_
        replace hO : aL ⟨Fh, Fe, Fg⟩ H [(lo0p, 1, [(.agg [(.msl 2 lo22 0 (List.length (List.set a0.inputs (Int.toNat k5) (aY.mk (gD a0.inputs k5).clock dW))))])]), (lo22, 2, List.map aN (List.set a0.inputs (Int.toNat k5) (aY.mk (gD a0.inputs k5).clock dW))), (lo23, 1, List.map (eL aC) out3), (lo7, 1, [(eI t4)]), (lo18, 1, [(.msl 3 lo24 0 (List.length dN))]), (lo24, 3, List.map aC dN), (lo19, 1, [(eL aC dW)])] := by simpa only [List.length_set] using hO
        replace hO := hO.pick (L' := [(lo0p, 1, [(.agg [(.msl 2 lo22 0 (List.length (List.set a0.inputs (Int.toNat k5) (aY.mk (gD a0.inputs k5).clock dW))))])]), (lo22, 2, List.map aN (List.set a0.inputs (Int.toNat k5) (aY.mk (gD a0.inputs k5).clock dW))), (lo23, 1, List.map (eL aC) out3), (lo7, 1, [(eI t4)]), (lo18, 1, [(.msl 3 lo24 0 (List.length dN))]), (lo24, 3, List.map aC dN)]) [0, 1, 2, 3, 4, 5] (by decide) (by kernel_rfl)
        refine bS [5, 7] [] ?_
        refine CS (e := aC) dN 4 5 1 3 lo18 lo24 (List.length dN) [(lo0p, 1, [(.agg [(.msl 2 lo22 0 (List.length (List.set a0.inputs (Int.toNat k5) (aY.mk (gD a0.inputs k5).clock dW))))])]), (lo22, 2, List.map aN (List.set a0.inputs (Int.toNat k5) (aY.mk (gD a0.inputs k5).clock dW))), (lo23, 1, List.map (eL aC) out3), (lo7, 1, [(eI t4)]), (lo18, 1, [(eL aC dN)])] hO (by kernel_rfl) (by kernel_rfl) (by kernel_rfl) (.inr (by decide)) (by kernel_rfl) ?_
        intro H hO
        refine aU aF 5 ?_
        refine bN 1 ?_
        refine nY 4 lo18 1 0 (eL aC dN) (eL aC dN) [(eL aC dN)] hO rfl ?_
        refine sL [(eL aC dN)] 1 ?_
        obtain ⟨c28, h1⟩ := bJ h1
        refine DS (eL aC) out3 ([dN]) 2 lo23 1 24 (lI [(eL aC dN)]) (fun lo27 => [(lo0p, 1, [(.agg [(.msl 2 lo22 0 (List.length (List.set a0.inputs (Int.toNat k5) (aY.mk (gD a0.inputs k5).clock dW))))])]), (lo22, 2, List.map aN (List.set a0.inputs (Int.toNat k5) (aY.mk (gD a0.inputs k5).clock dW))), (lo27, 1, List.map (eL aC) (out3 ++ ([dN]))), (lo7, 1, [(eI t4)]), (lo18, 1, [(eL aC dN)])]) hO (by kernel_rfl) c28 ?_
        intro lo27 H hO
        refine bE ?_
        replace hO := hO.pick (L' := [(lo0p, 1, [(.agg [(.msl 2 lo22 0 (List.length (List.set a0.inputs (Int.toNat k5) (aY.mk (gD a0.inputs k5).clock dW))))])]), (lo22, 2, List.map aN (List.set a0.inputs (Int.toNat k5) (aY.mk (gD a0.inputs k5).clock dW))), (lo27, 1, List.map (eL aC) (out3 ++ ([dN]))), (lo7, 1, [(eI t4)])]) [0, 1, 2, 3] (by decide) (by kernel_rfl)
        exact aI (aZ (aG (⟨rfl, _, _, _, _, _, bA, hO, h1⟩)))
      refine aP ?_
      refine aU aF 10 ?_
      refine bN 3 ?_
      refine nY 0 lo0p 1 0 (.agg [(.msl 2 lo13 0 (List.length a0.inputs))]) (.msl 2 lo13 0 (List.length a0.inputs)) [(.agg [(.msl 2 lo13 0 (List.length a0.inputs))])] hO rfl ?_
      obtain ⟨c29, h1⟩ := bJ h1
      refine rB 7 [0 ≤ t22 ∧ t22 < (lN a0.inputs)] ⟨c29, trivial⟩ ?_
      refine nY 1 lo13 2 (0 + Int.toNat t22) (aN (gD a0.inputs t22)) (eL aC ((gD a0.inputs t22).held)) (List.map aN a0.inputs) hO (cG c29) ?_
      refine bE ?_
      refine bS [] [(33, (eL aC ((gD a0.inputs t22).held))), (34, (eI (lN ((gD a0.inputs t22).held)))), (35, (eI (0 : Int)))] ?_
      refine bU 2 ?_
      refine dJ [(0, (.lp lo0p 0 0)), (3, (.msl 1 lo14 0 (List.length out3))), (4, (.lp lo7 0 0)), (5, (eI t22)), (6, (.lp lo18 0 0)), (7, (.lp lo19 0 0)), (8, (.fn (.func 22) [] [(.lp lo7 0 0), (.lp lo18 0 0), (.lp lo19 0 0)])), (21, (eI t21)), (22, (eI t22)), (33, (eL aC ((gD a0.inputs t22).held))), (34, (eI (lN ((gD a0.inputs t22).held)))), (35, (eI (0 : Int)))] ?_
      refine cR (fun T H => ∃ a0 : aV, ∃ out3 : List (List aB), ∃ t4 : Int, ∃ k5 : Int, ∃ dN : List aB, ∃ dW : List aB, ∃ t33 : (List aB), ∃ t34 : Int, ∃ t35 : Int, ∃ lo34 : Nat, ∃ lo35 : Nat, ∃ lo36 : Nat, ∃ lo37 : Nat, Has T [(0, (.lp lo0p 0 0)), (3, (.msl 1 lo35 0 (List.length out3))), (4, (.lp lo7 0 0)), (5, (eI k5)), (6, (.lp lo18 0 0)), (7, (.lp lo19 0 0)), (8, (.fn (.func 22) [] [(.lp lo7 0 0), (.lp lo18 0 0), (.lp lo19 0 0)])), (21, (eI t21)), (22, (eI t22)), (33, (eL aC t33)), (34, (eI t34)), (35, (eI t35))] ∧ aL ⟨Fh, Fe, Fg⟩ H [(lo0p, 1, [(.agg [(.msl 2 lo34 0 (List.length a0.inputs))])]), (lo34, 2, List.map aN a0.inputs), (lo35, 1, List.map (eL aC) out3), (lo7, 1, [(eI t4)]), (lo18, 1, [(.msl 3 lo36 0 (List.length dN))]), (lo36, 3, List.map aC dN), (lo19, 1, [(.msl 3 lo37 0 (List.length dW))]), (lo37, 3, List.map aC dW)] ∧ nP a0 out3 t4 k5 dN dW t21 t22 t33 t34 t35 = some out1) ?_ ⟨a0, out3, t4, t22, ([] : List aB), ([] : List aB), (gD a0.inputs t22).held, (lN ((gD a0.inputs t22).held)), (0 : Int), lo13, lo14, lo20, lo21, bA, hO, h1⟩
      clear hO h1
      rintro T H ⟨a0, out3, t4, k5, dN, dW, t33, t34, t35, lo34, lo35, lo36, lo37, hT, hO, h1⟩
      refine bD hT ?_
      clear hT
      unfold nP at h1
      obtain ⟨rr1, hl1, h1⟩ := bB h1
      refine eS (fun (s : aV × List (List aB) × Int × List aB × List aB × Int) T H => ∃ lo34 : Nat, ∃ lo35 : Nat, ∃ lo36 : Nat, ∃ lo37 : Nat, Has T [(0, (.lp lo0p 0 0)), (3, (.msl 1 lo35 0 (List.length s.2.1))), (4, (.lp lo7 0 0)), (5, (eI k5)), (6, (.lp lo18 0 0)), (7, (.lp lo19 0 0)), (8, (.fn (.func 22) [] [(.lp lo7 0 0), (.lp lo18 0 0), (.lp lo19 0 0)])), (21, (eI t21)), (22, (eI t22)), (33, (eL aC t33)), (34, (eI t34)), (35, (eI s.2.2.2.2.2))] ∧ aL ⟨Fh, Fe, Fg⟩ H [(lo0p, 1, [(.agg [(.msl 2 lo34 0 (List.length s.1.inputs))])]), (lo34, 2, List.map aN s.1.inputs), (lo35, 1, List.map (eL aC) s.2.1), (lo7, 1, [(eI s.2.2.1)]), (lo18, 1, [(.msl 3 lo36 0 (List.length s.2.2.2.1))]), (lo36, 3, List.map aC s.2.2.2.1), (lo19, 1, [(.msl 3 lo37 0 (List.length s.2.2.2.2.1))]), (lo37, 3, List.map aC s.2.2.2.2.1)]) hl1 ⟨lo34, lo35, lo36, lo37, bA, hO⟩ ?_
      clear hO
      rintro k1 s out2 T H ⟨lo34, lo35, lo36, lo37, hT, hO⟩ h2 ho1
      obtain ⟨a0, out3, t4, dN, dW, t35⟩ := s
      replace h2 : fV k5 t21 t22 t33 t34 a0 out3 t4 dN dW t35 = some out2 := h2
      try dsimp only at hT
      refine bD hT ?_
      clear hT
      unfold fV at h2
      refine aT aF 1 [] [(36, (aK (decide (t35 < t34))))] ?_
      refine aP ?_
      refine bL h2 (fun h2 => ?_) (fun h2 => ?_)
      · refine bP ?_
        refine bK [(0, (.lp lo0p 0 0)), (3, (.msl 1 lo35 0 (List.length out3))), (4, (.lp lo7 0 0)), (5, (eI k5)), (6, (.lp lo18 0 0)), (7, (.lp lo19 0 0)), (8, (.fn (.func 22) [] [(.lp lo7 0 0), (.lp lo18 0 0), (.lp lo19 0 0)])), (21, (eI t21)), (22, (eI t22)), (33, (eL aC t33)), (34, (eI t34)), (35, (eI t35))] ?_
        refine aP ?_
        refine bU 3 ?_
        refine aP ?_
        refine aU aF 4 ?_
        obtain ⟨c39, h2⟩ := bJ h2
        refine rB 2 [0 ≤ t35 ∧ t35 < (lN t33)] ⟨c39, trivial⟩ ?_
        refine BU 3 (.agg [(.sl true 0 (fun _ => .bad)), (eI 0), (eI 0)]) (aC (aB.mk ([]) 0 0)) (by kernel_rfl) (by kernel_rfl) (by kernel_rfl) (LW (xs := [(.sl true 0 (fun _ => .bad)), (eI 0), (eI 0)]) (ys := [(eL aO ([])), (eI 0), (eI 0)]) ⟨pE, aS.refl _, aS.refl _, trivial⟩) (by kernel_rfl) (by kernel_rfl) hO ?_
        intro lo40 H hO
        refine mZ 8 lo40 3 0 (aC (aB.mk ([]) 0 0)) (aC (gD t33 t35)) [(aC (aB.mk ([]) 0 0))] [(lo0p, 1, [(.agg [(.msl 2 lo34 0 (List.length a0.inputs))])]), (lo34, 2, List.map aN a0.inputs), (lo35, 1, List.map (eL aC) out3), (lo7, 1, [(eI t4)]), (lo18, 1, [(.msl 3 lo36 0 (List.length dN))]), (lo36, 3, List.map aC dN), (lo19, 1, [(.msl 3 lo37 0 (List.length dW))]), (lo37, 3, List.map aC dW), (lo40, 3, [(aC (gD t33 t35))])] hO rfl (by kernel_rfl) ?_
        intro H hO
        refine cL ?_
        refine bS [] [(10, (.lp lo40 0 0))] ?_
        refine aU aF 3 ?_
        refine bN 1 ?_
        refine nY 8 lo40 3 0 (aC (gD t33 t35)) (aC (gD t33 t35)) [(aC (gD t33 t35))] hO rfl ?_
        obtain ⟨x41, hx42, h2⟩ := bB h2
        refine vS [(lo0p, 1, [(.agg [(.msl 2 lo34 0 (List.length a0.inputs))])]), (lo34, 2, List.map aN a0.inputs), (lo35, 1, List.map (eL aC) out3), (lo40, 3, [(aC (gD t33 t35))])] [3, 4, 5, 6, 7, 0, 1, 2, 8] (wK (gD t33 t35) lo7 t4 lo18 lo36 dN lo19 lo37 dW _ hx42) hO ?_
        intro r45 L46 H hP47 hO
        obtain ⟨lo43, lo44, rfl, rfl⟩ := hP47
        replace hO : aL ⟨Fh, Fe, Fg⟩ H [(lo7, 1, [(eI x41.1)]), (lo18, 1, [(.msl 3 lo43 0 (List.length x41.2.1))]), (lo43, 3, List.map aC x41.2.1), (lo19, 1, [(.msl 3 lo44 0 (List.length x41.2.2))]), (lo44, 3, List.map aC x41.2.2), (lo0p, 1, [(.agg [(.msl 2 lo34 0 (List.length a0.inputs))])]), (lo34, 2, List.map aN a0.inputs), (lo35, 1, List.map (eL aC) out3), (lo40, 3, [(aC (gD t33 t35))])] := hO
        refine cL ?_
        refine dL [(0, (.lp lo0p 0 0)), (3, (.msl 1 lo35 0 (List.length out3))), (4, (.lp lo7 0 0)), (5, (eI k5)), (6, (.lp lo18 0 0)), (7, (.lp lo19 0 0)), (8, (.fn (.func 22) [] [(.lp lo7 0 0), (.lp lo18 0 0), (.lp lo19 0 0)])), (21, (eI t21)), (22, (eI t22)), (33, (eL aC t33)), (34, (eI t34)), (35, (eI t35))] ?_
        replace hO := hO.pick (L' := [(lo0p, 1, [(.agg [(.msl 2 lo34 0 (List.length a0.inputs))])]), (lo34, 2, List.map aN a0.inputs), (lo35, 1, List.map (eL aC) out3), (lo7, 1, [(eI x41.1)]), (lo18, 1, [(.msl 3 lo43 0 (List.length x41.2.1))]), (lo43, 3, List.map aC x41.2.1), (lo19, 1, [(.msl 3 lo44 0 (List.length x41.2.2))]), (lo44, 3, List.map aC x41.2.2)]) [5, 6, 7, 0, 1, 2, 3, 4] (by decide) (by kernel_rfl)
        refine aI (aZ (aG (?_)))
        refine aU aF 2 ?_
        refine bE ?_
        exact aI (aG (⟨rfl, _, (oI h2).symm, _, _, _, _, bA, hO⟩))
      refine eR 2 ?_
      obtain rfl := oI h2
      obtain rfl : _ = rr1 := ho1
      replace h1 : lR a0 out3 t4 k5 dN dW t21 t22 = some out1 := h1
      exact aI (aX (aX (bT (aG (⟨rfl, _, _, _, _, _, _, _, _, _, _, bA, hO, h1⟩)))))
    refine eR 0 ?_
    replace hO := hO.pick (L' := [(lo0p, 1, [(.agg [(.msl 2 lo13 0 (List.length a0.inputs))])]), (lo13, 2, List.map aN a0.inputs), (lo14, 1, List.map (eL aC) out3)]) [0, 1, 2] (by decide) (by kernel_rfl)
    obtain rfl := oI h1
    obtain rfl : _ = rr0 := ho0
    replace h0 : nS a0 out3 = some r := h0
    exact aI (aX (aX (bT (aG (⟨rfl, _, _, _, _, bA, hO, h0⟩)))))

theorem xI (lo0p : Nat) (bG : Nat) (a0 : aV) (r : Int) (h0 : jO a0 = some r) : qD Try.prog 8 [(.lp lo0p 0 0)] [(lo0p, 1, [(.agg [(.msl 2 bG 0 (List.length a0.inputs))])]), (bG, 2, List.map aN a0.inputs)] (fun x L => x = (eI r) ∧ L = [(lo0p, 1, [(.agg [(.msl 2 bG 0 (List.length a0.inputs))])]), (bG, 2, List.map aN a0.inputs)]) := by
  intro F H0 hO
  obtain ⟨Fh, Fe, Fg⟩ := F
  refine cJ Try.func8 ?_
  unfold jO at h0
  refine aT aF 1 [] [] ?_
  refine aT aF 1 [] [(3, (eI (0 : Int)))] ?_
  refine aP ?_
  refine aP ?_
  refine aU aF 2 ?_
  refine bN 1 ?_
  refine BP false ?_
  refine cL ?_
  refine bS [] [(7, (aK false))] ?_
  refine mR (false) (fun hc1 => ?_) (fun hc1 => ?_)
  · cases hc1
  · refine bP ?_
    refine bK [(0, (.lp lo0p 0 0)), (3, (eI (0 : Int)))] ?_
    refine dB (fun T H => ∃ n3 : Int, Has T [(0, (.lp lo0p 0 0)), (3, (eI n3))] ∧ aL ⟨Fh, Fe, Fg⟩ H [(lo0p, 1, [(.agg [(.msl 2 bG 0 (List.length a0.inputs))])]), (bG, 2, List.map aN a0.inputs)] ∧ pR a0 n3 = some r) ?_ ?_
    · clear hO h0
      rintro T H ⟨n3, hT, hO, h0⟩
      refine bD hT ?_
      clear hT
      unfold pR at h0
      refine aT aF 2 [3] [(2, (eI n3))] ?_
      refine bM ?_
      obtain rfl := oI h0
      exact aI (qL hO ⟨rfl, rfl⟩)
    refine aP ?_
    refine aU aF 6 ?_
    refine bN 3 ?_
    refine nY 0 lo0p 1 0 (.agg [(.msl 2 bG 0 (List.length a0.inputs))]) (.msl 2 bG 0 (List.length a0.inputs)) [(.agg [(.msl 2 bG 0 (List.length a0.inputs))])] hO rfl ?_
    refine bE ?_
    refine bS [] [(12, (.msl 2 bG 0 (List.length a0.inputs))), (13, (eI (lN a0.inputs))), (14, (eI (0 : Int)))] ?_
    refine bU 0 ?_
    refine dJ [(0, (.lp lo0p 0 0)), (3, (eI (0 : Int))), (12, (.msl 2 bG 0 (List.length a0.inputs))), (13, (eI (lN a0.inputs))), (14, (eI (0 : Int)))] ?_
    refine cR (fun T H => ∃ n3 : Int, ∃ t13 : Int, ∃ t14 : Int, Has T [(0, (.lp lo0p 0 0)), (3, (eI n3)), (12, (.msl 2 bG 0 (List.length a0.inputs))), (13, (eI t13)), (14, (eI t14))] ∧ aL ⟨Fh, Fe, Fg⟩ H [(lo0p, 1, [(.agg [(.msl 2 bG 0 (List.length a0.inputs))])]), (bG, 2, List.map aN a0.inputs)] ∧ pQ a0 n3 t13 t14 = some r) ?_ ⟨(0 : Int), (lN a0.inputs), (0 : Int), bA, hO, h0⟩
    clear hO h0
    rintro T H ⟨n3, t13, t14, hT, hO, h0⟩
    refine bD hT ?_
    clear hT
    unfold pQ at h0
    obtain ⟨rr0, hl0, h0⟩ := bB h0
    refine eS (fun (s : Int × Int) T H => Has T [(0, (.lp lo0p 0 0)), (3, (eI s.1)), (12, (.msl 2 bG 0 (List.length a0.inputs))), (13, (eI t13)), (14, (eI s.2))] ∧ aL ⟨Fh, Fe, Fg⟩ H [(lo0p, 1, [(.agg [(.msl 2 bG 0 (List.length a0.inputs))])]), (bG, 2, List.map aN a0.inputs)]) hl0 ⟨bA, hO⟩ ?_
    clear hO
    rintro k0 s out1 T H ⟨hT, hO⟩ h1 ho0
    obtain ⟨n3, t14⟩ := s
    replace h1 : lO a0 t13 n3 t14 = some out1 := h1
    try dsimp only at hT
    refine bD hT ?_
    clear hT
    unfold lO at h1
    refine aT aF 1 [] [(15, (aK (decide (t14 < t13))))] ?_
    refine aP ?_
    refine bL h1 (fun h1 => ?_) (fun h1 => ?_)
    · refine bP ?_
      refine bK [(0, (.lp lo0p 0 0)), (3, (eI n3)), (12, (.msl 2 bG 0 (List.length a0.inputs))), (13, (eI t13)), (14, (eI t14))] ?_
      refine aP ?_
      refine bU 1 ?_
      refine aP ?_
      refine aU aF 4 ?_
      obtain ⟨c3, h1⟩ := bJ h1
      refine rB 1 [0 ≤ t14 ∧ t14 < (lN a0.inputs)] ⟨c3, trivial⟩ ?_
      refine nY 1 bG 2 (0 + Int.toNat t14) (aN (gD a0.inputs t14)) (aN (gD a0.inputs t14)) (List.map aN a0.inputs) hO (cG c3) ?_
      refine BU 2 (.agg [(eI 0), (.sl true 0 (fun _ => .bad))]) (aN (aY.mk 0 ([]))) (by kernel_rfl) (by kernel_rfl) (by kernel_rfl) (LW (xs := [(eI 0), (.sl true 0 (fun _ => .bad))]) (ys := [(eI 0), (eL aC ([]))]) ⟨aS.refl _, pE, trivial⟩) (by kernel_rfl) (by kernel_rfl) hO ?_
      intro lo4 H hO
      refine mZ 2 lo4 2 0 (aN (aY.mk 0 ([]))) (aN (gD a0.inputs t14)) [(aN (aY.mk 0 ([])))] [(lo0p, 1, [(.agg [(.msl 2 bG 0 (List.length a0.inputs))])]), (bG, 2, List.map aN a0.inputs), (lo4, 2, [(aN (gD a0.inputs t14))])] hO rfl (by kernel_rfl) ?_
      intro H hO
      refine cL ?_
      refine bS [] [(5, (.lp lo4 0 0))] ?_
      refine aU aF 6 ?_
      refine bN 2 ?_
      refine nY 2 lo4 2 0 (aN (gD a0.inputs t14)) (eL aC ((gD a0.inputs t14).held)) [(aN (gD a0.inputs t14))] hO rfl ?_
      refine bE ?_
      refine dL [(0, (.lp lo0p 0 0)), (3, (eI (wR (n3 + (lN ((gD a0.inputs t14).held)))))), (12, (.msl 2 bG 0 (List.length a0.inputs))), (13, (eI t13)), (14, (eI t14))] ?_
      replace hO := hO.pick (L' := [(lo0p, 1, [(.agg [(.msl 2 bG 0 (List.length a0.inputs))])]), (bG, 2, List.map aN a0.inputs)]) [0, 1] (by decide) (by kernel_rfl)
      refine aI (aZ (aG (?_)))
      refine aU aF 2 ?_
      refine bE ?_
      exact aI (aG (⟨rfl, _, (oI h1).symm, bA, hO⟩))
    refine eR 0 ?_
    obtain rfl := oI h1
    obtain rfl : _ = rr0 := ho0
    replace h0 : pR a0 n3 = some r := h0
    exact aI (aX (aX (bT (aG (⟨rfl, _, bA, hO, h0⟩)))))

theorem DE  (r : Bool) (h0 : qT  = some r) : cF Try.prog 6 [] (aK r) := by
  intro H0
  refine cJ Try.func6 ?_
  have hO := aL.start H0
  unfold qT at h0
  refine bX aF 1 [] ?_
  refine aP ?_
  refine aU aF 3 ?_
  refine bN 1 ?_
  refine sL [(aO (aH.mk (1 : Int) (1 : Int) ByteArray.empty))] 3 ?_
  refine bE ?_
  refine cT (l := [(1, (eL aO ([aH.mk (1 : Int) (1 : Int) ByteArray.empty])))]) ⟨[(1, (lI [(aO (aH.mk (1 : Int) (1 : Int) ByteArray.empty))]))], by kernel_rfl, rfl, ⟨HW (l := [aH.mk (1 : Int) (1 : Int) ByteArray.empty]), trivial⟩⟩ ?_
  refine aI (aG (?_))
  refine aP ?_
  refine aU aF 6 ?_
  obtain ⟨⟨oa1, oe2⟩, hx3, h0⟩ := bB h0
  refine vS [] [] (FW (2 : Int) _ hx3) hO ?_
  intro r4 L5 H hP6 hO
  rcases oa1 with _ | a9
  · obtain ⟨rfl, rfl⟩ := hP6
    replace hO : aL ⟨H0, [], []⟩ H [] := hO
    replace h0 : (none) = some r := h0
    refine bE ?_
    refine bS [] [(2, (.lit (.pointer none))), (3, (eI oe2))] ?_
    refine aP ?_
    refine aU aF 6 ?_
    refine bN 3 ?_
    refine sL [(aC (aB.mk ([aH.mk (1 : Int) (1 : Int) ByteArray.empty]) (2 : Int) (1 : Int)))] 3 ?_
    cases h0
  · obtain ⟨lo7, lo8, rfl, rfl⟩ := hP6
    replace hO : aL ⟨H0, [], []⟩ H [(lo7, 1, [(.agg [(.msl 2 lo8 0 (List.length a9.inputs))])]), (lo8, 2, List.map aN a9.inputs)] := hO
    replace h0 : ((lF a9 (0 : Int) ([aB.mk ([aH.mk (1 : Int) (1 : Int) ByteArray.empty]) (2 : Int) (1 : Int)])).bind fun x10 => (dZ x10.2 (0 : Int) (5 : Int)).bind fun x16 => (dI x16.2).bind fun x22 => (dZ x22.2 (1 : Int) (3 : Int)).bind fun x28 => (dI x28.2).bind fun x34 => bI ((((((((decide (oe2 = (0 : Int))) && (decide (x10.1 = (0 : Int)))) && (decide (x16.1 = (0 : Int)))) && (decide (x28.1 = (0 : Int)))) && (decide ((lN x22.1) = (2 : Int))))) = true → 0 ≤ (0 : Int) ∧ (0 : Int) < (lN x22.1))) <| bI ((((((((((decide (oe2 = (0 : Int))) && (decide (x10.1 = (0 : Int)))) && (decide (x16.1 = (0 : Int)))) && (decide (x28.1 = (0 : Int)))) && (decide ((lN x22.1) = (2 : Int)))) && (decide ((lN (gD x22.1 (0 : Int))) = (0 : Int)))) && (decide ((lN x34.1) = (2 : Int))))) = true → 0 ≤ (0 : Int) ∧ (0 : Int) < (lN x34.1))) <| bI (((((((((((decide (oe2 = (0 : Int))) && (decide (x10.1 = (0 : Int)))) && (decide (x16.1 = (0 : Int)))) && (decide (x28.1 = (0 : Int)))) && (decide ((lN x22.1) = (2 : Int)))) && (decide ((lN (gD x22.1 (0 : Int))) = (0 : Int)))) && (decide ((lN x34.1) = (2 : Int)))) && (decide ((lN (gD x34.1 (0 : Int))) = (1 : Int))))) = true → 0 ≤ (0 : Int) ∧ (0 : Int) < (lN x34.1))) <| bI (((((((((((decide (oe2 = (0 : Int))) && (decide (x10.1 = (0 : Int)))) && (decide (x16.1 = (0 : Int)))) && (decide (x28.1 = (0 : Int)))) && (decide ((lN x22.1) = (2 : Int)))) && (decide ((lN (gD x22.1 (0 : Int))) = (0 : Int)))) && (decide ((lN x34.1) = (2 : Int)))) && (decide ((lN (gD x34.1 (0 : Int))) = (1 : Int))))) = true → 0 ≤ (0 : Int) ∧ (0 : Int) < (lN (gD x34.1 (0 : Int))))) <| (cond (((((((((decide (oe2 = (0 : Int))) && (decide (x10.1 = (0 : Int)))) && (decide (x16.1 = (0 : Int)))) && (decide (x28.1 = (0 : Int)))) && (decide ((lN x22.1) = (2 : Int)))) && (decide ((lN (gD x22.1 (0 : Int))) = (0 : Int)))) && (decide ((lN x34.1) = (2 : Int)))) && (decide ((lN (gD x34.1 (0 : Int))) = (1 : Int)))) && (decide (((gD (gD x34.1 (0 : Int)) (0 : Int)).At) = (2 : Int)))) (eA x34.2) (some 0)).bind fun x44 => (cond ((((((((((decide (oe2 = (0 : Int))) && (decide (x10.1 = (0 : Int)))) && (decide (x16.1 = (0 : Int)))) && (decide (x28.1 = (0 : Int)))) && (decide ((lN x22.1) = (2 : Int)))) && (decide ((lN (gD x22.1 (0 : Int))) = (0 : Int)))) && (decide ((lN x34.1) = (2 : Int)))) && (decide ((lN (gD x34.1 (0 : Int))) = (1 : Int)))) && (decide (((gD (gD x34.1 (0 : Int)) (0 : Int)).At) = (2 : Int)))) && (decide (x44 = (3 : Int)))) (jO x34.2) (some 0)).bind fun x49 => some (((((((((((decide (oe2 = (0 : Int))) && (decide (x10.1 = (0 : Int)))) && (decide (x16.1 = (0 : Int)))) && (decide (x28.1 = (0 : Int)))) && (decide ((lN x22.1) = (2 : Int)))) && (decide ((lN (gD x22.1 (0 : Int))) = (0 : Int)))) && (decide ((lN x34.1) = (2 : Int)))) && (decide ((lN (gD x34.1 (0 : Int))) = (1 : Int)))) && (decide (((gD (gD x34.1 (0 : Int)) (0 : Int)).At) = (2 : Int)))) && (decide (x44 = (3 : Int)))) && (decide (x49 = (0 : Int))))) = some r := h0
    refine bE ?_
    refine bS [] [(2, (.lp lo7 0 0)), (3, (eI oe2))] ?_
    refine aP ?_
    refine aU aF 6 ?_
    refine bN 3 ?_
    refine sL [(aC (aB.mk ([aH.mk (1 : Int) (1 : Int) ByteArray.empty]) (2 : Int) (1 : Int)))] 3 ?_
    obtain ⟨x10, hx11, h0⟩ := bB h0
    refine vS [] [0, 1] (@qD.sub _ _ [(.lp lo7 0 0), (eI (0 : Int)), (lI [(aC (aB.mk ([aH.mk (1 : Int) (1 : Int) ByteArray.empty]) (2 : Int) (1 : Int)))])] _ _ _ (xX lo7 lo8 a9 (0 : Int) ([aB.mk ([aH.mk (1 : Int) (1 : Int) ByteArray.empty]) (2 : Int) (1 : Int)]) _ hx11) ⟨aS.refl _, aS.refl _, HW (l := [aB.mk ([aH.mk (1 : Int) (1 : Int) ByteArray.empty]) (2 : Int) (1 : Int)]), trivial⟩) hO ?_
    intro r13 L14 H hP15 hO
    obtain ⟨lo12, rfl, rfl⟩ := hP15
    replace hO : aL ⟨H0, [], []⟩ H [(lo7, 1, [(.agg [(.msl 2 lo12 0 (List.length x10.2.inputs))])]), (lo12, 2, List.map aN x10.2.inputs)] := hO
    refine bE ?_
    refine bS [1] [(4, (eI x10.1))] ?_
    refine aP ?_
    refine aU aF 3 ?_
    refine bN 1 ?_
    obtain ⟨x16, hx17, h0⟩ := bB h0
    refine vS [] [0, 1] (pS lo7 lo12 x10.2 (0 : Int) (5 : Int) _ hx17) hO ?_
    intro r19 L20 H hP21 hO
    obtain ⟨lo18, rfl, rfl⟩ := hP21
    replace hO : aL ⟨H0, [], []⟩ H [(lo7, 1, [(.agg [(.msl 2 lo18 0 (List.length x16.2.inputs))])]), (lo18, 2, List.map aN x16.2.inputs)] := hO
    refine bE ?_
    refine bS [] [(5, (eI x16.1))] ?_
    refine aP ?_
    refine aU aF 3 ?_
    refine bN 1 ?_
    obtain ⟨x22, hx23, h0⟩ := bB h0
    refine vS [] [0, 1] (qP lo7 lo18 x16.2 _ hx23) hO ?_
    intro r25 L26 H hP27 hO
    obtain ⟨lo24, rfl, rfl⟩ := hP27
    replace hO : aL ⟨H0, [], []⟩ H [(lo7, 1, [(.agg [(.msl 2 lo24 0 (List.length x22.2.inputs))])]), (lo24, 2, List.map aN x22.2.inputs)] := hO
    refine bE ?_
    refine bS [] [(6, (eL (eL aC) x22.1))] ?_
    refine aP ?_
    refine aU aF 3 ?_
    refine bN 1 ?_
    obtain ⟨x28, hx29, h0⟩ := bB h0
    refine vS [] [0, 1] (pS lo7 lo24 x22.2 (1 : Int) (3 : Int) _ hx29) hO ?_
    intro r31 L32 H hP33 hO
    obtain ⟨lo30, rfl, rfl⟩ := hP33
    replace hO : aL ⟨H0, [], []⟩ H [(lo7, 1, [(.agg [(.msl 2 lo30 0 (List.length x28.2.inputs))])]), (lo30, 2, List.map aN x28.2.inputs)] := hO
    refine bE ?_
    refine bK [(2, (.lp lo7 0 0)), (3, (eI oe2)), (4, (eI x10.1)), (5, (eI x16.1)), (6, (eL (eL aC) x22.1)), (7, (eI x28.1))] ?_
    refine aP ?_
    refine aU aF 3 ?_
    refine bN 1 ?_
    obtain ⟨x34, hx35, h0⟩ := bB h0
    refine vS [] [0, 1] (qP lo7 lo30 x28.2 _ hx35) hO ?_
    intro r37 L38 H hP39 hO
    obtain ⟨lo36, rfl, rfl⟩ := hP39
    replace hO : aL ⟨H0, [], []⟩ H [(lo7, 1, [(.agg [(.msl 2 lo36 0 (List.length x34.2.inputs))])]), (lo36, 2, List.map aN x34.2.inputs)] := hO
    refine bE ?_
    refine bS [] [(8, (eL (eL aC) x34.1))] ?_
    refine aP ?_
    refine aU aF 58 ?_
    obtain ⟨c40, h0⟩ := bJ h0
    obtain ⟨c41, h0⟩ := bJ h0
    obtain ⟨c42, h0⟩ := bJ h0
    obtain ⟨c43, h0⟩ := bJ h0
    refine rB 49 [(((((((decide (oe2 = (0 : Int))) && (decide (x10.1 = (0 : Int)))) && (decide (x16.1 = (0 : Int)))) && (decide (x28.1 = (0 : Int)))) && (decide ((lN x22.1) = (2 : Int))))) = true → 0 ≤ (0 : Int) ∧ (0 : Int) < (lN x22.1)), (((((((((decide (oe2 = (0 : Int))) && (decide (x10.1 = (0 : Int)))) && (decide (x16.1 = (0 : Int)))) && (decide (x28.1 = (0 : Int)))) && (decide ((lN x22.1) = (2 : Int)))) && (decide ((lN (gD x22.1 (0 : Int))) = (0 : Int)))) && (decide ((lN x34.1) = (2 : Int))))) = true → 0 ≤ (0 : Int) ∧ (0 : Int) < (lN x34.1)), ((((((((((decide (oe2 = (0 : Int))) && (decide (x10.1 = (0 : Int)))) && (decide (x16.1 = (0 : Int)))) && (decide (x28.1 = (0 : Int)))) && (decide ((lN x22.1) = (2 : Int)))) && (decide ((lN (gD x22.1 (0 : Int))) = (0 : Int)))) && (decide ((lN x34.1) = (2 : Int)))) && (decide ((lN (gD x34.1 (0 : Int))) = (1 : Int))))) = true → 0 ≤ (0 : Int) ∧ (0 : Int) < (lN x34.1)), ((((((((((decide (oe2 = (0 : Int))) && (decide (x10.1 = (0 : Int)))) && (decide (x16.1 = (0 : Int)))) && (decide (x28.1 = (0 : Int)))) && (decide ((lN x22.1) = (2 : Int)))) && (decide ((lN (gD x22.1 (0 : Int))) = (0 : Int)))) && (decide ((lN x34.1) = (2 : Int)))) && (decide ((lN (gD x34.1 (0 : Int))) = (1 : Int))))) = true → 0 ≤ (0 : Int) ∧ (0 : Int) < (lN (gD x34.1 (0 : Int))))] ⟨c40, c41, c42, c43, trivial⟩ ?_
    obtain ⟨x44, hx45, h0⟩ := bB h0
    refine IN [(75, true)] (((((((((decide (oe2 = (0 : Int))) && (decide (x10.1 = (0 : Int)))) && (decide (x16.1 = (0 : Int)))) && (decide (x28.1 = (0 : Int)))) && (decide ((lN x22.1) = (2 : Int)))) && (decide ((lN (gD x22.1 (0 : Int))) = (0 : Int)))) && (decide ((lN x34.1) = (2 : Int)))) && (decide ((lN (gD x34.1 (0 : Int))) = (1 : Int)))) && (decide (((gD (gD x34.1 (0 : Int)) (0 : Int)).At) = (2 : Int)))) (eI 0) [] [0, 1] (fun hb => (pO lo7 lo36 x34.2 _ (zO hb hx45))) (fun hb => by have hz := oI (zW hb hx45); subst hz; exact ⟨rfl, rfl⟩) hO ?_
    intro r46 L47 H hP48 hO
    obtain ⟨rfl, rfl⟩ := hP48
    replace hO : aL ⟨H0, [], []⟩ H [(lo7, 1, [(.agg [(.msl 2 lo36 0 (List.length x34.2.inputs))])]), (lo36, 2, List.map aN x34.2.inputs)] := hO
    refine bN 54 ?_
    obtain ⟨x49, hx50, h0⟩ := bB h0
    refine IN [(80, true)] ((((((((((decide (oe2 = (0 : Int))) && (decide (x10.1 = (0 : Int)))) && (decide (x16.1 = (0 : Int)))) && (decide (x28.1 = (0 : Int)))) && (decide ((lN x22.1) = (2 : Int)))) && (decide ((lN (gD x22.1 (0 : Int))) = (0 : Int)))) && (decide ((lN x34.1) = (2 : Int)))) && (decide ((lN (gD x34.1 (0 : Int))) = (1 : Int)))) && (decide (((gD (gD x34.1 (0 : Int)) (0 : Int)).At) = (2 : Int)))) && (decide (x44 = (3 : Int)))) (eI 0) [] [0, 1] (fun hb => (xI lo7 lo36 x34.2 _ (zO hb hx50))) (fun hb => by have hz := oI (zW hb hx50); subst hz; exact ⟨rfl, rfl⟩) hO ?_
    intro r51 L52 H hP53 hO
    obtain ⟨rfl, rfl⟩ := hP53
    replace hO : aL ⟨H0, [], []⟩ H [(lo7, 1, [(.agg [(.msl 2 lo36 0 (List.length x34.2.inputs))])]), (lo36, 2, List.map aN x34.2.inputs)] := hO
    refine bE ?_
    refine dL [(0, (aK (((((((((((decide (oe2 = (0 : Int))) && (decide (x10.1 = (0 : Int)))) && (decide (x16.1 = (0 : Int)))) && (decide (x28.1 = (0 : Int)))) && (decide ((lN x22.1) = (2 : Int)))) && (decide ((lN (gD x22.1 (0 : Int))) = (0 : Int)))) && (decide ((lN x34.1) = (2 : Int)))) && (decide ((lN (gD x34.1 (0 : Int))) = (1 : Int)))) && (decide (((gD (gD x34.1 (0 : Int)) (0 : Int)).At) = (2 : Int)))) && (decide (x44 = (3 : Int)))) && (decide (x49 = (0 : Int))))))] ?_
    replace hO := hO.pick (L' := []) [] (by decide) (by kernel_rfl)
    refine aI (aG (?_))
    refine bM ?_
    obtain rfl := oI h0
    exact aI (Q_r hO)

theorem LG (l0 : (List cO)) (r : Bool) (h0 : rI l0 = some r) : cF Try.prog 10 [(eL cI l0)] (aK r) := by
  intro H0
  refine cJ Try.func10 ?_
  have hO := aL.start H0
  unfold rI at h0
  refine aT aF 1 [] [] ?_
  refine aT aF 3 [] [(3, (eI (lN l0)))] ?_
  refine dB (fun T H => ∃ n3 : Int, Has T [(3, (eI n3))] ∧ aL ⟨H0, [], []⟩ H [] ∧ tN n3 = some r) ?_ ?_
  · clear hO h0
    rintro T H ⟨n3, hT, hO, h0⟩
    refine bD hT ?_
    clear hT
    unfold tN at h0
    refine bX aF 3 [(2, (aK (decide (n3 ≤ (60 : Int)))))] ?_
    refine bM ?_
    obtain rfl := oI h0
    exact aI (Q_r hO)
  refine aT aF 1 [] [(4, (eI (0 : Int)))] ?_
  refine bU 0 ?_
  refine dJ [(0, (eL cI l0)), (3, (eI (lN l0))), (4, (eI (0 : Int)))] ?_
  refine cR (fun T H => ∃ n3 : Int, ∃ i4 : Int, Has T [(0, (eL cI l0)), (3, (eI n3)), (4, (eI i4))] ∧ aL ⟨H0, [], []⟩ H [] ∧ tP l0 n3 i4 = some r) ?_ ⟨(lN l0), (0 : Int), bA, hO, h0⟩
  clear hO h0
  rintro T H ⟨n3, i4, hT, hO, h0⟩
  refine bD hT ?_
  clear hT
  unfold tP at h0
  obtain ⟨rr0, hl0, h0⟩ := bB h0
  refine eS (fun (s : Int × Int) T H => Has T [(0, (eL cI l0)), (3, (eI s.1)), (4, (eI s.2))] ∧ aL ⟨H0, [], []⟩ H []) hl0 ⟨bA, hO⟩ ?_
  clear hO
  rintro k0 s out1 T H ⟨hT, hO⟩ h1 ho0
  obtain ⟨n3, i4⟩ := s
  replace h1 : nJ l0 n3 i4 = some out1 := h1
  try dsimp only at hT
  refine bD hT ?_
  clear hT
  unfold nJ at h1
  refine aP ?_
  refine aT aF 8 [] [(14, (aK ((decide (i4 < (lN l0))) && (decide (n3 ≤ (60 : Int))))))] ?_
  refine bL h1 (fun h1 => ?_) (fun h1 => ?_)
  · refine bP ?_
    refine bK [(0, (eL cI l0)), (3, (eI n3)), (4, (eI i4))] ?_
    refine aP ?_
    refine bU 1 ?_
    refine aU aF 10 ?_
    obtain ⟨c2, h1⟩ := bJ h1
    refine sH [0 ≤ i4 ∧ i4 < (lN l0)] ⟨c2, trivial⟩ ?_
    refine dL [(0, (eL cI l0)), (3, (eI (wR (n3 + (if (61 : Int) < (lN ((gD l0 i4).Edges)) then (61 : Int) else (lN ((gD l0 i4).Edges))))))), (4, (eI i4))] ?_
    refine aI (aZ (aG (?_)))
    refine aU aF 3 ?_
    refine bE ?_
    exact aI (aG (⟨rfl, _, (oI h1).symm, bA, hO⟩))
  refine eR 0 ?_
  obtain rfl := oI h1
  obtain rfl : _ = rr0 := ho0
  replace h0 : tN n3 = some r := h0
  exact aI (aX (aX (bT (aG (⟨rfl, _, bA, hO, h0⟩)))))

theorem OF (a0 : (List aH)) (b1 : (List aH)) (r : Bool) (h0 : tK a0 b1 = some r) : cF Try.prog 43 [(eL aO a0), (eL aO b1)] (aK r) := by
  intro H0
  refine cJ Try.func43 ?_
  have hO := aL.start H0
  unfold tK at h0
  refine aT aF 1 [] [] ?_
  refine aP ?_
  refine aT aF 5 [] [(10, (aK (!decide ((lN a0) = (lN b1)))))] ?_
  refine bL h0 (fun h0 => ?_) (fun h0 => ?_)
  · refine bX aF 1 [(4, (aK false))] ?_
    refine bM ?_
    obtain rfl := oI h0
    exact aI (aW (Q_r hO))
  refine bP ?_
  refine bK [(0, (eL aO a0)), (1, (eL aO b1))] ?_
  refine dB (fun T H => Has T [] ∧ aL ⟨H0, [], []⟩ H [] ∧ rS  = some r) ?_ ?_
  · clear hO h0
    rintro T H ⟨hT, hO, h0⟩
    refine bD hT ?_
    clear hT
    unfold rS at h0
    refine bX aF 1 [(4, (aK true))] ?_
    refine bM ?_
    obtain rfl := oI h0
    exact aI (Q_r hO)
  refine aT aF 1 [] [(5, (eI (0 : Int)))] ?_
  refine bU 0 ?_
  refine dJ [(0, (eL aO a0)), (1, (eL aO b1)), (5, (eI (0 : Int)))] ?_
  refine cR (fun T H => ∃ i5 : Int, Has T [(0, (eL aO a0)), (1, (eL aO b1)), (5, (eI i5))] ∧ aL ⟨H0, [], []⟩ H [] ∧ uO a0 b1 i5 = some r) ?_ ⟨(0 : Int), bA, hO, h0⟩
  clear hO h0
  rintro T H ⟨i5, hT, hO, h0⟩
  refine bD hT ?_
  clear hT
  unfold uO at h0
  obtain ⟨rr0, hl0, h0⟩ := bB h0
  refine eS (fun (s : Int) T H => Has T [(0, (eL aO a0)), (1, (eL aO b1)), (5, (eI s))] ∧ aL ⟨H0, [], []⟩ H []) hl0 ⟨bA, hO⟩ ?_
  clear hO
  rintro k0 s out1 T H ⟨hT, hO⟩ h1 ho0
  obtain ⟨i5, rfl⟩ : ∃ x, x = s := ⟨_, rfl⟩
  replace h1 : pX a0 b1 i5 = some out1 := h1
  refine bD hT ?_
  clear hT
  unfold pX at h1
  refine aP ?_
  refine aT aF 4 [] [(14, (aK (decide (i5 < (lN a0)))))] ?_
  refine bL h1 (fun h1 => ?_) (fun h1 => ?_)
  · refine bP ?_
    refine bK [(0, (eL aO a0)), (1, (eL aO b1)), (5, (eI i5))] ?_
    refine aP ?_
    refine bU 1 ?_
    refine aP ?_
    refine kH (jW [20, 24]) aF 9 ?_
    obtain ⟨c3, h1⟩ := bJ h1
    obtain ⟨c4, h1⟩ := bJ h1
    refine LL (Ds := [0 ≤ i5 ∧ i5 < (lN a0), 0 ≤ i5 ∧ i5 < (lN b1)]) (by kernel_rfl) ⟨c3, c4, trivial⟩ ?_
    refine bS [] [(25, (aK (!((decide (((gD a0 i5).Kind) = ((gD b1 i5).Kind))) && ((decide (((gD a0 i5).Num) = ((gD b1 i5).Num))) && ((oN ((gD a0 i5).Text) ((gD b1 i5).Text)) && true))))))] ?_
    refine bL h1 (fun h1 => ?_) (fun h1 => ?_)
    · refine bX aF 1 [(4, (aK false))] ?_
      refine bM ?_
      obtain rfl := oI h1
      obtain rfl : _ = rr0 := ho0
      replace h0 : some false = some r := h0
      obtain rfl := oI h0
      exact aI (bQ (aW (aW (bQ (aW (Q_r hO))))))
    refine bP ?_
    refine dL [(0, (eL aO a0)), (1, (eL aO b1)), (5, (eI i5))] ?_
    refine aI (aZ (aG (?_)))
    refine aU aF 3 ?_
    refine bE ?_
    exact aI (aG (⟨rfl, _, (oI h1).symm, bA, hO⟩))
  refine eR 0 ?_
  obtain rfl := oI h1
  obtain rfl : _ = rr0 := ho0
  replace h0 : rS  = some r := h0
  exact aI (aX (aX (bT (aG (⟨rfl, bA, hO, h0⟩)))))

end Go.Abs
namespace Go.Abs
open Go Go.RowKit Go.Proofs
theorem MU (a0 : (List aB)) (b1 : (List aB)) (r : Bool) (h0 : tD a0 b1 = some r) : cF Try.prog 21 [(eL aC a0), (eL aC b1)] (aK r) := by
  intro H0
  refine cJ Try.func21 ?_
  have hO := aL.start H0
  unfold tD at h0
  refine aT aF 1 [] [] ?_
  refine aP ?_
  refine aT aF 5 [] [(10, (aK (!decide ((lN a0) = (lN b1)))))] ?_
  refine bL h0 (fun h0 => ?_) (fun h0 => ?_)
  · refine bX aF 1 [(4, (aK false))] ?_
    refine bM ?_
    obtain rfl := oI h0
    exact aI (aW (Q_r hO))
  refine bP ?_
  refine bK [(0, (eL aC a0)), (1, (eL aC b1))] ?_
  refine dB (fun T H => Has T [] ∧ aL ⟨H0, [], []⟩ H [] ∧ rJ  = some r) ?_ ?_
  · clear hO h0
    rintro T H ⟨hT, hO, h0⟩
    refine bD hT ?_
    clear hT
    unfold rJ at h0
    refine bX aF 1 [(4, (aK true))] ?_
    refine bM ?_
    obtain rfl := oI h0
    exact aI (Q_r hO)
  refine aT aF 1 [] [(5, (eI (0 : Int)))] ?_
  refine bU 0 ?_
  refine dJ [(0, (eL aC a0)), (1, (eL aC b1)), (5, (eI (0 : Int)))] ?_
  refine cR (fun T H => ∃ i5 : Int, Has T [(0, (eL aC a0)), (1, (eL aC b1)), (5, (eI i5))] ∧ aL ⟨H0, [], []⟩ H [] ∧ uR a0 b1 i5 = some r) ?_ ⟨(0 : Int), bA, hO, h0⟩
  clear hO h0
  rintro T H ⟨i5, hT, hO, h0⟩
  refine bD hT ?_
  clear hT
  unfold uR at h0
  obtain ⟨rr0, hl0, h0⟩ := bB h0
  refine eS (fun (s : Int) T H => Has T [(0, (eL aC a0)), (1, (eL aC b1)), (5, (eI s))] ∧ aL ⟨H0, [], []⟩ H []) hl0 ⟨bA, hO⟩ ?_
  clear hO
  rintro k0 s out1 T H ⟨hT, hO⟩ h1 ho0
  obtain ⟨i5, rfl⟩ : ∃ x, x = s := ⟨_, rfl⟩
  replace h1 : pU a0 b1 i5 = some out1 := h1
  refine bD hT ?_
  clear hT
  unfold pU at h1
  refine aP ?_
  refine aT aF 4 [] [(14, (aK (decide (i5 < (lN a0)))))] ?_
  refine bL h1 (fun h1 => ?_) (fun h1 => ?_)
  · refine bP ?_
    refine bK [(0, (eL aC a0)), (1, (eL aC b1)), (5, (eI i5))] ?_
    refine aP ?_
    refine bU 1 ?_
    refine aP ?_
    obtain ⟨c3, h1⟩ := bJ h1
    obtain ⟨c4, h1⟩ := bJ h1
    obtain ⟨c5, h1⟩ := bJ h1
    obtain ⟨c6, h1⟩ := bJ h1
    obtain ⟨c7, h1⟩ := bJ h1
    obtain ⟨c8, h1⟩ := bJ h1
    obtain ⟨x9, hx10, h1⟩ := bB h1
    refine kH (jW [21, 26, 33, 38, 46, 51]) aF 38 ?_
    refine BI (K := fun T H => Has (lift T) [(0, (eL aC a0)), (1, (eL aC b1)), (5, (eI i5)), (54, (aK (((!decide (((gD a0 i5).At) = ((gD b1 i5).At))) || (!decide (((gD a0 i5).Net) = ((gD b1 i5).Net)))) || (!x9))))] ∧ aL ⟨H0, [], []⟩ H []) ?_ ?_
    · refine dA 12 [0 ≤ i5 ∧ i5 < (lN a0), 0 ≤ i5 ∧ i5 < (lN b1)] ⟨c3, c4, trivial⟩ ?_
      refine yN (t := 28) (e := !decide (((gD a0 i5).At) = ((gD b1 i5).At))) (by kernel_rfl) (fun hg11 => ?_) (fun hg11 => ?_)
      · refine oO ?_
        exact ⟨⟨[(0, (eL aC a0)), (1, (eL aC b1)), (5, (eI i5)), (54, (aK true))], by kernel_rfl, rfl, ⟨aS.refl _, aS.refl _, aS.refl _, aS.eq (congrArg aK (yU (yU hg11 rfl) rfl).symm), trivial⟩⟩, hO⟩
      refine dA 25 [0 ≤ i5 ∧ i5 < (lN a0), 0 ≤ i5 ∧ i5 < (lN b1)] ⟨(c5 (zP hg11)), (c6 (zP hg11)), trivial⟩ ?_
      refine yN (t := 41) (e := !decide (((gD a0 i5).Net) = ((gD b1 i5).Net))) (by kernel_rfl) (fun hg12 => ?_) (fun hg12 => ?_)
      · refine oO ?_
        exact ⟨⟨[(0, (eL aC a0)), (1, (eL aC b1)), (5, (eI i5)), (54, (aK true))], by kernel_rfl, rfl, ⟨aS.refl _, aS.refl _, aS.refl _, aS.eq (congrArg aK (yU (yU hg11 hg12) rfl).symm), trivial⟩⟩, hO⟩
      refine dA 35 [0 ≤ i5 ∧ i5 < (lN a0), 0 ≤ i5 ∧ i5 < (lN b1)] ⟨(c7 (zP (yU hg11 hg12))), (c8 (zP (yU hg11 hg12))), trivial⟩ ?_
      refine IW 43 [(eL aO ((gD a0 i5).Row)), (eL aO ((gD b1 i5).Row))] (aK x9) (by kernel_rfl) (by kernel_rfl) (OF ((gD a0 i5).Row) ((gD b1 i5).Row) _ (tI hx10 (zP (yU hg11 hg12)))) hO ?_
      intro H hO
      refine oO ?_
      exact ⟨⟨[(0, (eL aC a0)), (1, (eL aC b1)), (5, (eI i5)), (54, (aK (!x9)))], by kernel_rfl, rfl, ⟨aS.refl _, aS.refl _, aS.refl _, aS.eq (congrArg aK (yU (yU hg11 hg12) rfl).symm), trivial⟩⟩, hO⟩
    · rintro T H ⟨hT, hO⟩
      refine cT hT ?_
      clear hT
      refine aI (aG ?_)
      refine bL h1 (fun h1 => ?_) (fun h1 => ?_)
      · refine bX aF 1 [(4, (aK false))] ?_
        refine bM ?_
        obtain rfl := oI h1
        obtain rfl : _ = rr0 := ho0
        replace h0 : some false = some r := h0
        obtain rfl := oI h0
        exact aI (bQ (aW (aW (bQ (aW (Q_r hO))))))
      refine bP ?_
      refine dL [(0, (eL aC a0)), (1, (eL aC b1)), (5, (eI i5))] ?_
      refine aI (aZ (aG (?_)))
      refine aU aF 3 ?_
      refine bE ?_
      exact aI (aG (⟨rfl, _, (oI h1).symm, bA, hO⟩))
  refine eR 0 ?_
  obtain rfl := oI h1
  obtain rfl : _ = rr0 := ho0
  replace h0 : rJ  = some r := h0
  exact aI (aX (aX (bT (aG (⟨rfl, bA, hO, h0⟩)))))

theorem FK (l0 : (List cO)) (r : Bool) (h0 : qI l0 = some r) : cF Try.prog 4 [(eL cI l0)] (aK r) := by
  intro H0
  refine cJ Try.func4 ?_
  have hO := aL.start H0
  unfold qI at h0
  refine aT aF 1 [] [] ?_
  refine aP ?_
  refine aP ?_
  refine aU aF 3 ?_
  refine bN 1 ?_
  obtain ⟨x1, hx2, h0⟩ := bB h0
  refine eJ (LG l0 _ hx2) hO ?_
  intro H hO
  refine bE ?_
  refine bS [] [(17, (aK (!x1)))] ?_
  refine bL h0 (fun h0 => ?_) (fun h0 => ?_)
  · refine aP ?_
    refine aU aF 2 ?_
    obtain ⟨x5, hx6, h0⟩ := bB h0
    refine eJ (DE  _ hx6) hO ?_
    intro H hO
    refine bE ?_
    refine bK [(2, (aK x5))] ?_
    refine bM ?_
    obtain rfl := oI h0
    exact aI (aW (Q_r hO))
  refine bP ?_
  refine bK [(0, (eL cI l0))] ?_
  refine aP ?_
  refine aU aF 6 ?_
  obtain ⟨⟨oa8, oe9⟩, hx10, h0⟩ := bB h0
  refine vS [] [] (FW (1 : Int) _ hx10) hO ?_
  intro r11 L12 H hP13 hO
  rcases oa8 with _ | a16
  · obtain ⟨rfl, rfl⟩ := hP13
    replace hO : aL ⟨H0, [], []⟩ H [] := hO
    replace h0 : (cond (!decide (oe9 = (0 : Int))) (some false) (none)) = some r := h0
    refine bE ?_
    refine bS [] [(3, (.lit (.pointer none))), (4, (eI oe9))] ?_
    refine aP ?_
    refine aT aF 2 [4] [(24, (aK (!decide (oe9 = (0 : Int)))))] ?_
    refine bL h0 (fun h0 => ?_) (fun h0 => ?_)
    · refine bX aF 1 [(2, (aK false))] ?_
      refine bM ?_
      obtain rfl := oI h0
      exact aI (aW (Q_r hO))
    refine bP ?_
    refine bK [(0, (eL cI l0)), (3, (.lit (.pointer none)))] ?_
    refine aP ?_
    refine aU aF 2 ?_
    refine sL [] 3 ?_
    refine bE ?_
    refine bS [] [(5, (.sl true 0 (fun _ => .bad)))] ?_
    refine aP ?_
    refine aU aF 2 ?_
    refine sL [] 3 ?_
    refine bE ?_
    refine bS [] [(6, (.sl true 0 (fun _ => .bad)))] ?_
    refine aT aF 1 [] [(7, (eI (0 : Int)))] ?_
    refine aP ?_
    refine aT aF 1 [] [(8, (eI (0 : Int)))] ?_
    refine bU 0 ?_
    cases h0
  · obtain ⟨lo14, lo15, rfl, rfl⟩ := hP13
    replace hO : aL ⟨H0, [], []⟩ H [(lo14, 1, [(.agg [(.msl 2 lo15 0 (List.length a16.inputs))])]), (lo15, 2, List.map aN a16.inputs)] := hO
    replace h0 : (cond (!decide (oe9 = (0 : Int))) (some false) (nX l0 a16 ([] : List aB) ([] : List aB) (0 : Int) (0 : Int))) = some r := h0
    refine bE ?_
    refine bS [] [(3, (.lp lo14 0 0)), (4, (eI oe9))] ?_
    refine aP ?_
    refine aT aF 2 [4] [(24, (aK (!decide (oe9 = (0 : Int)))))] ?_
    refine bL h0 (fun h0 => ?_) (fun h0 => ?_)
    · refine aP ?_
      refine aU aF 1 ?_
      refine bE ?_
      refine dL [(2, (aK false))] ?_
      replace hO := hO.pick (L' := []) [] (by decide) (by kernel_rfl)
      refine aI (aG (?_))
      refine bM ?_
      obtain rfl := oI h0
      exact aI (aW (Q_r hO))
    refine bP ?_
    refine bK [(0, (eL cI l0)), (3, (.lp lo14 0 0))] ?_
    refine aP ?_
    refine aU aF 2 ?_
    refine sL [] 3 ?_
    refine bE ?_
    refine bS [] [(5, (.sl true 0 (fun _ => .bad)))] ?_
    refine aP ?_
    refine aU aF 2 ?_
    refine sL [] 3 ?_
    refine bE ?_
    refine bS [] [(6, (.sl true 0 (fun _ => .bad)))] ?_
    refine aT aF 1 [] [(7, (eI (0 : Int)))] ?_
    refine dB (fun T H => ∃ a3 : aV, ∃ put5 : List aB, ∃ got6 : List aB, ∃ lo19 : Nat, ∃ lo20 : Nat, ∃ lo21 : Nat, Has T [(3, (.lp lo14 0 0)), (5, (.msl 3 lo20 0 (List.length put5))), (6, (.msl 3 lo21 0 (List.length got6)))] ∧ aL ⟨H0, [], []⟩ H [(lo14, 1, [(.agg [(.msl 2 lo19 0 (List.length a3.inputs))])]), (lo19, 2, List.map aN a3.inputs), (lo20, 3, List.map aC put5), (lo21, 3, List.map aC got6)] ∧ oE a3 put5 got6 = some r) ?_ ?_
    · clear hO h0
      rintro T H ⟨a3, put5, got6, lo19, lo20, lo21, hT, hO, h0⟩
      refine bD hT ?_
      clear hT
      unfold oE at h0
      refine aP ?_
      refine aU aF 7 ?_
      refine xN (e := aC) put5 2 5 3 lo20 (List.length put5) [(lo14, 1, [(.agg [(.msl 2 lo19 0 (List.length a3.inputs))])]), (lo19, 2, List.map aN a3.inputs), (lo21, 3, List.map aC got6)] (by kernel_rfl) hO (by kernel_rfl) (by kernel_rfl) (by kernel_rfl) (by kernel_rfl) ?_
      intro H hO
      refine bN 1 ?_
      obtain ⟨x22, hx23, h0⟩ := bB h0
      refine eJ (AG put5 _ hx23) hO ?_
      intro H hO
      refine bE ?_
      refine bS [5] [(11, (eL aC x22.1)), (12, (eI x22.2))] ?_
      refine aP ?_
      refine aU aF 7 ?_
      refine xN (e := aC) got6 2 6 3 lo21 (List.length got6) [(lo14, 1, [(.agg [(.msl 2 lo19 0 (List.length a3.inputs))])]), (lo19, 2, List.map aN a3.inputs)] (by kernel_rfl) hO (by kernel_rfl) (by kernel_rfl) (by kernel_rfl) (by kernel_rfl) ?_
      intro H hO
      refine bN 1 ?_
      obtain ⟨x25, hx26, h0⟩ := bB h0
      refine eJ (AG got6 _ hx26) hO ?_
      intro H hO
      refine bE ?_
      refine bS [6] [(13, (eL aC x25.1)), (14, (eI x25.2))] ?_
      refine aP ?_
      refine aU aF 20 ?_
      obtain ⟨x28, hx29, h0⟩ := bB h0
      refine eJ (DE  _ hx29) hO ?_
      intro H hO
      refine bN 3 ?_
      obtain ⟨x31, hx32, h0⟩ := bB h0
      refine IN [(152, true)] x28 (eI 0) [] [0, 1] (fun hb => (xI lo14 lo19 a3 _ (zO hb hx32))) (fun hb => by have hz := oI (zW hb hx32); subst hz; exact ⟨rfl, rfl⟩) hO ?_
      intro r33 L34 H hP35 hO
      obtain ⟨rfl, rfl⟩ := hP35
      replace hO : aL ⟨H0, [], []⟩ H [(lo14, 1, [(.agg [(.msl 2 lo19 0 (List.length a3.inputs))])]), (lo19, 2, List.map aN a3.inputs)] := hO
      refine bN 15 ?_
      obtain ⟨x36, hx37, h0⟩ := bB h0
      refine tO [(163, true), (160, false), (157, true)] 21 [(eL aC x22.1), (eL aC x25.1)] (aK x36) ((decide (x25.2 = (0 : Int))) && ((!(!decide (x22.2 = (0 : Int)))) && ((x28 && (decide (x31 = (0 : Int))))))) (by kernel_rfl) (by kernel_rfl) (by kernel_rfl) (fun hb38 => (MU x22.1 x25.1 _ (tI hx37 hb38))) hO ?_
      intro H hO
      refine bE ?_
      refine dL [(2, (aK ((x28 && (decide (x31 = (0 : Int)))) && ((!decide (x22.2 = (0 : Int))) || ((decide (x25.2 = (0 : Int))) && x36)))))] ?_
      replace hO := hO.pick (L' := []) [] (by decide) (by kernel_rfl)
      refine aI (aG (?_))
      refine bM ?_
      obtain rfl := oI h0
      exact aI (Q_r hO)
    refine aT aF 1 [] [(8, (eI (0 : Int)))] ?_
    refine bU 0 ?_
    refine dJ [(0, (eL cI l0)), (3, (.lp lo14 0 0)), (5, (.sl true 0 (fun _ => .bad))), (6, (.sl true 0 (fun _ => .bad))), (7, (eI (0 : Int))), (8, (eI (0 : Int)))] ?_
    refine EW (el := (fun _ => .bad)) 2 5 3 hO (by kernel_rfl) ?_
    intro aAP H121 hO
    refine EW (el := (fun _ => .bad)) 3 6 3 hO (by kernel_rfl) ?_
    intro aAN H123 hO
    refine cR (fun T H => ∃ a3 : aV, ∃ put5 : List aB, ∃ got6 : List aB, ∃ was7 : Int, ∃ i8 : Int, ∃ lo42 : Nat, ∃ lo43 : Nat, ∃ lo44 : Nat, Has T [(0, (eL cI l0)), (3, (.lp lo14 0 0)), (5, (.msl 3 lo43 0 (List.length put5))), (6, (.msl 3 lo44 0 (List.length got6))), (7, (eI was7)), (8, (eI i8))] ∧ aL ⟨H0, [], []⟩ H [(lo14, 1, [(.agg [(.msl 2 lo42 0 (List.length a3.inputs))])]), (lo42, 2, List.map aN a3.inputs), (lo43, 3, List.map aC put5), (lo44, 3, List.map aC got6)] ∧ nX l0 a3 put5 got6 was7 i8 = some r) ?_ ⟨a16, ([] : List aB), ([] : List aB), (0 : Int), (0 : Int), lo15, aAP, aAN, bA, hO, h0⟩
    clear hO h0
    rintro T H ⟨a3, put5, got6, was7, i8, lo42, lo43, lo44, hT, hO, h0⟩
    refine bD hT ?_
    clear hT
    unfold nX at h0
    obtain ⟨rr0, hl0, h0⟩ := bB h0
    refine eS (fun (s : aV × List aB × List aB × Int × Int) T H => ∃ lo42 : Nat, ∃ lo43 : Nat, ∃ lo44 : Nat, Has T [(0, (eL cI l0)), (3, (.lp lo14 0 0)), (5, (.msl 3 lo43 0 (List.length s.2.1))), (6, (.msl 3 lo44 0 (List.length s.2.2.1))), (7, (eI s.2.2.2.1)), (8, (eI s.2.2.2.2))] ∧ aL ⟨H0, [], []⟩ H [(lo14, 1, [(.agg [(.msl 2 lo42 0 (List.length s.1.inputs))])]), (lo42, 2, List.map aN s.1.inputs), (lo43, 3, List.map aC s.2.1), (lo44, 3, List.map aC s.2.2.1)]) hl0 ⟨lo42, lo43, lo44, bA, hO⟩ ?_
    clear hO
    rintro k0 s out1 T H ⟨lo42, lo43, lo44, hT, hO⟩ h1 ho0
    obtain ⟨a3, put5, got6, was7, i8⟩ := s
    replace h1 : jN l0 a3 put5 got6 was7 i8 = some out1 := h1
    try dsimp only at hT
    refine bD hT ?_
    clear hT
    unfold jN at h1
    refine aP ?_
    refine aT aF 4 [] [(30, (aK (decide (i8 < (lN l0)))))] ?_
    refine bL h1 (fun h1 => ?_) (fun h1 => ?_)
    · refine bP ?_
      refine bK [(0, (eL cI l0)), (3, (.lp lo14 0 0)), (5, (.msl 3 lo43 0 (List.length put5))), (6, (.msl 3 lo44 0 (List.length got6))), (7, (eI was7)), (8, (eI i8))] ?_
      refine dB (fun T H => ∃ a3 : aV, ∃ put5 : List aB, ∃ got6 : List aB, ∃ was7 : Int, ∃ lo46 : Nat, ∃ lo47 : Nat, ∃ lo48 : Nat, Has T [(0, (eL cI l0)), (3, (.lp lo14 0 0)), (5, (.msl 3 lo47 0 (List.length put5))), (6, (.msl 3 lo48 0 (List.length got6))), (7, (eI was7)), (8, (eI i8))] ∧ aL ⟨H0, [], []⟩ H [(lo14, 1, [(.agg [(.msl 2 lo46 0 (List.length a3.inputs))])]), (lo46, 2, List.map aN a3.inputs), (lo47, 3, List.map aC put5), (lo48, 3, List.map aC got6)] ∧ mA l0 a3 put5 got6 was7 i8 = some out1) ?_ ?_
      · clear hO h1
        rintro T H ⟨a3, put5, got6, was7, lo46, lo47, lo48, hT, hO, h1⟩
        refine bD hT ?_
        clear hT
        unfold mA at h1
        refine aU aF 3 ?_
        refine bE ?_
        exact aI (aG (⟨rfl, _, (oI h1).symm, _, _, _, bA, hO⟩))
      refine bU 1 ?_
      refine dB (fun T H => ∃ a3 : aV, ∃ put5 : List aB, ∃ got6 : List aB, ∃ lo49 : Nat, ∃ lo50 : Nat, ∃ lo51 : Nat, Has T [(0, (eL cI l0)), (3, (.lp lo14 0 0)), (5, (.msl 3 lo50 0 (List.length put5))), (6, (.msl 3 lo51 0 (List.length got6))), (7, (eI was7)), (8, (eI i8))] ∧ aL ⟨H0, [], []⟩ H [(lo14, 1, [(.agg [(.msl 2 lo49 0 (List.length a3.inputs))])]), (lo49, 2, List.map aN a3.inputs), (lo50, 3, List.map aC put5), (lo51, 3, List.map aC got6)] ∧ lZ l0 a3 put5 got6 was7 i8 = some out1) ?_ ?_
      · clear hO h1
        rintro T H ⟨a3, put5, got6, lo49, lo50, lo51, hT, hO, h1⟩
        refine bD hT ?_
        clear hT
        unfold lZ at h1
        refine dB (fun T H => ∃ a3 : aV, ∃ put5 : List aB, ∃ got6 : List aB, ∃ lo52 : Nat, ∃ lo53 : Nat, ∃ lo54 : Nat, Has T [(0, (eL cI l0)), (3, (.lp lo14 0 0)), (5, (.msl 3 lo53 0 (List.length put5))), (6, (.msl 3 lo54 0 (List.length got6))), (7, (eI was7)), (8, (eI i8))] ∧ aL ⟨H0, [], []⟩ H [(lo14, 1, [(.agg [(.msl 2 lo52 0 (List.length a3.inputs))])]), (lo52, 2, List.map aN a3.inputs), (lo53, 3, List.map aC put5), (lo54, 3, List.map aC got6)] ∧ mC l0 a3 put5 got6 was7 i8 = some out1) ?_ ?_
        · clear hO h1
          rintro T H ⟨a3, put5, got6, lo52, lo53, lo54, hT, hO, h1⟩
          refine bD hT ?_
          clear hT
          unfold mC at h1
          refine aP ?_
          refine aU aF 21 ?_
          obtain ⟨c55, h1⟩ := bJ h1
          obtain ⟨c56, h1⟩ := bJ h1
          refine sH [0 ≤ i8 ∧ i8 < (lN l0), (((!decide (((gD l0 i8).Kind) = (0 : Int)))) = true → 0 ≤ i8 ∧ i8 < (lN l0))] ⟨c55, c56, trivial⟩ ?_
          refine bS [] [(89, (aK (((!decide (((gD l0 i8).Kind) = (0 : Int))) && (!decide (((gD l0 i8).Kind) = (1 : Int)))) || (decide (i8 = (wR ((lN l0) - (1 : Int))))))))] ?_
          refine bL h1 (fun h1 => ?_) (fun h1 => ?_)
          · refine aP ?_
            refine aP ?_
            refine aU aF 10 ?_
            refine bN 7 ?_
            obtain ⟨x58, hx59, h1⟩ := bB h1
            refine IN [(95, true)] (decide (i8 = (wR ((lN l0) - (1 : Int))))) (eI 0) [(lo53, 3, List.map aC put5), (lo54, 3, List.map aC got6)] [0, 1, 2, 3] (fun hb => (pS lo14 lo52 a3 (0 : Int) (1125899906842624 : Int) _ (zO hb hx59))) (fun hb => by have hz := oI (zW hb hx59); subst hz; exact ⟨lo52, rfl, rfl⟩) hO ?_
            intro r61 L62 H hP63 hO
            obtain ⟨lo60, rfl, rfl⟩ := hP63
            replace hO : aL ⟨H0, [], []⟩ H [(lo14, 1, [(.agg [(.msl 2 lo60 0 (List.length x58.2.inputs))])]), (lo60, 2, List.map aN x58.2.inputs), (lo53, 3, List.map aC put5), (lo54, 3, List.map aC got6)] := hO
            refine bE ?_
            refine bS [89] [(99, (aK ((decide (i8 = (wR ((lN l0) - (1 : Int))))) && (!decide (x58.1 = (0 : Int))))))] ?_
            refine bL h1 (fun h1 => ?_) (fun h1 => ?_)
            · refine aP ?_
              refine aU aF 1 ?_
              refine bE ?_
              refine dL [(2, (aK false))] ?_
              replace hO := hO.pick (L' := []) [] (by decide) (by kernel_rfl)
              refine aI (aG (?_))
              refine bM ?_
              obtain rfl := oI h1
              obtain rfl : _ = rr0 := ho0
              replace h0 : some false = some r := h0
              obtain rfl := oI h0
              exact aI (aW (bQ (aW (aW (bQ (aW (Q_r hO)))))))
            refine bP ?_
            refine bK [(0, (eL cI l0)), (3, (.lp lo14 0 0)), (5, (.msl 3 lo53 0 (List.length put5))), (6, (.msl 3 lo54 0 (List.length got6))), (7, (eI was7)), (8, (eI i8))] ?_
            refine aP ?_
            refine aU aF 3 ?_
            refine bN 1 ?_
            obtain ⟨x65, hx66, h1⟩ := bB h1
            refine vS [(lo53, 3, List.map aC put5), (lo54, 3, List.map aC got6)] [0, 1, 2, 3] (qP lo14 lo60 x58.2 _ hx66) hO ?_
            intro r68 L69 H hP70 hO
            obtain ⟨lo67, rfl, rfl⟩ := hP70
            replace hO : aL ⟨H0, [], []⟩ H [(lo14, 1, [(.agg [(.msl 2 lo67 0 (List.length x65.2.inputs))])]), (lo67, 2, List.map aN x65.2.inputs), (lo53, 3, List.map aC put5), (lo54, 3, List.map aC got6)] := hO
            refine bE ?_
            refine bS [] [(9, (eL (eL aC) x65.1))] ?_
            refine aP ?_
            refine aT aF 3 [] [(104, (aK (!decide ((lN x65.1) = (1 : Int)))))] ?_
            refine bL h1 (fun h1 => ?_) (fun h1 => ?_)
            · refine aP ?_
              refine aU aF 1 ?_
              refine bE ?_
              refine dL [(2, (aK false))] ?_
              replace hO := hO.pick (L' := []) [] (by decide) (by kernel_rfl)
              refine aI (aG (?_))
              refine bM ?_
              obtain rfl := oI h1
              obtain rfl : _ = rr0 := ho0
              replace h0 : some false = some r := h0
              obtain rfl := oI h0
              exact aI (aW (bQ (aW (aW (bQ (aW (Q_r hO)))))))
            refine bP ?_
            refine bK [(0, (eL cI l0)), (3, (.lp lo14 0 0)), (5, (.msl 3 lo53 0 (List.length put5))), (6, (.msl 3 lo54 0 (List.length got6))), (7, (eI was7)), (8, (eI i8)), (9, (eL (eL aC) x65.1))] ?_
            refine dB (fun T H => ∃ a3 : aV, ∃ put5 : List aB, ∃ got6 : List aB, ∃ x9 : (List (List aB)), ∃ lo72 : Nat, ∃ lo73 : Nat, ∃ lo74 : Nat, Has T [(0, (eL cI l0)), (3, (.lp lo14 0 0)), (5, (.msl 3 lo73 0 (List.length put5))), (6, (.msl 3 lo74 0 (List.length got6))), (8, (eI i8)), (9, (eL (eL aC) x9))] ∧ aL ⟨H0, [], []⟩ H [(lo14, 1, [(.agg [(.msl 2 lo72 0 (List.length a3.inputs))])]), (lo72, 2, List.map aN a3.inputs), (lo73, 3, List.map aC put5), (lo74, 3, List.map aC got6)] ∧ nW l0 a3 put5 got6 i8 x9 = some out1) ?_ ?_
            · clear hO h1
              rintro T H ⟨a3, put5, got6, x9, lo72, lo73, lo74, hT, hO, h1⟩
              refine bD hT ?_
              clear hT
              unfold nW at h1
              refine aP ?_
              refine aU aF 6 ?_
              obtain ⟨c75, h1⟩ := bJ h1
              refine rB 4 [0 ≤ (0 : Int) ∧ (0 : Int) < (lN x9)] ⟨c75, trivial⟩ ?_
              obtain ⟨c77, h1⟩ := bJ h1
              refine DS aC got6 (gD x9 (0 : Int)) 3 lo74 3 40 (eL aC (gD x9 (0 : Int))) (fun lo76 => [(lo14, 1, [(.agg [(.msl 2 lo72 0 (List.length a3.inputs))])]), (lo72, 2, List.map aN a3.inputs), (lo73, 3, List.map aC put5), (lo76, 3, List.map aC (got6 ++ (gD x9 (0 : Int))))]) hO (yM (fun _ => by kernel_rfl)) c77 ?_
              intro lo76 H hO
              refine bE ?_
              refine bS [6, 9] [(6, (.msl 3 lo76 0 (List.length (got6 ++ (gD x9 (0 : Int))))))] ?_
              refine aU aF 3 ?_
              refine bN 1 ?_
              obtain ⟨x78, hx79, h1⟩ := bB h1
              refine vS [(lo73, 3, List.map aC put5), (lo76, 3, List.map aC (got6 ++ (gD x9 (0 : Int))))] [0, 1, 2, 3] (pO lo14 lo72 a3 _ hx79) hO ?_
              intro r80 L81 H hP82 hO
              obtain ⟨rfl, rfl⟩ := hP82
              replace hO : aL ⟨H0, [], []⟩ H [(lo14, 1, [(.agg [(.msl 2 lo72 0 (List.length a3.inputs))])]), (lo72, 2, List.map aN a3.inputs), (lo73, 3, List.map aC put5), (lo76, 3, List.map aC (got6 ++ (gD x9 (0 : Int))))] := hO
              refine bE ?_
              exact aI (aZ (aG (⟨rfl, _, _, _, _, _, _, _, bA, hO, h1⟩)))
            refine aT aF 1 [] [(10, (eI (0 : Int)))] ?_
            refine bU 2 ?_
            refine dJ [(0, (eL cI l0)), (3, (.lp lo14 0 0)), (5, (.msl 3 lo53 0 (List.length put5))), (6, (.msl 3 lo54 0 (List.length got6))), (7, (eI was7)), (8, (eI i8)), (9, (eL (eL aC) x65.1)), (10, (eI (0 : Int)))] ?_
            refine cR (fun T H => ∃ a3 : aV, ∃ put5 : List aB, ∃ got6 : List aB, ∃ x9 : (List (List aB)), ∃ j10 : Int, ∃ lo86 : Nat, ∃ lo87 : Nat, ∃ lo88 : Nat, Has T [(0, (eL cI l0)), (3, (.lp lo14 0 0)), (5, (.msl 3 lo87 0 (List.length put5))), (6, (.msl 3 lo88 0 (List.length got6))), (7, (eI was7)), (8, (eI i8)), (9, (eL (eL aC) x9)), (10, (eI j10))] ∧ aL ⟨H0, [], []⟩ H [(lo14, 1, [(.agg [(.msl 2 lo86 0 (List.length a3.inputs))])]), (lo86, 2, List.map aN a3.inputs), (lo87, 3, List.map aC put5), (lo88, 3, List.map aC got6)] ∧ nZ l0 a3 put5 got6 was7 i8 x9 j10 = some out1) ?_ ⟨x65.2, put5, got6, x65.1, (0 : Int), lo67, lo53, lo54, bA, hO, h1⟩
            clear hO h1
            rintro T H ⟨a3, put5, got6, x9, j10, lo86, lo87, lo88, hT, hO, h1⟩
            refine bD hT ?_
            clear hT
            unfold nZ at h1
            obtain ⟨rr1, hl1, h1⟩ := bB h1
            refine eS (fun (s : aV × List aB × List aB × Int) T H => ∃ lo86 : Nat, ∃ lo87 : Nat, ∃ lo88 : Nat, Has T [(0, (eL cI l0)), (3, (.lp lo14 0 0)), (5, (.msl 3 lo87 0 (List.length s.2.1))), (6, (.msl 3 lo88 0 (List.length s.2.2.1))), (7, (eI was7)), (8, (eI i8)), (9, (eL (eL aC) x9)), (10, (eI s.2.2.2))] ∧ aL ⟨H0, [], []⟩ H [(lo14, 1, [(.agg [(.msl 2 lo86 0 (List.length s.1.inputs))])]), (lo86, 2, List.map aN s.1.inputs), (lo87, 3, List.map aC s.2.1), (lo88, 3, List.map aC s.2.2.1)]) hl1 ⟨lo86, lo87, lo88, bA, hO⟩ ?_
            clear hO
            rintro k1 s out2 T H ⟨lo86, lo87, lo88, hT, hO⟩ h2 ho1
            obtain ⟨a3, put5, got6, j10⟩ := s
            replace h2 : mE l0 was7 i8 x9 a3 put5 got6 j10 = some out2 := h2
            try dsimp only at hT
            refine bD hT ?_
            clear hT
            unfold mE at h2
            refine aP ?_
            refine aP ?_
            refine aU aF 6 ?_
            obtain ⟨c89, h2⟩ := bJ h2
            refine sH [0 ≤ (0 : Int) ∧ (0 : Int) < (lN x9)] ⟨c89, trivial⟩ ?_
            refine bS [] [(110, (aK (decide (j10 < (lN (gD x9 (0 : Int)))))))] ?_
            refine bL h2 (fun h2 => ?_) (fun h2 => ?_)
            · refine bP ?_
              refine bK [(0, (eL cI l0)), (3, (.lp lo14 0 0)), (5, (.msl 3 lo87 0 (List.length put5))), (6, (.msl 3 lo88 0 (List.length got6))), (7, (eI was7)), (8, (eI i8)), (9, (eL (eL aC) x9)), (10, (eI j10))] ?_
              refine aP ?_
              refine bU 3 ?_
              refine aP ?_
              obtain ⟨c91, h2⟩ := bJ h2
              obtain ⟨c92, h2⟩ := bJ h2
              obtain ⟨c93, h2⟩ := bJ h2
              obtain ⟨c94, h2⟩ := bJ h2
              obtain ⟨x95, hx96, h2⟩ := bB h2
              refine kH (jW [115, 119, 125, 129]) aF 21 ?_
              refine BI (K := fun T H => Has (lift T) [(0, (eL cI l0)), (3, (.lp lo14 0 0)), (5, (.msl 3 lo87 0 (List.length put5))), (6, (.msl 3 lo88 0 (List.length got6))), (7, (eI was7)), (8, (eI i8)), (9, (eL (eL aC) x9)), (10, (eI j10)), (133, (aK ((decide (((gD (gD x9 (0 : Int)) j10).At) < was7)) || (decide (x95 ≤ ((gD (gD x9 (0 : Int)) j10).At))))))] ∧ aL ⟨H0, [], []⟩ H [(lo14, 1, [(.agg [(.msl 2 lo86 0 (List.length a3.inputs))])]), (lo86, 2, List.map aN a3.inputs), (lo87, 3, List.map aC put5), (lo88, 3, List.map aC got6)]) ?_ ?_
              · refine dA 10 [0 ≤ (0 : Int) ∧ (0 : Int) < (lN x9), 0 ≤ j10 ∧ j10 < (lN (gD x9 (0 : Int)))] ⟨c91, c92, trivial⟩ ?_
                refine yN (t := 122) (e := decide (((gD (gD x9 (0 : Int)) j10).At) < was7)) (by kernel_rfl) (fun hg97 => ?_) (fun hg97 => ?_)
                · refine oO ?_
                  exact ⟨⟨[(0, (eL cI l0)), (3, (.lp lo14 0 0)), (5, (.msl 3 lo87 0 (List.length put5))), (6, (.msl 3 lo88 0 (List.length got6))), (7, (eI was7)), (8, (eI i8)), (9, (eL (eL aC) x9)), (10, (eI j10)), (133, (aK true))], by kernel_rfl, rfl, ⟨aS.refl _, aS.refl _, aS.refl _, aS.refl _, aS.refl _, aS.refl _, aS.refl _, aS.refl _, aS.eq (congrArg aK (yU hg97 rfl).symm), trivial⟩⟩, hO⟩
                refine dA 18 [0 ≤ (0 : Int) ∧ (0 : Int) < (lN x9), 0 ≤ j10 ∧ j10 < (lN (gD x9 (0 : Int)))] ⟨(c93 (zP hg97)), (c94 (zP hg97)), trivial⟩ ?_
                refine aA0 (x := (eI x95)) [(lo87, 3, List.map aC put5), (lo88, 3, List.map aC got6)] [0, 1, 2, 3] (pO lo14 lo86 a3 _ (tI hx96 (zP hg97))) hO ?_
                intro H hO
                refine oO ?_
                exact ⟨⟨[(0, (eL cI l0)), (3, (.lp lo14 0 0)), (5, (.msl 3 lo87 0 (List.length put5))), (6, (.msl 3 lo88 0 (List.length got6))), (7, (eI was7)), (8, (eI i8)), (9, (eL (eL aC) x9)), (10, (eI j10)), (133, (aK (decide (x95 ≤ ((gD (gD x9 (0 : Int)) j10).At)))))], by kernel_rfl, rfl, ⟨aS.refl _, aS.refl _, aS.refl _, aS.refl _, aS.refl _, aS.refl _, aS.refl _, aS.refl _, aS.eq (congrArg aK (yU hg97 rfl).symm), trivial⟩⟩, hO⟩
              · rintro T H ⟨hT, hO⟩
                refine cT hT ?_
                clear hT
                refine aI (aG ?_)
                refine bL h2 (fun h2 => ?_) (fun h2 => ?_)
                · refine aP ?_
                  refine aU aF 1 ?_
                  refine bE ?_
                  refine dL [(2, (aK false))] ?_
                  replace hO := hO.pick (L' := []) [] (by decide) (by kernel_rfl)
                  refine aI (aG (?_))
                  refine bM ?_
                  obtain rfl := oI h2
                  obtain rfl : _ = rr1 := ho1
                  replace h1 : some (.inr (.inr false)) = some out1 := h1
                  obtain rfl := oI h1
                  obtain rfl : _ = rr0 := ho0
                  replace h0 : some false = some r := h0
                  obtain rfl := oI h0
                  exact aI (bQ (aW (aW (bQ (aW (bQ (aW (aW (bQ (aW (Q_r hO)))))))))))
                refine bP ?_
                refine dL [(0, (eL cI l0)), (3, (.lp lo14 0 0)), (5, (.msl 3 lo87 0 (List.length put5))), (6, (.msl 3 lo88 0 (List.length got6))), (7, (eI was7)), (8, (eI i8)), (9, (eL (eL aC) x9)), (10, (eI j10))] ?_
                refine aI (aZ (aG (?_)))
                refine aU aF 3 ?_
                refine bE ?_
                exact aI (aG (⟨rfl, _, (oI h2).symm, _, _, _, bA, hO⟩))
            refine eR 2 ?_
            obtain rfl := oI h2
            obtain rfl : _ = rr1 := ho1
            replace h1 : nW l0 a3 put5 got6 i8 x9 = some out1 := h1
            exact aI (aX (aX (bT (aG (⟨rfl, _, _, _, _, _, _, _, bA, hO, h1⟩)))))
          refine bP ?_
          exact aI (aZ (aG (⟨rfl, _, _, _, _, _, _, _, bA, hO, h1⟩)))
        refine aP ?_
        refine aU aF 6 ?_
        obtain ⟨c99, h1⟩ := bJ h1
        refine sH [0 ≤ i8 ∧ i8 < (lN l0)] ⟨c99, trivial⟩ ?_
        refine bS [] [(61, (aK (decide (((gD l0 i8).Kind) = (1 : Int)))))] ?_
        refine bL h1 (fun h1 => ?_) (fun h1 => ?_)
        · refine aU aF 7 ?_
          obtain ⟨c101, h1⟩ := bJ h1
          refine rB 6 [0 ≤ i8 ∧ i8 < (lN l0)] ⟨c101, trivial⟩ ?_
          obtain ⟨x102, aAG, h1⟩ := bB h1
          refine vS [(lo50, 3, List.map aC put5), (lo51, 3, List.map aC got6)] [0, 1, 2, 3] (pS lo14 lo49 a3 (0 : Int) ((gD l0 i8).At) _ aAG) hO ?_
          intro r105 L106 H aAF hO
          obtain ⟨XZ, rfl, rfl⟩ := aAF
          replace hO : aL ⟨H0, [], []⟩ H [(lo14, 1, [(.agg [(.msl 2 XZ 0 (List.length x102.2.inputs))])]), (XZ, 2, List.map aN x102.2.inputs), (lo50, 3, List.map aC put5), (lo51, 3, List.map aC got6)] := hO
          refine cL ?_
          exact aI (aG (⟨rfl, _, _, _, _, _, _, bA, hO, h1⟩))
        refine bP ?_
        exact aI (aG (⟨rfl, _, _, _, _, _, _, bA, hO, h1⟩))
      refine aP ?_
      refine aU aF 16 ?_
      obtain ⟨c108, h1⟩ := bJ h1
      obtain ⟨c109, h1⟩ := bJ h1
      refine rB 13 [0 ≤ i8 ∧ i8 < (lN l0), (((decide (((gD l0 i8).Kind) = (0 : Int)))) = true → 0 ≤ i8 ∧ i8 < (lN l0))] ⟨c108, c109, trivial⟩ ?_
      obtain ⟨x110, XR, h1⟩ := bB h1
      refine IN [(39, true)] (decide (((gD l0 i8).Kind) = (0 : Int))) (eI 0) [(lo43, 3, List.map aC put5), (lo44, 3, List.map aC got6)] [0, 1, 2, 3] (fun hb => (xX lo14 lo42 a3 (0 : Int) ((gD l0 i8).Edges) _ (zO hb XR))) (fun hb => by have hz := oI (zW hb XR); subst hz; exact ⟨lo42, rfl, rfl⟩) hO ?_
      intro r113 L114 H aAT hO
      obtain ⟨LI, rfl, rfl⟩ := aAT
      replace hO : aL ⟨H0, [], []⟩ H [(lo14, 1, [(.agg [(.msl 2 LI 0 (List.length x110.2.inputs))])]), (LI, 2, List.map aN x110.2.inputs), (lo43, 3, List.map aC put5), (lo44, 3, List.map aC got6)] := hO
      refine bE ?_
      refine bS [] [(48, (aK ((decide (((gD l0 i8).Kind) = (0 : Int))) && (decide (x110.1 = (0 : Int))))))] ?_
      refine bL h1 (fun h1 => ?_) (fun h1 => ?_)
      · refine aU aF 8 ?_
        obtain ⟨c117, h1⟩ := bJ h1
        refine rB 6 [0 ≤ i8 ∧ i8 < (lN l0)] ⟨c117, trivial⟩ ?_
        obtain ⟨c119, h1⟩ := bJ h1
        refine DS aC put5 ((gD l0 i8).Edges) 2 lo43 3 40 (eL aC ((gD l0 i8).Edges)) (fun XY => [(lo14, 1, [(.agg [(.msl 2 LI 0 (List.length x110.2.inputs))])]), (LI, 2, List.map aN x110.2.inputs), (XY, 3, List.map aC (put5 ++ ((gD l0 i8).Edges))), (lo44, 3, List.map aC got6)]) hO (yM (fun _ => by kernel_rfl)) c119 ?_
        intro XY H hO
        refine bE ?_
        exact aI (aG (⟨rfl, _, _, _, _, _, _, bA, hO, h1⟩))
      refine bP ?_
      exact aI (aG (⟨rfl, _, _, _, _, _, _, bA, hO, h1⟩))
    refine eR 0 ?_
    obtain rfl := oI h1
    obtain rfl : _ = rr0 := ho0
    replace h0 : oE a3 put5 got6 = some r := h0
    exact aI (aX (aX (bT (aG (⟨rfl, _, _, _, _, _, _, bA, hO, h0⟩)))))

end Go.Abs
namespace Go.Abs
open Go Go.RowKit Go.Proofs
theorem DJ {H : Type} {enc : TypeId × Value → H} {w : World} : uS enc Try.prog w 53 aO zH :=
  zF Try.underlying53 (by kernel_rfl) (mK (c' := GC) (ok' := zH) (fun (a : Int) (b : Int × ByteArray × Unit) => (aH.mk a b.1 b.2.1 : aH)) (by kernel_rfl) (tF Try.underlying51) (mK (c' := fun (b : Int × ByteArray × Unit) => (V.cells (pH .i64 b.1) ++ (V.cells (wJ b.2.1) ++ []))) (ok' := fun b => (sJ b.1 ∧ ((fun s => s.size ≤ maxLen) b.2.1 ∧ True))) (fun a b => (a, b)) (by kernel_rfl) (tF Try.underlying3) (mK (c' := fun (b : ByteArray × Unit) => (V.cells (wJ b.1) ++ [])) (ok' := fun b => ((fun s => s.size ≤ maxLen) b.1 ∧ True)) (fun a b => (a, b)) (by kernel_rfl) (LU Try.underlying9) (CL ()) (fun _ _ => rfl) (fun _ _ h1 h2 => ⟨h1, h2⟩)) (fun _ _ => rfl) (fun _ _ h1 h2 => ⟨h1, h2⟩)) (fun _ _ => rfl) (fun _ _ h1 h2 => ⟨h1, h2⟩))

theorem FG {H : Type} {enc : TypeId × Value → H} {w : World} : uS enc Try.prog w 44 aC rW :=
  zF Try.underlying44 (by kernel_rfl) (mK (c' := HS) (ok' := rW) (fun (a : (List aH)) (b : Int × Int × Unit) => (aB.mk a b.1 b.2.1 : aB)) (by kernel_rfl) (FZ Try.underlying42 (by decide +kernel) (fun _ => by kernel_rfl) (fun _ => rfl) DJ (by kernel_rfl)) (mK (c' := fun (b : Int × Int × Unit) => (V.cells (pH .i64 b.1) ++ (V.cells (pH .i64 b.2.1) ++ []))) (ok' := fun b => (sJ b.1 ∧ (sJ b.2.1 ∧ True))) (fun a b => (a, b)) (by kernel_rfl) (tF Try.underlying3) (mK (c' := fun (b : Int × Unit) => (V.cells (pH .i64 b.1) ++ [])) (ok' := fun b => (sJ b.1 ∧ True)) (fun a b => (a, b)) (by kernel_rfl) (tF Try.underlying3) (CL ()) (fun _ _ => rfl) (fun _ _ h1 h2 => ⟨h1, h2⟩)) (fun _ _ => rfl) (fun _ _ h1 h2 => ⟨h1, h2⟩)) (fun _ _ => rfl) (fun _ _ h1 h2 => ⟨h1, h2⟩))

theorem FJ {H : Type} {enc : TypeId × Value → H} {w : World} : uS enc Try.prog w 36 cI xF :=
  zF Try.underlying36 (by kernel_rfl) (mK (c' := HI) (ok' := xF) (fun (a : Int) (b : Int × (List aB) × Int × Unit) => (cO.mk a b.1 b.2.1 b.2.2.1 : cO)) (by kernel_rfl) (tF Try.underlying3) (mK (c' := fun (b : Int × (List aB) × Int × Unit) => (V.cells (pH .i64 b.1) ++ (V.cells (eL aC b.2.1) ++ (V.cells (pH .i64 b.2.2.1) ++ [])))) (ok' := fun b => (sJ b.1 ∧ ((fun l => (∀ a ∈ l, rW a) ∧ l.length * 40 ≤ 140737488351232) b.2.1 ∧ (sJ b.2.2.1 ∧ True)))) (fun a b => (a, b)) (by kernel_rfl) (tF Try.underlying3) (mK (c' := fun (b : (List aB) × Int × Unit) => (V.cells (eL aC b.1) ++ (V.cells (pH .i64 b.2.1) ++ []))) (ok' := fun b => ((fun l => (∀ a ∈ l, rW a) ∧ l.length * 40 ≤ 140737488351232) b.1 ∧ (sJ b.2.1 ∧ True))) (fun a b => (a, b)) (by kernel_rfl) (FZ Try.underlying34 (by decide +kernel) (fun _ => by kernel_rfl) (fun _ => rfl) FG (by kernel_rfl)) (mK (c' := fun (b : Int × Unit) => (V.cells (pH .i64 b.1) ++ [])) (ok' := fun b => (sJ b.1 ∧ True)) (fun a b => (a, b)) (by kernel_rfl) (tF Try.underlying3) (CL ()) (fun _ _ => rfl) (fun _ _ h1 h2 => ⟨h1, h2⟩)) (fun _ _ => rfl) (fun _ _ h1 h2 => ⟨h1, h2⟩)) (fun _ _ => rfl) (fun _ _ h1 h2 => ⟨h1, h2⟩)) (fun _ _ => rfl) (fun _ _ h1 h2 => ⟨h1, h2⟩))

end Go.Abs
namespace Go.Abs
open Go
theorem jL {n : Int} (h1 : -9223372036854775808 ≤ n) (h2 : n ≤ 9223372036854775807) : IntKind.i64.wrap n = n := by
  simp only [IntKind.wrap, IntKind.bits, IntKind.signed]
  simp
  split <;> omega

def uP {α st R : Type} (step : st → α → Option (st ⊕ R)) (fin : st → R) : st → List α → Option R
  | s, [] => some (fin s)
  | s, a :: r => match step s a with
    | some (.inl s') => uP step fin s' r
    | some (.inr x) => some x
    | none => none

theorem RV {α st R : Type} {step : st → α → Option (st ⊕ R)} {fin : st → R} {s s' : st} {a : α} {r : List α} (h : step s a = some (.inl s')) : uP step fin s (a :: r) = uP step fin s' r := by
  simp only [uP, h]

theorem SS {α st R : Type} {step : st → α → Option (st ⊕ R)} {fin : st → R} {s : st} {x : R} {a : α} {r : List α} (h : step s a = some (.inr x)) : uP step fin s (a :: r) = some x := by
  simp only [uP, h]

theorem QJ {α S st R : Type} {body : S → Option (S ⊕ R)} {l : List α} (mk : st → Int → S) (step : st → α → Option (st ⊕ R)) (fin : st → R)
    (hn : ∀ (i : Nat) a s, l[i]? = some a → (∀ s', step s a = some (.inl s') → body (mk s i) = some (.inl (mk s' ((i + 1 : Nat) : Int)))) ∧ (∀ x, step s a = some (.inr x) → body (mk s i) = some (.inr x)))
    (he : ∀ s, body (mk s (l.length : Nat)) = some (.inr (fin s))) : ∀ (m k : Nat) (s : st) (r : R), l.length - k = m → k ≤ l.length → uP step fin s (l.drop k) = some r → lp body (mk s k) = some r
  | 0, k, s, r, hm, hk, h => by
    have : k = l.length := by omega
    subst this
    rw [List.drop_length] at h
    simp only [uP, Option.some.injEq] at h
    subst h
    exact cK (he s)
  | m + 1, k, s, r, hm, hk, h => by
    have hlt : k < l.length := by omega
    have hd : l.drop k = l[k] :: l.drop (k + 1) := List.drop_eq_getElem_cons hlt
    rw [hd] at h
    simp only [uP] at h
    obtain ⟨h1, h2⟩ := hn k l[k] s (List.getElem?_eq_getElem hlt)
    split at h
    · rename_i s' hs
      rw [eP (h1 s' hs)]
      exact QJ mk step fin hn he m (k + 1) s' r (by omega) (by omega) h
    · rename_i x hs
      simp at h; subst h
      exact cK (h2 x hs)
    · cases h

theorem WS {α S st R : Type} {body : S → Option (S ⊕ R)} {l : List α} (mk : st → Int → S) (step : st → α → Option (st ⊕ R)) (fin : st → R)
    (hn : ∀ (i : Nat) a s, l[i]? = some a → (∀ s', step s a = some (.inl s') → body (mk s i) = some (.inl (mk s' ((i + 1 : Nat) : Int)))) ∧ (∀ x, step s a = some (.inr x) → body (mk s i) = some (.inr x)))
    (he : ∀ s, body (mk s (l.length : Nat)) = some (.inr (fin s))) {s : st} {r : R} (h : uP step fin s l = some r) : lp body (mk s 0) = some r :=
  QJ mk step fin hn he _ 0 s r rfl (Nat.zero_le _) (by simpa using h)

theorem idx {α : Type} [Inhabited α] {l : List α} {i : Nat} {a : α} (h : l[i]? = some a) (hl : l.length < 4611686018427387904) :
    decide ((i : Int) < ((l.length : Nat) : Int)) = true ∧ (0 ≤ (i : Int) ∧ (i : Int) < ((l.length : Nat) : Int)) ∧ l.getD (Int.toNat (i : Int)) default = a ∧ IntKind.i64.wrap ((i : Int) + 1) = ((i + 1 : Nat) : Int) := by
  have hlt : i < l.length := (List.getElem?_eq_some_iff.1 h).1
  refine ⟨by simpa using hlt, ⟨by omega, by omega⟩, ?_, ?_⟩
  · rw [Int.toNat_natCast, List.getD_eq_getElem?_getD, h]; rfl
  · rw [jL (by omega) (by omega)]; omega

theorem jF {n : Nat} : decide (((n : Nat) : Int) < ((n : Nat) : Int)) = false := by simp

end Go.Abs
namespace Go.Abs
open Go
theorem drop_cons {α : Type} {l r : List α} {a : α} {k : Nat} (h : l.drop k = a :: r) : l[k]? = some a ∧ l.drop (k + 1) = r := by
  have hk : k < l.length := by
    apply Classical.byContradiction; intro hn
    rw [List.drop_eq_nil_of_le (by omega)] at h; cases h
  rw [List.drop_eq_getElem_cons hk] at h
  obtain ⟨h1, h2⟩ := List.cons.inj h
  exact ⟨by rw [List.getElem?_eq_getElem hk, h1], h2⟩

theorem VB {α S st R : Type} {body : S → Option (S ⊕ R)} {l : List α} (mk : st → Int → S) (G : st → List α → R) (Inv : st → List α → Prop)
    (hn : ∀ (i : Nat) a r s, l[i]? = some a → Inv s (a :: r) → (∃ s', body (mk s i) = some (.inl (mk s' ((i + 1 : Nat) : Int))) ∧ Inv s' r ∧ G s' r = G s (a :: r)) ∨ body (mk s i) = some (.inr (G s (a :: r))))
    (he : ∀ s, Inv s [] → body (mk s (l.length : Nat)) = some (.inr (G s []))) : ∀ (r : List α) (k : Nat) (s : st), l.drop k = r → k ≤ l.length → Inv s r → lp body (mk s k) = some (G s r)
  | [], k, s, hd, hk, hi => by
    have : k = l.length := by
      have := congrArg List.length hd
      simp only [List.length_drop, List.length_nil] at this; omega
    subst this
    exact cK (he s hi)
  | a :: r, k, s, hd, hk, hi => by
    obtain ⟨h1, h2⟩ := drop_cons hd
    have hlt : k < l.length := (List.getElem?_eq_some_iff.1 h1).1
    rcases hn k a r s h1 hi with ⟨s', hb, hi', hg⟩ | hb
    · rw [eP hb, VB mk G Inv hn he r (k + 1) s' h2 (by omega) hi', hg]
    · exact cK hb

theorem wP {α S st R : Type} {body : S → Option (S ⊕ R)} {l : List α} (mk : st → Int → S) (G : st → List α → R) (Inv : st → List α → Prop) (s : st)
    (hn : ∀ (i : Nat) a r s, l[i]? = some a → Inv s (a :: r) → (∃ s', body (mk s i) = some (.inl (mk s' ((i + 1 : Nat) : Int))) ∧ Inv s' r ∧ G s' r = G s (a :: r)) ∨ body (mk s i) = some (.inr (G s (a :: r))))
    (he : ∀ s, Inv s [] → body (mk s (l.length : Nat)) = some (.inr (G s []))) (hi : Inv s l) : lp body (mk s 0) = some (G s l) :=
  VB mk G Inv hn he l 0 s rfl (Nat.zero_le _) hi

theorem aAf {α S R : Type} {body : S → Option (S ⊕ R)} {l : List α} (mk : Int → S) (bad : α → Bool) (x y : R)
    (hn : ∀ (i : Nat) a, l[i]? = some a → body (mk i) = some (if bad a then .inr x else .inl (mk ((i + 1 : Nat) : Int))))
    (he : body (mk (l.length : Nat)) = some (.inr y)) : lp body (mk 0) = some (if l.any bad then x else y) := by
  refine wP (st := Unit) (fun _ i => mk i) (fun _ r => if r.any bad then x else y) (fun _ _ => True) () ?_ ?_ trivial
  · intro i a r s ha _
    have hb := hn i a ha
    cases h : bad a
    · left; refine ⟨(), ?_, trivial, ?_⟩
      · simpa [h] using hb
      · simp [List.any_cons, h]
    · right; simpa [h, List.any_cons] using hb
  · intro _ _; simpa using he

end Go.Abs
namespace Go.Abs
open Go
noncomputable def xQ {α : Type} [Inhabited α] (cmp3 : α → α → Option Int) (aA : List α) (a1 : Int) (b2 : Int) (i8 : Int) : Option ((List α × Int) ⊕ ((List α))) :=
  some (.inl (aA, IntKind.i64.wrap (i8 + (1 : Int))))

noncomputable def mB {α : Type} [Inhabited α] (cmp3 : α → α → Option Int) (a1 : Int) (b2 : Int) (i8 : Int) (aA : List α) (j9 : Int) : Option ((List α × Int) ⊕ ((List α))) :=
  bI ((((decide (a1 < j9))) = true → 0 ≤ j9 ∧ j9 < ((List.length aA : Nat) : Int))) <|
  bI ((((decide (a1 < j9))) = true → 0 ≤ (IntKind.i64.wrap (j9 - (1 : Int))) ∧ (IntKind.i64.wrap (j9 - (1 : Int))) < ((List.length aA : Nat) : Int))) <|
  (hU (decide (a1 < j9)) (cmp3 (List.getD aA (Int.toNat j9) default) (List.getD aA (Int.toNat (IntKind.i64.wrap (j9 - (1 : Int)))) default))).bind fun x3 =>
  cond ((decide (a1 < j9)) && (decide (x3 < (0 : Int))))
  (bI (0 ≤ (IntKind.i64.wrap (j9 - (1 : Int))) ∧ (IntKind.i64.wrap (j9 - (1 : Int))) < ((List.length aA : Nat) : Int)) <|
  bI (0 ≤ j9 ∧ j9 < ((List.length aA : Nat) : Int)) <|
  bI (0 ≤ j9 ∧ j9 < ((List.length aA : Nat) : Int)) <|
  bI (0 ≤ (IntKind.i64.wrap (j9 - (1 : Int))) ∧ (IntKind.i64.wrap (j9 - (1 : Int))) < ((List.length aA : Nat) : Int)) <|
  some (.inl (List.set (List.set aA (Int.toNat j9) (List.getD aA (Int.toNat (IntKind.i64.wrap (j9 - (1 : Int)))) default)) (Int.toNat (IntKind.i64.wrap (j9 - (1 : Int)))) (List.getD aA (Int.toNat j9) default), IntKind.i64.wrap (j9 - (1 : Int)))))
  (some (.inr aA))

noncomputable def xH {α : Type} [Inhabited α] (cmp3 : α → α → Option Int) (aA : List α) (a1 : Int) (b2 : Int) (i8 : Int) (j9 : Int) : Option ((List α × Int) ⊕ ((List α))) :=
  (lp (fun s => mB cmp3 a1 b2 i8 s.1 s.2) (aA, j9)).bind (fun rr => xQ cmp3 rr a1 b2 i8)

noncomputable def jT {α : Type} [Inhabited α] (cmp3 : α → α → Option Int) (a1 : Int) (b2 : Int) (aA : List α) (i8 : Int) : Option ((List α × Int) ⊕ ((List α))) :=
  cond (decide (i8 < b2))
  (xH cmp3 aA a1 b2 i8 i8)
  (some (.inr aA))

noncomputable def xL {α : Type} [Inhabited α] (cmp3 : α → α → Option Int) (aA : List α) (a1 : Int) (b2 : Int) (i8 : Int) : Option (List α) :=
  (lp (fun s => jT cmp3 a1 b2 s.1 s.2) (aA, i8)).bind (fun rr => some rr)

noncomputable def nH {α : Type} [Inhabited α] (aA : (List α)) (a1 : Int) (b2 : Int) (cmp3 : α → α → Option Int) : Option (List α) :=
  xL cmp3 aA a1 b2 (IntKind.i64.wrap (a1 + (1 : Int)))

noncomputable def oZ {α : Type} [Inhabited α] (cmp4 : α → α → Option Int) (a1 : Int) (b2 : Int) (n3 : Int) (aA : List α) (i10 : Int) : Option ((List α × Int) ⊕ ((List α))) :=
  cond (decide (i10 < n3))
  (bI (0 ≤ (IntKind.i64.wrap (b2 + i10)) ∧ (IntKind.i64.wrap (b2 + i10)) < ((List.length aA : Nat) : Int)) <|
  bI (0 ≤ (IntKind.i64.wrap (a1 + i10)) ∧ (IntKind.i64.wrap (a1 + i10)) < ((List.length aA : Nat) : Int)) <|
  bI (0 ≤ (IntKind.i64.wrap (a1 + i10)) ∧ (IntKind.i64.wrap (a1 + i10)) < ((List.length aA : Nat) : Int)) <|
  bI (0 ≤ (IntKind.i64.wrap (b2 + i10)) ∧ (IntKind.i64.wrap (b2 + i10)) < ((List.length aA : Nat) : Int)) <|
  some (.inl (List.set (List.set aA (Int.toNat (IntKind.i64.wrap (a1 + i10))) (List.getD aA (Int.toNat (IntKind.i64.wrap (b2 + i10))) default)) (Int.toNat (IntKind.i64.wrap (b2 + i10))) (List.getD aA (Int.toNat (IntKind.i64.wrap (a1 + i10))) default), IntKind.i64.wrap (i10 + (1 : Int)))))
  (some (.inr aA))

noncomputable def BC {α : Type} [Inhabited α] (cmp4 : α → α → Option Int) (aA : List α) (a1 : Int) (b2 : Int) (n3 : Int) (i10 : Int) : Option (List α) :=
  (lp (fun s => oZ cmp4 a1 b2 n3 s.1 s.2) (aA, i10)).bind (fun rr => some rr)

noncomputable def tE {α : Type} [Inhabited α] (aA : (List α)) (a1 : Int) (b2 : Int) (n3 : Int) (cmp4 : α → α → Option Int) : Option (List α) :=
  BC cmp4 aA a1 b2 n3 (0 : Int)

noncomputable def AM {α : Type} [Inhabited α] (cmp4 : α → α → Option Int) (aA : List α) (m2 : Int) (i10 : Int) : Option (List α) :=
  (tE aA (IntKind.i64.wrap (m2 - i10)) m2 i10 cmp4).bind fun x1 =>
  some x1

noncomputable def mJ {α : Type} [Inhabited α] (cmp4 : α → α → Option Int) (m2 : Int) (aA : List α) (i10 : Int) (j11 : Int) : Option ((List α × Int × Int) ⊕ ((List α × Int))) :=
  cond (!decide (i10 = j11))
  (cond (decide (j11 < i10))
  ((tE aA (IntKind.i64.wrap (m2 - i10)) m2 j11 cmp4).bind fun x4 =>
  some (.inl (x4, IntKind.i64.wrap (i10 - j11), j11)))
  ((tE aA (IntKind.i64.wrap (m2 - i10)) (IntKind.i64.wrap ((IntKind.i64.wrap (m2 + j11)) - i10)) i10 cmp4).bind fun x7 =>
  some (.inl (x7, i10, IntKind.i64.wrap (j11 - i10)))))
  (some (.inr (aA, i10)))

noncomputable def FT {α : Type} [Inhabited α] (cmp4 : α → α → Option Int) (aA : List α) (m2 : Int) (i10 : Int) (j11 : Int) : Option (List α) :=
  (lp (fun s => mJ cmp4 m2 s.1 s.2.1 s.2.2) (aA, i10, j11)).bind (fun rr => AM cmp4 rr.1 m2 rr.2)

noncomputable def zU {α : Type} [Inhabited α] (aA : (List α)) (a1 : Int) (m2 : Int) (b3 : Int) (cmp4 : α → α → Option Int) : Option (List α) :=
  FT cmp4 aA m2 (IntKind.i64.wrap (m2 - a1)) (IntKind.i64.wrap (b3 - m2))

noncomputable def xS {α : Type} [Inhabited α] (cmp4 : α → α → Option Int) (rec : (List α) → Int → Int → Int → Option (List α)) (aA : List α) (b3 : Int) (bR : Int) (dX : Int) : Option (List α) :=
  cond ((decide (bR < dX)) && (decide (dX < b3)))
  ((rec aA bR dX b3).bind fun x2 =>
  some x2)
  (some aA)

noncomputable def pZ {α : Type} [Inhabited α] (cmp4 : α → α → Option Int) (rec : (List α) → Int → Int → Int → Option (List α)) (aA : List α) (a1 : Int) (b3 : Int) (bR : Int) (aQ : Int) (dX : Int) : Option (List α) :=
  cond ((decide (a1 < aQ)) && (decide (aQ < bR)))
  ((rec aA a1 aQ bR).bind fun x6 =>
  xS cmp4 rec x6 b3 bR dX)
  (xS cmp4 rec aA b3 bR dX)

noncomputable def CV {α : Type} [Inhabited α] (cmp4 : α → α → Option Int) (rec : (List α) → Int → Int → Int → Option (List α)) (aA : List α) (a1 : Int) (m2 : Int) (b3 : Int) (bR : Int) (n19 : Int) (aQ : Int) : Option (List α) :=
  cond ((decide (aQ < m2)) && (decide (m2 < (IntKind.i64.wrap (n19 - aQ)))))
  ((zU aA aQ m2 (IntKind.i64.wrap (n19 - aQ)) cmp4).bind fun x10 =>
  pZ cmp4 rec x10 a1 b3 bR aQ (IntKind.i64.wrap (n19 - aQ)))
  (pZ cmp4 rec aA a1 b3 bR aQ (IntKind.i64.wrap (n19 - aQ)))

noncomputable def oJ {α : Type} [Inhabited α] (cmp4 : α → α → Option Int) (rec : (List α) → Int → Int → Int → Option (List α)) (a1 : Int) (m2 : Int) (b3 : Int) (bR : Int) (n19 : Int) (p22 : Int) (aA : List α) (aQ : Int) (r21 : Int) : Option ((List α × Int × Int) ⊕ ((List α × Int))) :=
  cond (decide (aQ < r21))
  (bI (0 ≤ (1 : Int)) <|
  bI (0 ≤ (IntKind.i64.wrap (p22 - (IntKind.i64.wrap (Int.fdiv (IntKind.u64.wrap (IntKind.i64.wrap (aQ + r21))) (2 ^ (min (Int.toNat (1 : Int)) 64)))))) ∧ (IntKind.i64.wrap (p22 - (IntKind.i64.wrap (Int.fdiv (IntKind.u64.wrap (IntKind.i64.wrap (aQ + r21))) (2 ^ (min (Int.toNat (1 : Int)) 64)))))) < ((List.length aA : Nat) : Int)) <|
  bI (0 ≤ (IntKind.i64.wrap (Int.fdiv (IntKind.u64.wrap (IntKind.i64.wrap (aQ + r21))) (2 ^ (min (Int.toNat (1 : Int)) 64)))) ∧ (IntKind.i64.wrap (Int.fdiv (IntKind.u64.wrap (IntKind.i64.wrap (aQ + r21))) (2 ^ (min (Int.toNat (1 : Int)) 64)))) < ((List.length aA : Nat) : Int)) <|
  (cmp4 (List.getD aA (Int.toNat (IntKind.i64.wrap (p22 - (IntKind.i64.wrap (Int.fdiv (IntKind.u64.wrap (IntKind.i64.wrap (aQ + r21))) (2 ^ (min (Int.toNat (1 : Int)) 64))))))) default) (List.getD aA (Int.toNat (IntKind.i64.wrap (Int.fdiv (IntKind.u64.wrap (IntKind.i64.wrap (aQ + r21))) (2 ^ (min (Int.toNat (1 : Int)) 64))))) default)).bind fun x17 =>
  cond (!(decide (x17 < (0 : Int))))
  (some (.inl (aA, IntKind.i64.wrap ((IntKind.i64.wrap (Int.fdiv (IntKind.u64.wrap (IntKind.i64.wrap (aQ + r21))) (2 ^ (min (Int.toNat (1 : Int)) 64)))) + (1 : Int)), r21)))
  (some (.inl (aA, aQ, IntKind.i64.wrap (Int.fdiv (IntKind.u64.wrap (IntKind.i64.wrap (aQ + r21))) (2 ^ (min (Int.toNat (1 : Int)) 64)))))))
  (some (.inr (aA, aQ)))

noncomputable def CX {α : Type} [Inhabited α] (cmp4 : α → α → Option Int) (rec : (List α) → Int → Int → Int → Option (List α)) (aA : List α) (a1 : Int) (m2 : Int) (b3 : Int) (bR : Int) (n19 : Int) (aQ : Int) (r21 : Int) (p22 : Int) : Option (List α) :=
  (lp (fun s => oJ cmp4 rec a1 m2 b3 bR n19 p22 s.1 s.2.1 s.2.2) (aA, aQ, r21)).bind (fun rr => CV cmp4 rec rr.1 a1 m2 b3 bR n19 rr.2)

noncomputable def uV {α : Type} [Inhabited α] (cmp4 : α → α → Option Int) (rec : (List α) → Int → Int → Int → Option (List α)) (aA : List α) (a1 : Int) (m2 : Int) (b3 : Int) (bR : Int) (n19 : Int) (aQ : Int) (r21 : Int) : Option (List α) :=
  CX cmp4 rec aA a1 m2 b3 bR n19 aQ r21 (IntKind.i64.wrap (n19 - (1 : Int)))

noncomputable def uQ {α : Type} [Inhabited α] (cmp4 : α → α → Option Int) (rec : (List α) → Int → Int → Int → Option (List α)) (aA : List α) (a1 : Int) (m2 : Int) (b3 : Int) : Option (List α) :=
  bI (0 ≤ (1 : Int)) <|
  cond (decide ((IntKind.i64.wrap (Int.fdiv (IntKind.u64.wrap (IntKind.i64.wrap (a1 + b3))) (2 ^ (min (Int.toNat (1 : Int)) 64)))) < m2))
  (uV cmp4 rec aA a1 m2 b3 (IntKind.i64.wrap (Int.fdiv (IntKind.u64.wrap (IntKind.i64.wrap (a1 + b3))) (2 ^ (min (Int.toNat (1 : Int)) 64)))) (IntKind.i64.wrap ((IntKind.i64.wrap (Int.fdiv (IntKind.u64.wrap (IntKind.i64.wrap (a1 + b3))) (2 ^ (min (Int.toNat (1 : Int)) 64)))) + m2)) (IntKind.i64.wrap ((IntKind.i64.wrap ((IntKind.i64.wrap (Int.fdiv (IntKind.u64.wrap (IntKind.i64.wrap (a1 + b3))) (2 ^ (min (Int.toNat (1 : Int)) 64)))) + m2)) - b3)) (IntKind.i64.wrap (Int.fdiv (IntKind.u64.wrap (IntKind.i64.wrap (a1 + b3))) (2 ^ (min (Int.toNat (1 : Int)) 64)))))
  (uV cmp4 rec aA a1 m2 b3 (IntKind.i64.wrap (Int.fdiv (IntKind.u64.wrap (IntKind.i64.wrap (a1 + b3))) (2 ^ (min (Int.toNat (1 : Int)) 64)))) (IntKind.i64.wrap ((IntKind.i64.wrap (Int.fdiv (IntKind.u64.wrap (IntKind.i64.wrap (a1 + b3))) (2 ^ (min (Int.toNat (1 : Int)) 64)))) + m2)) a1 m2)

noncomputable def CY {α : Type} [Inhabited α] (cmp4 : α → α → Option Int) (rec : (List α) → Int → Int → Int → Option (List α)) (aA : List α) : Option (List α) :=
  some aA

noncomputable def nN {α : Type} [Inhabited α] (cmp4 : α → α → Option Int) (rec : (List α) → Int → Int → Int → Option (List α)) (i14 : Int) (aA : List α) (k17 : Int) : Option ((List α × Int) ⊕ ((List α))) :=
  cond (decide (i14 < k17))
  (bI (0 ≤ (IntKind.i64.wrap (k17 - (1 : Int))) ∧ (IntKind.i64.wrap (k17 - (1 : Int))) < ((List.length aA : Nat) : Int)) <|
  bI (0 ≤ k17 ∧ k17 < ((List.length aA : Nat) : Int)) <|
  bI (0 ≤ k17 ∧ k17 < ((List.length aA : Nat) : Int)) <|
  bI (0 ≤ (IntKind.i64.wrap (k17 - (1 : Int))) ∧ (IntKind.i64.wrap (k17 - (1 : Int))) < ((List.length aA : Nat) : Int)) <|
  some (.inl (List.set (List.set aA (Int.toNat k17) (List.getD aA (Int.toNat (IntKind.i64.wrap (k17 - (1 : Int)))) default)) (Int.toNat (IntKind.i64.wrap (k17 - (1 : Int)))) (List.getD aA (Int.toNat k17) default), IntKind.i64.wrap (k17 - (1 : Int)))))
  (some (.inr aA))

noncomputable def BF {α : Type} [Inhabited α] (cmp4 : α → α → Option Int) (rec : (List α) → Int → Int → Int → Option (List α)) (aA : List α) (i14 : Int) (k17 : Int) : Option (List α) :=
  (lp (fun s => nN cmp4 rec i14 s.1 s.2) (aA, k17)).bind (fun rr => CY cmp4 rec rr)

noncomputable def DB {α : Type} [Inhabited α] (cmp4 : α → α → Option Int) (rec : (List α) → Int → Int → Int → Option (List α)) (aA : List α) (m2 : Int) (i14 : Int) : Option (List α) :=
  BF cmp4 rec aA i14 m2

noncomputable def nL {α : Type} [Inhabited α] (cmp4 : α → α → Option Int) (rec : (List α) → Int → Int → Int → Option (List α)) (m2 : Int) (aA : List α) (i14 : Int) (j15 : Int) : Option ((List α × Int × Int) ⊕ ((List α × Int))) :=
  cond (decide (i14 < j15))
  (bI (0 ≤ (1 : Int)) <|
  bI (0 ≤ m2 ∧ m2 < ((List.length aA : Nat) : Int)) <|
  bI (0 ≤ (IntKind.i64.wrap (Int.fdiv (IntKind.u64.wrap (IntKind.i64.wrap (i14 + j15))) (2 ^ (min (Int.toNat (1 : Int)) 64)))) ∧ (IntKind.i64.wrap (Int.fdiv (IntKind.u64.wrap (IntKind.i64.wrap (i14 + j15))) (2 ^ (min (Int.toNat (1 : Int)) 64)))) < ((List.length aA : Nat) : Int)) <|
  (cmp4 (List.getD aA (Int.toNat m2) default) (List.getD aA (Int.toNat (IntKind.i64.wrap (Int.fdiv (IntKind.u64.wrap (IntKind.i64.wrap (i14 + j15))) (2 ^ (min (Int.toNat (1 : Int)) 64))))) default)).bind fun x31 =>
  cond (!(decide (x31 < (0 : Int))))
  (some (.inl (aA, IntKind.i64.wrap ((IntKind.i64.wrap (Int.fdiv (IntKind.u64.wrap (IntKind.i64.wrap (i14 + j15))) (2 ^ (min (Int.toNat (1 : Int)) 64)))) + (1 : Int)), j15)))
  (some (.inl (aA, i14, IntKind.i64.wrap (Int.fdiv (IntKind.u64.wrap (IntKind.i64.wrap (i14 + j15))) (2 ^ (min (Int.toNat (1 : Int)) 64)))))))
  (some (.inr (aA, i14)))

noncomputable def BD {α : Type} [Inhabited α] (cmp4 : α → α → Option Int) (rec : (List α) → Int → Int → Int → Option (List α)) (aA : List α) (m2 : Int) (i14 : Int) (j15 : Int) : Option (List α) :=
  (lp (fun s => nL cmp4 rec m2 s.1 s.2.1 s.2.2) (aA, i14, j15)).bind (fun rr => DB cmp4 rec rr.1 m2 rr.2)

noncomputable def xT {α : Type} [Inhabited α] (cmp4 : α → α → Option Int) (rec : (List α) → Int → Int → Int → Option (List α)) (aA : List α) (a1 : Int) (m2 : Int) (b3 : Int) : Option (List α) :=
  cond (decide ((IntKind.i64.wrap (b3 - m2)) = (1 : Int)))
  (BD cmp4 rec aA m2 a1 m2)
  (uQ cmp4 rec aA a1 m2 b3)

noncomputable def AW {α : Type} [Inhabited α] (cmp4 : α → α → Option Int) (rec : (List α) → Int → Int → Int → Option (List α)) (aA : List α) : Option (List α) :=
  some aA

noncomputable def nM {α : Type} [Inhabited α] (cmp4 : α → α → Option Int) (rec : (List α) → Int → Int → Int → Option (List α)) (i10 : Int) (aA : List α) (k13 : Int) : Option ((List α × Int) ⊕ ((List α))) :=
  cond (decide (k13 < (IntKind.i64.wrap (i10 - (1 : Int)))))
  (bI (0 ≤ (IntKind.i64.wrap (k13 + (1 : Int))) ∧ (IntKind.i64.wrap (k13 + (1 : Int))) < ((List.length aA : Nat) : Int)) <|
  bI (0 ≤ k13 ∧ k13 < ((List.length aA : Nat) : Int)) <|
  bI (0 ≤ k13 ∧ k13 < ((List.length aA : Nat) : Int)) <|
  bI (0 ≤ (IntKind.i64.wrap (k13 + (1 : Int))) ∧ (IntKind.i64.wrap (k13 + (1 : Int))) < ((List.length aA : Nat) : Int)) <|
  some (.inl (List.set (List.set aA (Int.toNat k13) (List.getD aA (Int.toNat (IntKind.i64.wrap (k13 + (1 : Int)))) default)) (Int.toNat (IntKind.i64.wrap (k13 + (1 : Int)))) (List.getD aA (Int.toNat k13) default), IntKind.i64.wrap (k13 + (1 : Int)))))
  (some (.inr aA))

noncomputable def BG {α : Type} [Inhabited α] (cmp4 : α → α → Option Int) (rec : (List α) → Int → Int → Int → Option (List α)) (aA : List α) (i10 : Int) (k13 : Int) : Option (List α) :=
  (lp (fun s => nM cmp4 rec i10 s.1 s.2) (aA, k13)).bind (fun rr => AW cmp4 rec rr)

noncomputable def BA {α : Type} [Inhabited α] (cmp4 : α → α → Option Int) (rec : (List α) → Int → Int → Int → Option (List α)) (aA : List α) (a1 : Int) (i10 : Int) : Option (List α) :=
  BG cmp4 rec aA i10 a1

noncomputable def nK {α : Type} [Inhabited α] (cmp4 : α → α → Option Int) (rec : (List α) → Int → Int → Int → Option (List α)) (a1 : Int) (aA : List α) (i10 : Int) (j11 : Int) : Option ((List α × Int × Int) ⊕ ((List α × Int))) :=
  cond (decide (i10 < j11))
  (bI (0 ≤ (1 : Int)) <|
  bI (0 ≤ (IntKind.i64.wrap (Int.fdiv (IntKind.u64.wrap (IntKind.i64.wrap (i10 + j11))) (2 ^ (min (Int.toNat (1 : Int)) 64)))) ∧ (IntKind.i64.wrap (Int.fdiv (IntKind.u64.wrap (IntKind.i64.wrap (i10 + j11))) (2 ^ (min (Int.toNat (1 : Int)) 64)))) < ((List.length aA : Nat) : Int)) <|
  bI (0 ≤ a1 ∧ a1 < ((List.length aA : Nat) : Int)) <|
  (cmp4 (List.getD aA (Int.toNat (IntKind.i64.wrap (Int.fdiv (IntKind.u64.wrap (IntKind.i64.wrap (i10 + j11))) (2 ^ (min (Int.toNat (1 : Int)) 64))))) default) (List.getD aA (Int.toNat a1) default)).bind fun x45 =>
  cond (decide (x45 < (0 : Int)))
  (some (.inl (aA, IntKind.i64.wrap ((IntKind.i64.wrap (Int.fdiv (IntKind.u64.wrap (IntKind.i64.wrap (i10 + j11))) (2 ^ (min (Int.toNat (1 : Int)) 64)))) + (1 : Int)), j11)))
  (some (.inl (aA, i10, IntKind.i64.wrap (Int.fdiv (IntKind.u64.wrap (IntKind.i64.wrap (i10 + j11))) (2 ^ (min (Int.toNat (1 : Int)) 64)))))))
  (some (.inr (aA, i10)))

noncomputable def AY {α : Type} [Inhabited α] (cmp4 : α → α → Option Int) (rec : (List α) → Int → Int → Int → Option (List α)) (aA : List α) (a1 : Int) (i10 : Int) (j11 : Int) : Option (List α) :=
  (lp (fun s => nK cmp4 rec a1 s.1 s.2.1 s.2.2) (aA, i10, j11)).bind (fun rr => BA cmp4 rec rr.1 a1 rr.2)

noncomputable def dY {α : Type} [Inhabited α] (cmp4 : α → α → Option Int) (rec : (List α) → Int → Int → Int → Option (List α)) (aA : (List α)) (a1 : Int) (m2 : Int) (b3 : Int) : Option (List α) :=
  cond (decide ((IntKind.i64.wrap (m2 - a1)) = (1 : Int)))
  (AY cmp4 rec aA a1 m2 b3)
  (xT cmp4 rec aA a1 m2 b3)

noncomputable def eC {α : Type} [Inhabited α] (cmp4 : α → α → Option Int) : Nat → (List α) → Int → Int → Int → Option (List α)
  | 0 => fun _ _ _ _ => none
  | k + 1 => dY cmp4 (eC cmp4 k)

noncomputable def oV {α : Type} [Inhabited α] (aA : (List α)) (a1 : Int) (m2 : Int) (b3 : Int) (cmp4 : α → α → Option Int) : Option (List α) := GZ (fun k => eC cmp4 k aA a1 m2 b3)

noncomputable def wU {α : Type} [Inhabited α] (cmp2 : α → α → Option Int) (aA : List α) (n1 : Int) (aM : Int) : Option ((List α × Int) ⊕ ((List α))) :=
  some (.inl (aA, IntKind.i64.wrap (aM * (2 : Int))))

noncomputable def uL {α : Type} [Inhabited α] (cmp2 : α → α → Option Int) (aA : List α) (n1 : Int) (aM : Int) (a7 : Int) : Option ((List α × Int) ⊕ ((List α))) :=
  cond (decide ((IntKind.i64.wrap (a7 + aM)) < n1))
  ((oV aA a7 (IntKind.i64.wrap (a7 + aM)) n1 cmp2).bind fun x4 =>
  wU cmp2 x4 n1 aM)
  (wU cmp2 aA n1 aM)

noncomputable def mN {α : Type} [Inhabited α] (cmp2 : α → α → Option Int) (n1 : Int) (aM : Int) (aA : List α) (a7 : Int) (b8 : Int) : Option ((List α × Int × Int) ⊕ ((List α × Int))) :=
  cond (decide (b8 ≤ n1))
  ((oV aA a7 (IntKind.i64.wrap (a7 + aM)) b8 cmp2).bind fun x8 =>
  some (.inl (x8, b8, IntKind.i64.wrap (b8 + (IntKind.i64.wrap ((2 : Int) * aM))))))
  (some (.inr (aA, a7)))

noncomputable def uN {α : Type} [Inhabited α] (cmp2 : α → α → Option Int) (aA : List α) (n1 : Int) (aM : Int) (a7 : Int) (b8 : Int) : Option ((List α × Int) ⊕ ((List α))) :=
  (lp (fun s => mN cmp2 n1 aM s.1 s.2.1 s.2.2) (aA, a7, b8)).bind (fun rr => uL cmp2 rr.1 n1 aM rr.2)

noncomputable def jV {α : Type} [Inhabited α] (cmp2 : α → α → Option Int) (n1 : Int) (aA : List α) (aM : Int) : Option ((List α × Int) ⊕ ((List α))) :=
  cond (decide (aM < n1))
  (uN cmp2 aA n1 aM (0 : Int) (IntKind.i64.wrap ((2 : Int) * aM)))
  (some (.inr aA))

noncomputable def wX {α : Type} [Inhabited α] (cmp2 : α → α → Option Int) (aA : List α) (n1 : Int) (aM : Int) : Option (List α) :=
  (lp (fun s => jV cmp2 n1 s.1 s.2) (aA, aM)).bind (fun rr => some rr)

noncomputable def xE {α : Type} [Inhabited α] (cmp2 : α → α → Option Int) (aA : List α) (n1 : Int) (aM : Int) (a7 : Int) : Option (List α) :=
  (nH aA a7 n1 cmp2).bind fun x1 =>
  wX cmp2 x1 n1 aM

noncomputable def mM {α : Type} [Inhabited α] (cmp2 : α → α → Option Int) (n1 : Int) (aM : Int) (aA : List α) (a7 : Int) (b8 : Int) : Option ((List α × Int × Int) ⊕ ((List α × Int))) :=
  cond (decide (b8 ≤ n1))
  ((nH aA a7 b8 cmp2).bind fun x13 =>
  some (.inl (x13, b8, IntKind.i64.wrap (b8 + aM))))
  (some (.inr (aA, a7)))

noncomputable def xB {α : Type} [Inhabited α] (cmp2 : α → α → Option Int) (aA : List α) (n1 : Int) (aM : Int) (a7 : Int) (b8 : Int) : Option (List α) :=
  (lp (fun s => mM cmp2 n1 aM s.1 s.2.1 s.2.2) (aA, a7, b8)).bind (fun rr => xE cmp2 rr.1 n1 aM rr.2)

noncomputable def vF {α : Type} [Inhabited α] (aA : (List α)) (n1 : Int) (cmp2 : α → α → Option Int) : Option (List α) :=
  xB cmp2 aA n1 (20 : Int) (0 : Int) (20 : Int)

end Go.Abs
namespace Go.Abs
open Go
variable {α : Type} [Inhabited α]
structure Cmp {β : Type} (ok : β → Prop) (le : β → β → Prop) (cmp : β → β → Option Int) : Prop where
  ans : ∀ x y, ok x → ok y → ∃ v, cmp x y = some v ∧ (v < 0 ↔ ¬ le y x)
  trans : ∀ x y z, ok x → ok y → ok z → le x y → le y z → le x z
  total : ∀ x y, ok x → ok y → le x y ∨ le y x

abbrev Srt {β : Type} (le : β → β → Prop) (l : List β) : Prop := l.Pairwise le

abbrev Oks {β : Type} (ok : β → Prop) (l : List β) : Prop := ∀ x ∈ l, ok x

theorem VU {Q R : List α} {x : α} : (Q ++ x :: R).getD Q.length default = x := by simp [List.getD_eq_getElem?_getD]

theorem YC {β : Type} {Q R : List β} {x y : β} : (Q ++ x :: R).set Q.length y = Q ++ y :: R := by simp

theorem pY {Q R d : List α} {x : α} {n : Nat} (hd : d = Q ++ x :: R) (hn : n = Q.length) : d.getD n default = x := by subst hd; subst hn; exact VU

theorem BH {β : Type} {Q R d : List β} {x y : β} {n : Nat} (hd : d = Q ++ x :: R) (hn : n = Q.length) : d.set n y = Q ++ y :: R := by subst hd; subst hn; exact YC

theorem wr {n : Int} (h1 : -1099511627776 ≤ n) (h2 : n ≤ 8796093022208) : IntKind.i64.wrap n = n := jL (by omega) (by omega)

theorem OK {β : Type} {Q M R d : List β} {x y : β} {a b : Nat} (hd : d = Q ++ x :: (M ++ y :: R)) (ha : a = Q.length) (hb : b = Q.length + 1 + M.length) : (d.set a y).set b x = Q ++ y :: (M ++ x :: R) := by
  rw [BH hd ha, BH (Q := Q ++ y :: M) (x := y) (R := R) (by simp) (by simp; omega)]
  simp

section ins
variable {ok : α → Prop} {le : α → α → Prop} {cmp : α → α → Option Int}
theorem CZ {A T : List α} {x : α} {a b i : Int} {P : List α} (ha : a = (P.length : Nat)) (hl : (P ++ A ++ x :: T).length ≤ 1099511627776)
    (hs : A = [] ∨ ∃ A' y v, A = A' ++ [y] ∧ cmp x y = some v ∧ ¬ v < 0) : mB cmp a b i (P ++ A ++ x :: T) ((P.length + A.length : Nat) : Int) = some (.inr (P ++ A ++ x :: T)) := by
  simp only [List.length_append, List.length_cons] at hl
  unfold mB
  rcases hs with rfl | ⟨A', y, v, rfl, hc, hv⟩
  · have h : decide (a < ((P.length + ([] : List α).length : Nat) : Int)) = false := by subst ha; simp
    rw [h, bC (fun h => by cases h), bC (fun h => by cases h)]
    simp [hU]
  · simp only [List.length_append, List.length_cons, List.length_nil] at hl ⊢
    have h : decide (a < ((P.length + (A'.length + (0 + 1)) : Nat) : Int)) = true := by subst ha; simp; omega
    have hw : IntKind.i64.wrap (((P.length + (A'.length + (0 + 1)) : Nat) : Int) - 1) = ((P.length + A'.length : Nat) : Int) := by rw [wr (by omega) (by omega)]; omega
    have g1 : (P ++ (A' ++ [y]) ++ x :: T).getD (P.length + (A'.length + (0 + 1))) default = x := pY (Q := P ++ (A' ++ [y])) rfl (by simp)
    have g2 : (P ++ (A' ++ [y]) ++ x :: T).getD (P.length + A'.length) default = y := pY (Q := P ++ A') (R := x :: T) (by simp) (by simp)
    rw [h, hw, bC (fun _ => ⟨by omega, by omega⟩), bC (fun _ => ⟨by omega, by omega⟩)]
    rw [Int.toNat_natCast, Int.toNat_natCast, g1, g2]
    simp [hU, hc, hv]

theorem OY {A T : List α} {x y : α} {v : Int} {a b i : Int} {P : List α} (ha : a = (P.length : Nat)) (hl : (P ++ (A ++ [y]) ++ x :: T).length ≤ 1099511627776)
    (hc : cmp x y = some v) (hv : v < 0) : mB cmp a b i (P ++ (A ++ [y]) ++ x :: T) ((P.length + (A ++ [y]).length : Nat) : Int) = some (.inl (P ++ A ++ x :: (y :: T), ((P.length + A.length : Nat) : Int))) := by
  simp only [List.length_append, List.length_cons, List.length_nil] at hl ⊢
  unfold mB
  have h : decide (a < ((P.length + (A.length + (0 + 1)) : Nat) : Int)) = true := by subst ha; simp; omega
  have hw : IntKind.i64.wrap (((P.length + (A.length + (0 + 1)) : Nat) : Int) - 1) = ((P.length + A.length : Nat) : Int) := by rw [wr (by omega) (by omega)]; omega
  have g1 : (P ++ (A ++ [y]) ++ x :: T).getD (P.length + (A.length + (0 + 1))) default = x := pY (Q := P ++ (A ++ [y])) rfl (by simp)
  have g2 : (P ++ (A ++ [y]) ++ x :: T).getD (P.length + A.length) default = y := pY (Q := P ++ A) (R := x :: T) (by simp) (by simp)
  have hs : ((P ++ (A ++ [y]) ++ x :: T).set (P.length + (A.length + (0 + 1))) y).set (P.length + A.length) x = P ++ A ++ x :: (y :: T) := by
    rw [BH (Q := P ++ (A ++ [y])) (x := x) (R := T) rfl (by simp), BH (Q := P ++ A) (x := y) (R := y :: T) (by simp) (by simp)]
  have b1 : 0 ≤ ((P.length + (A.length + (0 + 1)) : Nat) : Int) ∧ ((P.length + (A.length + (0 + 1)) : Nat) : Int) < ((List.length (P ++ (A ++ [y]) ++ x :: T) : Nat) : Int) := ⟨by omega, by simp only [List.length_append, List.length_cons, List.length_nil]; omega⟩
  have b2 : 0 ≤ ((P.length + A.length : Nat) : Int) ∧ ((P.length + A.length : Nat) : Int) < ((List.length (P ++ (A ++ [y]) ++ x :: T) : Nat) : Int) := ⟨by omega, by simp only [List.length_append, List.length_cons, List.length_nil]; omega⟩
  rw [h, hw, bC (fun _ => b1), bC (fun _ => b2), Int.toNat_natCast, Int.toNat_natCast, g1, g2]
  simp only [hU, cond_true, hc, Option.bind_some, Bool.true_and, decide_eq_true hv]
  rw [bC b2, bC b1, bC b1, bC b2, hs]

theorem UD (C : Cmp ok le cmp) {x : α} (hx : ok x) {a b i : Int} {P : List α} (ha : a = (P.length : Nat)) : ∀ (n : Nat) (A B T : List α), A.length = n → Oks ok A → Oks ok B → Srt le (A ++ B) → (∀ y ∈ B, ¬ le y x) → (P ++ A ++ x :: (B ++ T)).length ≤ 1099511627776 →
    ∃ D, D.Perm (A ++ x :: B) ∧ Srt le D ∧ lp (fun s : List α × Int => mB cmp a b i s.1 s.2) (P ++ A ++ x :: (B ++ T), ((P.length + A.length : Nat) : Int)) = some (P ++ D ++ T) := by
  intro n
  induction n with
  | zero =>
    intro A B T hn _ hB hs hlt hl
    have hA : A = [] := List.length_eq_zero_iff.1 hn
    subst hA
    refine ⟨x :: B, List.Perm.refl _, ?_, ?_⟩
    · refine List.pairwise_cons.2 ⟨fun y hy => ?_, by simpa using hs⟩
      rcases C.total x y hx (hB y hy) with h | h
      · exact h
      · exact absurd h (hlt y hy)
    · rw [cK (CZ ha hl (Or.inl rfl))]; simp
  | succ n ih =>
    intro A B T hn hA hB hs hlt hl
    obtain ⟨A', y, rfl⟩ : ∃ A' y, A = A' ++ [y] := by
      rcases List.eq_nil_or_concat A with h | ⟨A', y, h⟩
      · rw [h] at hn; simp at hn
      · exact ⟨A', y, by simpa using h⟩
    have hy : ok y := hA y (by simp)
    obtain ⟨v, hc, hv⟩ := C.ans x y hx hy
    by_cases hneg : v < 0
    · have hb := OY (i := i) (b := b) ha hl hc hneg
      have hl' : (P ++ A' ++ x :: ((y :: B) ++ T)).length ≤ 1099511627776 := by
        simp only [List.length_append, List.length_cons, List.length_nil] at hl ⊢; omega
      obtain ⟨D, d1, d2, d3⟩ := ih A' (y :: B) T (by simpa using hn) (fun z hz => hA z (by simp [hz])) (fun z hz => by rcases List.mem_cons.1 hz with rfl | hz; exact hy; exact hB z hz) (by simpa using hs)
        (fun z hz => by rcases List.mem_cons.1 hz with rfl | hz; exact hv.1 hneg; exact hlt z hz) hl'
      refine ⟨D, d1.trans ?_, d2, ?_⟩
      · simp only [List.append_assoc, List.singleton_append]
        exact List.Perm.append_left _ (List.Perm.swap ..)
      · rw [eP hb]; simpa using d3
    · refine ⟨A' ++ [y] ++ x :: B, List.Perm.refl _, ?_, ?_⟩
      · have hyx : le y x := Classical.byContradiction fun h => hneg (hv.2 h)
        simp only [Srt, List.pairwise_append] at hs ⊢
        obtain ⟨s1, s2, s3⟩ := hs
        refine ⟨s1, List.pairwise_cons.2 ⟨fun z hz => ?_, s2⟩, ?_⟩
        · rcases C.total x z hx (hB z hz) with h | h
          · exact h
          · exact absurd h (hlt z hz)
        · intro z hz w hw
          rcases List.mem_cons.1 hw with rfl | hw
          · rcases List.mem_append.1 hz with hz' | hz'
            · exact C.trans z y w (hA z hz) hy hx (s1.2.2 z hz' y (by simp)) hyx
            · rw [List.mem_singleton] at hz'; subst hz'; exact hyx
          · exact s3 z hz w hw
      · rw [cK (CZ ha hl (Or.inr ⟨A', y, v, rfl, hc, hneg⟩))]
        simp

theorem JX (C : Cmp ok le cmp) {a b : Int} {P : List α} (ha : a = (P.length : Nat)) : ∀ (B A T : List α), Oks ok A → Oks ok B → Srt le A → b = ((P.length + A.length + B.length : Nat) : Int) → (P ++ A ++ (B ++ T)).length ≤ 1099511627776 →
    ∃ D, D.Perm (A ++ B) ∧ Srt le D ∧ lp (fun s : List α × Int => jT cmp a b s.1 s.2) (P ++ A ++ (B ++ T), ((P.length + A.length : Nat) : Int)) = some (P ++ D ++ T)
  | [], A, T, _, _, hs, hb, _ => by
    refine ⟨A, by simp, hs, cK ?_⟩
    have : decide (((P.length + A.length : Nat) : Int) < b) = false := by subst hb; simp
    simp only [jT, this, cond_false, List.nil_append]
  | x :: B, A, T, hA, hB, hs, hb, hl => by
    obtain ⟨D, d1, d2, d3⟩ := UD C (hB x (by simp)) (b := b) (i := ((P.length + A.length : Nat) : Int)) ha A.length A [] (B ++ T) rfl hA (by intro z hz; simp at hz) (by simpa using hs) (by simp) (by simpa using hl)
    have hD : D.length = A.length + 1 := by rw [d1.length_eq]; simp
    have hlt : decide (((P.length + A.length : Nat) : Int) < b) = true := by subst hb; simp; omega
    have hbod : (fun s : List α × Int => jT cmp a b s.1 s.2) (P ++ A ++ (x :: B ++ T), ((P.length + A.length : Nat) : Int)) = some (.inl (P ++ D ++ (B ++ T), ((P.length + D.length : Nat) : Int))) := by
      show jT cmp a b _ _ = _
      simp only [jT, hlt, cond_true, xH]
      rw [show P ++ A ++ (x :: B ++ T) = P ++ A ++ x :: ([] ++ (B ++ T)) by simp, d3]
      simp only [Option.bind_some, xQ]
      rw [wr (by omega) (by simp only [List.length_append, List.length_cons] at hl; omega), hD]
      congr 1
    have hl' : (P ++ D ++ (B ++ T)).length ≤ 1099511627776 := by simp only [List.length_append, List.length_cons] at hl ⊢; omega
    obtain ⟨E, e1, e2, e3⟩ := JX C (b := b) ha B D T (fun z hz => by
      have := d1.mem_iff.1 hz
      rcases List.mem_append.1 this with h | h
      · exact hA z h
      · rw [List.mem_singleton] at h; subst h; exact hB z (by simp)) (fun z hz => hB z (by simp [hz])) d2 (by rw [hb]; simp only [List.length_cons]; congr 1; omega) hl'
    refine ⟨E, e1.trans ?_, e2, by rw [eP hbod]; exact e3⟩
    have := d1.append_right B
    simpa using this

theorem UC (C : Cmp ok le cmp) {P A T : List α} {a b : Int} (ha : a = (P.length : Nat)) (hb : b = ((P.length + A.length : Nat) : Int)) (hA : Oks ok A) (hl : (P ++ A ++ T).length ≤ 1099511627776) :
    ∃ D, D.Perm A ∧ Srt le D ∧ nH (P ++ A ++ T) a b cmp = some (P ++ D ++ T) := by
  unfold nH xL
  simp only [List.length_append] at hl
  cases A with
  | nil =>
    refine ⟨[], List.Perm.refl _, List.Pairwise.nil, ?_⟩
    rw [cK (r := P ++ [] ++ T)]
    · rfl
    · have : decide (IntKind.i64.wrap (a + 1) < b) = false := by
        rw [wr (by omega) (by omega)]; subst ha; subst hb; simp; omega
      simp only [jT, this, cond_false]
  | cons x A =>
    simp only [List.length_cons] at hl
    have hw : IntKind.i64.wrap (a + 1) = ((P.length + [x].length : Nat) : Int) := by rw [wr (by omega) (by omega)]; subst ha; simp
    obtain ⟨D, d1, d2, d3⟩ := JX C (b := b) ha A [x] T (fun z hz => by rw [List.mem_singleton] at hz; subst hz; exact hA z (by simp)) (fun z hz => hA z (by simp [hz])) (by simp) (by rw [hb]; simp only [List.length_cons, List.length_nil]; congr 1; omega) (by simp only [List.length_append, List.length_cons, List.length_nil]; omega)
    refine ⟨D, by simpa using d1, d2, ?_⟩
    rw [hw, show P ++ x :: A ++ T = P ++ [x] ++ (A ++ T) by simp, d3]
    rfl

end ins
theorem DV {cmp : α → α → Option Int} {a b n : Int} : ∀ (X Y Q Z R : List α) (i : Nat), X.length = Y.length → a + i = (Q.length : Nat) → b + i = ((Q.length + X.length + Z.length : Nat) : Int) → n = ((i + X.length : Nat) : Int) → 0 ≤ a → 0 ≤ b → (Q ++ X ++ Z ++ Y ++ R).length ≤ 1099511627776 →
    lp (fun s : List α × Int => oZ cmp a b n s.1 s.2) (Q ++ X ++ Z ++ Y ++ R, ((i : Nat) : Int)) = some (Q ++ Y ++ Z ++ X ++ R)
  | [], Y, Q, Z, R, i, hxy, ha, hb, hn, _, _, hl => by
    have : Y = [] := List.length_eq_zero_iff.1 hxy.symm
    subst this
    refine cK ?_
    have : decide (((i : Nat) : Int) < n) = false := by subst hn; simp
    simp only [oZ, this, cond_false]
  | x :: X, [], Q, Z, R, i, hxy, _, _, _, _, _, _ => by simp at hxy
  | x :: X, y :: Y, Q, Z, R, i, hxy, ha, hb, hn, ha0, hb0, hl => by
    simp only [List.length_append, List.length_cons] at hl hb hn hxy
    have hlt : decide (((i : Nat) : Int) < n) = true := by subst hn; simp; omega
    have wa : IntKind.i64.wrap (a + i) = ((Q.length : Nat) : Int) := by rw [wr (by omega) (by omega)]; exact ha
    have wb : IntKind.i64.wrap (b + i) = ((Q.length + 1 + (X ++ Z).length : Nat) : Int) := by rw [wr (by omega) (by omega), hb]; simp only [List.length_append]; congr 1; omega
    have wi : IntKind.i64.wrap (((i : Nat) : Int) + 1) = ((i + 1 : Nat) : Int) := by rw [wr (by omega) (by omega)]; omega
    have hd : Q ++ x :: X ++ Z ++ y :: Y ++ R = Q ++ x :: ((X ++ Z) ++ y :: (Y ++ R)) := by simp
    have b1 : 0 ≤ ((Q.length : Nat) : Int) ∧ ((Q.length : Nat) : Int) < ((List.length (Q ++ x :: X ++ Z ++ y :: Y ++ R) : Nat) : Int) := ⟨by omega, by simp only [List.length_append, List.length_cons]; omega⟩
    have b2 : 0 ≤ ((Q.length + 1 + (X ++ Z).length : Nat) : Int) ∧ ((Q.length + 1 + (X ++ Z).length : Nat) : Int) < ((List.length (Q ++ x :: X ++ Z ++ y :: Y ++ R) : Nat) : Int) := ⟨by omega, by simp only [List.length_append, List.length_cons]; omega⟩
    have g1 : (Q ++ x :: X ++ Z ++ y :: Y ++ R).getD Q.length default = x := pY hd rfl
    have g2 : (Q ++ x :: X ++ Z ++ y :: Y ++ R).getD (Q.length + 1 + (X ++ Z).length) default = y := pY (Q := Q ++ x :: X ++ Z) (R := Y ++ R) (by simp) (by simp; omega)
    have hbod : (fun s : List α × Int => oZ cmp a b n s.1 s.2) (Q ++ x :: X ++ Z ++ y :: Y ++ R, ((i : Nat) : Int)) = some (.inl ((Q ++ [y]) ++ X ++ (Z ++ [x]) ++ Y ++ R, ((i + 1 : Nat) : Int))) := by
      show oZ cmp a b n _ _ = _
      simp only [oZ, hlt, cond_true, wa, wb, wi, bC b1, bC b2, Int.toNat_natCast, g1, g2]
      rw [OK hd rfl rfl]
      simp
    rw [eP hbod, DV X Y (Q ++ [y]) (Z ++ [x]) R (i + 1) (by omega) (by simp; omega) (by simp; omega) (by rw [hn]; congr 1; omega) ha0 hb0 (by simp only [List.length_append, List.length_cons, List.length_nil]; omega)]
    simp

theorem IX {cmp : α → α → Option Int} {a b n : Int} {X Y Q Z R d : List α} (hd : d = Q ++ X ++ Z ++ Y ++ R) (hxy : X.length = Y.length) (ha : a = (Q.length : Nat)) (hb : b = ((Q.length + X.length + Z.length : Nat) : Int)) (hn : n = (X.length : Nat)) (hl : d.length ≤ 1099511627776) :
    tE d a b n cmp = some (Q ++ Y ++ Z ++ X ++ R) := by
  subst hd
  unfold tE BC
  have := DV (cmp := cmp) (a := a) (b := b) (n := n) X Y Q Z R 0 hxy (by omega) (by omega) (by omega) (by omega) (by omega) hl
  simp only [Int.natCast_zero] at this
  rw [this]; rfl

theorem VK {cmp : α → α → Option Int} {m : Int} : ∀ (n : Nat) (X Y Q R : List α), X.length + Y.length ≤ n → X ≠ [] → Y ≠ [] → m = ((Q.length + X.length : Nat) : Int) → (Q ++ X ++ Y ++ R).length ≤ 1099511627776 →
    (lp (fun s : List α × Int × Int => mJ cmp m s.1 s.2.1 s.2.2) (Q ++ X ++ Y ++ R, ((X.length : Nat) : Int), ((Y.length : Nat) : Int))).bind (fun rr => AM cmp rr.1 m rr.2) = some (Q ++ Y ++ X ++ R) := by
  intro n
  induction n with
  | zero => intro X Y Q R hn hX; exact absurd (List.length_eq_zero_iff.1 (by omega)) hX
  | succ n ih =>
    intro X Y Q R hn hX hY hm hl
    have hX' : 0 < X.length := List.length_pos_iff.2 hX
    have hY' : 0 < Y.length := List.length_pos_iff.2 hY
    simp only [List.length_append] at hl
    rcases Nat.lt_trichotomy X.length Y.length with h | h | h
    · -- the second is longer
      obtain ⟨Y1, Y2, rfl, hY2⟩ : ∃ Y1 Y2, Y = Y1 ++ Y2 ∧ Y2.length = X.length := ⟨Y.take (Y.length - X.length), Y.drop (Y.length - X.length), (List.take_append_drop _ _).symm, by rw [List.length_drop]; omega⟩
      simp only [List.length_append] at hn hl h
      have hne : decide (((X.length : Nat) : Int) = (((Y1 ++ Y2).length : Nat) : Int)) = false := by simp only [List.length_append]; simp; omega
      have hlt : decide ((((Y1 ++ Y2).length : Nat) : Int) < ((X.length : Nat) : Int)) = false := by simp only [List.length_append]; simp; omega
      have e1 : IntKind.i64.wrap (m - ((X.length : Nat) : Int)) = ((Q.length : Nat) : Int) := by rw [wr (by omega) (by omega)]; omega
      have e0 : IntKind.i64.wrap (m + (((Y1 ++ Y2).length : Nat) : Int)) = m + (((Y1 ++ Y2).length : Nat) : Int) := by simp only [List.length_append]; exact wr (by omega) (by omega)
      have e2 : IntKind.i64.wrap (m + (((Y1 ++ Y2).length : Nat) : Int) - ((X.length : Nat) : Int)) = ((Q.length + X.length + Y1.length : Nat) : Int) := by simp only [List.length_append]; rw [wr (by omega) (by omega)]; omega
      have e3 : IntKind.i64.wrap ((((Y1 ++ Y2).length : Nat) : Int) - ((X.length : Nat) : Int)) = ((Y1.length : Nat) : Int) := by simp only [List.length_append]; rw [wr (by omega) (by omega)]; omega
      have hbod : (fun s : List α × Int × Int => mJ cmp m s.1 s.2.1 s.2.2) (Q ++ X ++ (Y1 ++ Y2) ++ R, ((X.length : Nat) : Int), (((Y1 ++ Y2).length : Nat) : Int)) = some (.inl (Q ++ Y2 ++ Y1 ++ (X ++ R), ((Y2.length : Nat) : Int), ((Y1.length : Nat) : Int))) := by
        show mJ cmp m _ _ _ = _
        simp only [mJ, hne, Bool.not_false, cond_true, hlt, cond_false, e0, e1, e2, e3]
        rw [IX (X := X) (Y := Y2) (Q := Q) (Z := Y1) (R := R) (by simp) hY2.symm rfl rfl rfl (by simp only [List.length_append]; omega)]
        simp [hY2]
      rw [eP hbod, ih Y2 Y1 Q (X ++ R) (by omega) (fun h => by rw [h] at hY2; simp at hY2; omega) (fun h' => by rw [h'] at h; simp at h; omega) (by rw [hm]; congr 1; omega) (by simp only [List.length_append]; omega)]
      simp
    · -- alike
      have hne : decide (((X.length : Nat) : Int) = ((Y.length : Nat) : Int)) = true := by simp; omega
      rw [cK (r := (Q ++ X ++ Y ++ R, ((X.length : Nat) : Int))) (by show mJ cmp m _ _ _ = _; simp only [mJ, hne, Bool.not_true, cond_false])]
      simp only [Option.bind_some, AM]
      have e1 : IntKind.i64.wrap (m - ((X.length : Nat) : Int)) = ((Q.length : Nat) : Int) := by rw [wr (by omega) (by omega)]; omega
      rw [e1, IX (X := X) (Y := Y) (Q := Q) (Z := []) (R := R) (by simp) h rfl (by rw [hm]; simp) rfl (by simp only [List.length_append]; omega)]
      simp
    · -- the first is longer
      obtain ⟨X1, X2, rfl, hX1⟩ : ∃ X1 X2, X = X1 ++ X2 ∧ X1.length = Y.length := ⟨X.take Y.length, X.drop Y.length, (List.take_append_drop _ _).symm, by rw [List.length_take]; omega⟩
      simp only [List.length_append] at hn hl h hm
      have hne : decide ((((X1 ++ X2).length : Nat) : Int) = ((Y.length : Nat) : Int)) = false := by simp only [List.length_append]; simp; omega
      have hlt : decide (((Y.length : Nat) : Int) < (((X1 ++ X2).length : Nat) : Int)) = true := by simp only [List.length_append]; simp; omega
      have e1 : IntKind.i64.wrap (m - (((X1 ++ X2).length : Nat) : Int)) = ((Q.length : Nat) : Int) := by simp only [List.length_append]; rw [wr (by omega) (by omega)]; omega
      have e3 : IntKind.i64.wrap ((((X1 ++ X2).length : Nat) : Int) - ((Y.length : Nat) : Int)) = ((X2.length : Nat) : Int) := by simp only [List.length_append]; rw [wr (by omega) (by omega)]; omega
      have hbod : (fun s : List α × Int × Int => mJ cmp m s.1 s.2.1 s.2.2) (Q ++ (X1 ++ X2) ++ Y ++ R, (((X1 ++ X2).length : Nat) : Int), ((Y.length : Nat) : Int)) = some (.inl ((Q ++ Y) ++ X2 ++ X1 ++ R, ((X2.length : Nat) : Int), ((X1.length : Nat) : Int))) := by
        show mJ cmp m _ _ _ = _
        simp only [mJ, hne, Bool.not_false, cond_true, hlt, e1, e3]
        rw [IX (X := X1) (Y := Y) (Q := Q) (Z := X2) (R := R) (by simp) hX1 rfl (by rw [hm]; congr 1; omega) (by rw [hX1]) (by simp only [List.length_append]; omega)]
        simp [hX1]
      rw [eP hbod, ih X2 X1 (Q ++ Y) R (by omega) (fun h' => by rw [h'] at h; simp at h; omega) (fun h => by rw [h] at hX1; simp at hX1; omega) (by rw [hm]; simp only [List.length_append]; congr 1; omega) (by simp only [List.length_append]; omega)]
      simp

theorem aAv {cmp : α → α → Option Int} {a m b : Int} {X Y Q R d : List α} (hd : d = Q ++ X ++ Y ++ R) (hX : X ≠ []) (hY : Y ≠ []) (ha : a = (Q.length : Nat)) (hm : m = ((Q.length + X.length : Nat) : Int)) (hb : b = ((Q.length + X.length + Y.length : Nat) : Int)) (hl : d.length ≤ 1099511627776) :
    zU d a m b cmp = some (Q ++ Y ++ X ++ R) := by
  subst hd
  unfold zU FT
  have hl' := hl
  simp only [List.length_append] at hl'
  rw [show IntKind.i64.wrap (m - a) = ((X.length : Nat) : Int) by rw [wr (by omega) (by omega)]; omega, show IntKind.i64.wrap (b - m) = ((Y.length : Nat) : Int) by rw [wr (by omega) (by omega)]; omega]
  exact VK _ X Y Q R (Nat.le_refl _) hX hY hm hl

end Go.Abs
namespace Go.Abs
open Go
variable {α : Type} [Inhabited α]
theorem half {s : Nat} (h : s ≤ 4398046511104) : IntKind.i64.wrap (Int.fdiv (IntKind.u64.wrap (IntKind.i64.wrap (s : Int))) (2 ^ (min (Int.toNat (1 : Int)) 64))) = ((s / 2 : Nat) : Int) := by
  rw [wr (n := (s : Int)) (by omega) (by omega)]
  have hu : IntKind.u64.wrap (s : Int) = (s : Int) := by
    simp only [IntKind.wrap, IntKind.bits, IntKind.signed]
    simp
    omega
  have hp : (2 : Int) ^ (min (Int.toNat (1 : Int)) 64) = 2 := by decide
  rw [hu, hp, Int.fdiv_eq_ediv_of_nonneg _ (by omega), wr (by omega) (by omega)]
  omega

theorem BX {P B S d : List α} {n k : Nat} (hd : d = P ++ B ++ S) (hn : n = P.length + k) (hk : k < B.length) : d.getD n default = B.getD k default := by
  subst hd; subst hn
  simp only [List.getD_eq_getElem?_getD]
  rw [List.append_assoc, List.getElem?_append_right (by omega), List.getElem?_append_left (by omega)]
  congr 2; omega

theorem CE {l : List α} {t : Nat} {y : α} (h : y ∈ l.take t) : ∃ i, i < t ∧ i < l.length ∧ y = l.getD i default := by
  obtain ⟨i, hi, rfl⟩ := List.mem_iff_getElem.1 h
  rw [List.length_take] at hi
  refine ⟨i, by omega, by omega, ?_⟩
  rw [List.getElem_take, List.getD_eq_getElem?_getD, List.getElem?_eq_getElem (by omega)]; rfl

theorem sS {l : List α} {t : Nat} {y : α} (h : y ∈ l.drop t) : ∃ i, t ≤ i ∧ i < l.length ∧ y = l.getD i default := by
  obtain ⟨i, hi, rfl⟩ := List.mem_iff_getElem.1 h
  rw [List.length_drop] at hi
  refine ⟨t + i, by omega, by omega, ?_⟩
  rw [List.getElem_drop, List.getD_eq_getElem?_getD, List.getElem?_eq_getElem (by omega)]; rfl

theorem cZ {l : List α} {i : Nat} (h : i < l.length) : l.getD i default ∈ l := by
  rw [List.getD_eq_getElem?_getD, List.getElem?_eq_getElem h]; exact List.getElem_mem h

section sym
variable {ok : α → Prop} {le : α → α → Prop} {cmp : α → α → Option Int}
theorem Cmp.refl {β : Type} {ok : β → Prop} {le : β → β → Prop} {cmp : β → β → Option Int} (C : Cmp ok le cmp) {x : β} (h : ok x) : le x x := by rcases C.total x x h h with h | h <;> exact h

theorem rT (C : Cmp ok le cmp) {l : List α} (ho : Oks ok l) (hs : Srt le l) {i j : Nat} (hij : i ≤ j) (hj : j < l.length) : le (l.getD i default) (l.getD j default) := by
  rcases Nat.lt_or_eq_of_le hij with h | h
  · have := List.pairwise_iff_getElem.1 hs i j (by omega) hj h
    simpa [List.getD_eq_getElem?_getD, List.getElem?_eq_getElem hj, List.getElem?_eq_getElem (show i < l.length by omega)] using this
  · subst h; exact C.refl (ho _ (cZ hj))

theorem MO {β : Type} {le : β → β → Prop} {l : List β} (h : Srt le l) (t : Nat) : Srt le (l.take t) := List.Pairwise.sublist (List.take_sublist t l) h

theorem ML {β : Type} {le : β → β → Prop} {l : List β} (h : Srt le l) (t : Nat) : Srt le (l.drop t) := List.Pairwise.sublist (List.drop_sublist t l) h

theorem OT {β : Type} {body : (List β × Int × Int) → Option ((List β × Int × Int) ⊕ (List β × Int))} {d : List β} {f : Nat → Prop} {lo hi : Nat}
    (hb : ∀ i j : Nat, lo ≤ i → i < j → j ≤ hi → ∃ t : Bool, (t = true ↔ f ((i + j) / 2)) ∧ body (d, (i : Int), (j : Int)) = some (.inl (if t then (d, (((i + j) / 2 + 1 : Nat) : Int), (j : Int)) else (d, (i : Int), (((i + j) / 2 : Nat) : Int)))))
    (he : ∀ i : Nat, body (d, (i : Int), (i : Int)) = some (.inr (d, (i : Int)))) :
    ∀ (n i j : Nat), j - i ≤ n → lo ≤ i → i ≤ j → j ≤ hi → (i = lo ∨ f (i - 1)) → (j = hi ∨ ¬ f j) → ∃ s, lo ≤ s ∧ s ≤ hi ∧ (s = lo ∨ f (s - 1)) ∧ (s = hi ∨ ¬ f s) ∧ lp body (d, (i : Int), (j : Int)) = some (d, ((s : Nat) : Int)) := by
  intro n
  induction n with
  | zero =>
    intro i j hn h1 h2 h3 h4 h5
    have : i = j := by omega
    subst this
    exact ⟨i, h1, h3, h4, h5, cK (he i)⟩
  | succ n ih =>
    intro i j hn h1 h2 h3 h4 h5
    by_cases hij : i = j
    · subst hij; exact ⟨i, h1, h3, h4, h5, cK (he i)⟩
    · obtain ⟨t, ht, hbt⟩ := hb i j h1 (by omega) h3
      cases t
      · obtain ⟨s, r1, r2, r3, r4, r5⟩ := ih i ((i + j) / 2) (by omega) h1 (by omega) (by omega) h4 (Or.inr (fun h => by have := ht.2 h; cases this))
        refine ⟨s, r1, r2, r3, r4, ?_⟩
        rw [eP hbt]; exact r5
      · obtain ⟨s, r1, r2, r3, r4, r5⟩ := ih ((i + j) / 2 + 1) j (by omega) (by omega) (by omega) h3 (Or.inr (by simpa using ht.1 rfl)) h5
        refine ⟨s, r1, r2, r3, r4, ?_⟩
        rw [eP hbt]; exact r5

def IM (le : α → α → Prop) (P A B S r : List α) : Prop := ∃ D, D.Perm (A ++ B) ∧ Srt le D ∧ r = P ++ D ++ S

theorem XS {cmp : α → α → Option Int} {rec : List α → Int → Int → Int → Option (List α)} {e : Int} {x : α} : ∀ (B Q R : List α) (k : Nat), k = Q.length → e = ((Q.length + B.length + 1 : Nat) : Int) → (Q ++ x :: B ++ R).length ≤ 1099511627776 →
    lp (fun s : List α × Int => nM cmp rec e s.1 s.2) (Q ++ x :: B ++ R, (k : Int)) = some (Q ++ B ++ x :: R)
  | [], Q, R, k, hk, he, hl => by
    simp only [List.length_append, List.length_cons, List.length_nil] at hl he
    refine cK ?_
    show nM cmp rec e _ _ = _
    have : decide ((k : Int) < IntKind.i64.wrap (e - 1)) = false := by rw [wr (by omega) (by omega)]; simp; omega
    simp only [nM, this, cond_false]
    simp
  | y :: B, Q, R, k, hk, he, hl => by
    simp only [List.length_append, List.length_cons] at hl he
    have h1 : decide ((k : Int) < IntKind.i64.wrap (e - 1)) = true := by rw [wr (by omega) (by omega)]; simp; omega
    have hw : IntKind.i64.wrap ((k : Int) + 1) = ((k + 1 : Nat) : Int) := by rw [wr (by omega) (by omega)]; omega
    have b1 : 0 ≤ (k : Int) ∧ (k : Int) < ((List.length (Q ++ x :: y :: B ++ R) : Nat) : Int) := ⟨by omega, by simp only [List.length_append, List.length_cons]; omega⟩
    have b2 : 0 ≤ ((k + 1 : Nat) : Int) ∧ ((k + 1 : Nat) : Int) < ((List.length (Q ++ x :: y :: B ++ R) : Nat) : Int) := ⟨by omega, by simp only [List.length_append, List.length_cons]; omega⟩
    have hd : Q ++ x :: y :: B ++ R = Q ++ x :: ([] ++ y :: (B ++ R)) := by simp
    have g1 : (Q ++ x :: y :: B ++ R).getD k default = x := pY hd hk
    have g2 : (Q ++ x :: y :: B ++ R).getD (k + 1) default = y := pY (Q := Q ++ [x]) (R := B ++ R) (by simp) (by simp; omega)
    have hb : (fun s : List α × Int => nM cmp rec e s.1 s.2) (Q ++ x :: y :: B ++ R, (k : Int)) = some (.inl ((Q ++ [y]) ++ x :: B ++ R, ((k + 1 : Nat) : Int))) := by
      show nM cmp rec e _ _ = _
      simp only [nM, h1, cond_true, hw, bC b1, bC b2, Int.toNat_natCast, g1, g2]
      rw [OK (M := []) hd hk (by simp; omega)]
      simp
    rw [eP hb, XS B (Q ++ [y]) R (k + 1) (by simp; omega) (by rw [he]; simp only [List.length_append, List.length_cons, List.length_nil]; congr 1; omega) (by simp only [List.length_append, List.length_cons, List.length_nil]; omega)]
    simp

theorem YT {cmp : α → α → Option Int} {rec : List α → Int → Int → Int → Option (List α)} {e : Int} {x : α} {Q : List α} (he : e = (Q.length : Nat)) : ∀ (n : Nat) (A R : List α) (k : Nat), A.length = n → k = Q.length + A.length → (Q ++ A ++ x :: R).length ≤ 1099511627776 →
    lp (fun s : List α × Int => nN cmp rec e s.1 s.2) (Q ++ A ++ x :: R, (k : Int)) = some (Q ++ x :: A ++ R) := by
  intro n
  induction n with
  | zero =>
    intro A R k hn hk hl
    have hA : A = [] := List.length_eq_zero_iff.1 hn
    subst hA
    refine cK ?_
    show nN cmp rec e _ _ = _
    have : decide (e < (k : Int)) = false := by simp only [List.length_nil] at hk; simp; omega
    simp only [nN, this, cond_false]
    simp
  | succ n ih =>
    intro A R k hn hk hl
    obtain ⟨A', y, rfl⟩ : ∃ A' y, A = A' ++ [y] := by
      rcases List.eq_nil_or_concat A with h | ⟨A', y, h⟩
      · rw [h] at hn; simp at hn
      · exact ⟨A', y, by simpa using h⟩
    simp only [List.length_append, List.length_cons, List.length_nil] at hl hk hn
    have h1 : decide (e < (k : Int)) = true := by simp; omega
    have hw : IntKind.i64.wrap ((k : Int) - 1) = ((Q.length + A'.length : Nat) : Int) := by rw [wr (by omega) (by omega)]; omega
    have b1 : 0 ≤ (k : Int) ∧ (k : Int) < ((List.length (Q ++ (A' ++ [y]) ++ x :: R) : Nat) : Int) := ⟨by omega, by simp only [List.length_append, List.length_cons, List.length_nil]; omega⟩
    have b2 : 0 ≤ ((Q.length + A'.length : Nat) : Int) ∧ ((Q.length + A'.length : Nat) : Int) < ((List.length (Q ++ (A' ++ [y]) ++ x :: R) : Nat) : Int) := ⟨by omega, by simp only [List.length_append, List.length_cons, List.length_nil]; omega⟩
    have g1 : (Q ++ (A' ++ [y]) ++ x :: R).getD k default = x := pY (Q := Q ++ (A' ++ [y])) rfl (by simp; omega)
    have g2 : (Q ++ (A' ++ [y]) ++ x :: R).getD (Q.length + A'.length) default = y := pY (Q := Q ++ A') (R := x :: R) (by simp) (by simp)
    have hb : (fun s : List α × Int => nN cmp rec e s.1 s.2) (Q ++ (A' ++ [y]) ++ x :: R, (k : Int)) = some (.inl (Q ++ A' ++ x :: (y :: R), ((Q.length + A'.length : Nat) : Int))) := by
      show nN cmp rec e _ _ = _
      simp only [nN, h1, cond_true, hw, bC b1, bC b2, Int.toNat_natCast, g1, g2]
      rw [BH (Q := Q ++ (A' ++ [y])) (x := x) (R := R) rfl (by simp; omega), BH (Q := Q ++ A') (x := y) (R := y :: R) (by simp) (by simp)]
    rw [eP hb, ih A' (y :: R) (Q.length + A'.length) (by omega) rfl (by simp only [List.length_append, List.length_cons]; omega)]
    simp

def QS (cmp : α → α → Option Int) (le : α → α → Prop) (P A B S : List α) (d : List α) (a m b : Int) : Prop :=
  (∃ r, IM le P A B S r ∧ ∀ rec, dY cmp rec d a m b = some r) ∨
  (∃ A1 A2 B1 B2, A = A1 ++ A2 ∧ B = B1 ++ B2 ∧ 0 < A1.length + B1.length ∧ 0 < A2.length + B2.length ∧ (∀ x ∈ A1 ++ B1, ∀ y ∈ A2 ++ B2, le x y) ∧
    ∀ rec, dY cmp rec d a m b = (cond (decide (A1 ≠ [] ∧ B1 ≠ [])) (rec (P ++ A1 ++ B1 ++ A2 ++ B2 ++ S) a (a + (A1.length : Nat)) (a + ((A1.length + B1.length : Nat) : Int))) (some (P ++ A1 ++ B1 ++ A2 ++ B2 ++ S))).bind fun x =>
      cond (decide (A2 ≠ [] ∧ B2 ≠ [])) (rec x (a + ((A1.length + B1.length : Nat) : Int)) (a + ((A1.length + B1.length + A2.length : Nat) : Int)) b) (some x))

theorem VM (C : Cmp ok le cmp) {P B S : List α} {x : α} {a m b : Int} (hx : ok x) (hB : Oks ok B) (hs : Srt le B) (ha : a = (P.length : Nat)) (hm : m = ((P.length + 1 : Nat) : Int)) (hb : b = ((P.length + 1 + B.length : Nat) : Int)) (hl : (P ++ x :: B ++ S).length ≤ 1099511627776) :
    ∃ r, IM le P [x] B S r ∧ ∀ rec, dY cmp rec (P ++ x :: B ++ S) a m b = some r := by
  have hl' := hl
  simp only [List.length_append, List.length_cons] at hl'
  have hgx : (P ++ x :: B ++ S).getD P.length default = x := pY (Q := P) (R := B ++ S) (by simp) rfl
  have hgb : ∀ k, k < B.length → (P ++ x :: B ++ S).getD (P.length + 1 + k) default = B.getD k default := fun k hk => BX (P := P ++ [x]) (B := B) (S := S) (by simp) (by simp) hk
  have hbin : ∀ rec, ∃ s : Nat, P.length + 1 ≤ s ∧ s ≤ P.length + 1 + B.length ∧ (s = P.length + 1 ∨ ¬ le x (B.getD (s - 1 - (P.length + 1)) default)) ∧ (s = P.length + 1 + B.length ∨ ¬ ¬ le x (B.getD (s - (P.length + 1)) default)) ∧
      lp (fun s : List α × Int × Int => nK cmp rec a s.1 s.2.1 s.2.2) (P ++ x :: B ++ S, m, b) = some (P ++ x :: B ++ S, ((s : Nat) : Int)) := by
    intro rec
    rw [hm, hb]
    refine OT (lo := P.length + 1) (hi := P.length + 1 + B.length) (f := fun k => ¬ le x (B.getD (k - (P.length + 1)) default)) ?_ ?_ _ _ _ (Nat.le_refl _) (Nat.le_refl _) (by omega) (Nat.le_refl _) (Or.inl rfl) (Or.inl rfl)
    · intro i j h1 h2 h3
      have hh : (i + j) / 2 - (P.length + 1) < B.length := by omega
      have e1 : (P ++ x :: B ++ S).getD ((i + j) / 2) default = B.getD ((i + j) / 2 - (P.length + 1)) default := by
        have := hgb ((i + j) / 2 - (P.length + 1)) hh
        rwa [show P.length + 1 + ((i + j) / 2 - (P.length + 1)) = (i + j) / 2 by omega] at this
      obtain ⟨v, hc, hv⟩ := C.ans _ x (hB _ (cZ hh)) hx
      refine ⟨decide (v < 0), by simpa using hv, ?_⟩
      show nK cmp rec a _ _ _ = _
      have hlt : decide ((i : Int) < (j : Int)) = true := by simpa using h2
      have hadd : ((i : Int) + (j : Int)) = ((i + j : Nat) : Int) := by omega
      have w1 : IntKind.i64.wrap ((((i + j) / 2 : Nat) : Int) + 1) = (((i + j) / 2 + 1 : Nat) : Int) := by rw [wr (by omega) (by omega)]; omega
      simp only [nK, hlt, cond_true, hadd, half (s := i + j) (by omega), Int.toNat_natCast, ha, e1, hgx, hc, Option.bind_some, w1]
      rw [bC (by omega), bC ⟨by omega, by simp only [List.length_append, List.length_cons]; omega⟩, bC ⟨by omega, by simp only [List.length_append, List.length_cons]; omega⟩]
      by_cases hneg : v < 0 <;> simp [hneg]
    · intro i
      show nK cmp rec a _ _ _ = _
      have hlt : decide ((i : Int) < (i : Int)) = false := by simp
      simp only [nK, hlt, cond_false]
  obtain ⟨s, s1, s2, s3, s4, s5⟩ := hbin (fun _ _ _ _ => none)
  obtain ⟨t, rfl⟩ : ∃ t, s = P.length + 1 + t := ⟨s - (P.length + 1), by omega⟩
  have ht : t ≤ B.length := by omega
  have hx1 : ∀ i, i < t → le (B.getD i default) x := fun i hi => by
    have h3 : ¬ le x (B.getD (t - 1) default) := by
      rcases s3 with h | h
      · omega
      · rwa [show P.length + 1 + t - 1 - (P.length + 1) = t - 1 by omega] at h
    have h4 : le (B.getD (t - 1) default) x := by
      rcases C.total x _ hx (hB _ (cZ (show t - 1 < B.length by omega))) with h | h
      · exact absurd h h3
      · exact h
    exact C.trans _ _ _ (hB _ (cZ (by omega))) (hB _ (cZ (by omega))) hx (rT C hB hs (show i ≤ t - 1 by omega) (by omega)) h4
  have hx2 : ∀ j, t ≤ j → j < B.length → le x (B.getD j default) := fun j hj hj' => by
    have h3 : le x (B.getD t default) := by
      rcases s4 with h | h
      · omega
      · rw [show P.length + 1 + t - (P.length + 1) = t by omega] at h
        exact Classical.not_not.1 h
    exact C.trans _ _ _ hx (hB _ (cZ (by omega))) (hB _ (cZ hj')) h3 (rT C hB hs hj hj')
  have hBs : B.take t ++ B.drop t = B := List.take_append_drop t B
  have hlt : (B.take t).length = t := by rw [List.length_take]; omega
  refine ⟨P ++ (B.take t ++ x :: B.drop t) ++ S, ⟨_, ?_, ?_, rfl⟩, fun rec => ?_⟩
  · have := List.perm_middle (a := x) (l₁ := B.take t) (l₂ := B.drop t)
    rw [hBs] at this; exact this
  · simp only [Srt, List.pairwise_append, List.pairwise_cons]
    refine ⟨MO hs t, ⟨fun z hz => ?_, ML hs t⟩, fun y hy z hz => ?_⟩
    · obtain ⟨j, j1, j2, rfl⟩ := sS hz
      exact hx2 j j1 j2
    · obtain ⟨i, i1, i2, rfl⟩ := CE hy
      rcases List.mem_cons.1 hz with rfl | hz
      · exact hx1 i i1
      · obtain ⟨j, j1, j2, rfl⟩ := sS hz
        exact rT C hB hs (by omega) j2
  · have h1 : decide (IntKind.i64.wrap (m - a) = 1) = true := by rw [wr (by omega) (by omega)]; simp; omega
    have s5' : lp (fun s : List α × Int × Int => nK cmp rec a s.1 s.2.1 s.2.2) (P ++ x :: B ++ S, m, b) = some (P ++ x :: B ++ S, ((P.length + 1 + t : Nat) : Int)) := s5
    simp only [dY, h1, cond_true, AY, s5', Option.bind_some, BA, BG]
    have hmv := XS (cmp := cmp) (rec := rec) (e := ((P.length + 1 + t : Nat) : Int)) (x := x) (B.take t) P (B.drop t ++ S) P.length rfl (by rw [hlt]; congr 1; omega) (by simp only [List.length_append, List.length_cons, List.length_drop]; omega)
    have hd : P ++ x :: B.take t ++ (B.drop t ++ S) = P ++ x :: B ++ S := by
      have : P ++ x :: B.take t ++ (B.drop t ++ S) = P ++ x :: (B.take t ++ B.drop t) ++ S := by simp only [List.append_assoc, List.cons_append]
      rw [this, hBs]
    rw [hd] at hmv
    rw [ha, hmv]
    simp [AW]

theorem WL (C : Cmp ok le cmp) {P A S : List α} {x : α} {a m b : Int} (hx : ok x) (hA : Oks ok A) (hs : Srt le A) (hA1 : A.length ≠ 1) (ha : a = (P.length : Nat)) (hm : m = ((P.length + A.length : Nat) : Int)) (hb : b = ((P.length + A.length + 1 : Nat) : Int)) (hl : (P ++ A ++ x :: S).length ≤ 1099511627776) :
    ∃ r, IM le P A [x] S r ∧ ∀ rec, dY cmp rec (P ++ A ++ x :: S) a m b = some r := by
  have hl' := hl
  simp only [List.length_append, List.length_cons] at hl'
  have hgx : (P ++ A ++ x :: S).getD (P.length + A.length) default = x := pY (Q := P ++ A) (R := S) rfl (by simp)
  have hga : ∀ k, k < A.length → (P ++ A ++ x :: S).getD (P.length + k) default = A.getD k default := fun k hk => BX (P := P) (B := A) (S := x :: S) rfl rfl hk
  have hbin : ∀ rec, ∃ s : Nat, P.length ≤ s ∧ s ≤ P.length + A.length ∧ (s = P.length ∨ le (A.getD (s - 1 - P.length) default) x) ∧ (s = P.length + A.length ∨ ¬ le (A.getD (s - P.length) default) x) ∧
      lp (fun s : List α × Int × Int => nL cmp rec m s.1 s.2.1 s.2.2) (P ++ A ++ x :: S, a, m) = some (P ++ A ++ x :: S, ((s : Nat) : Int)) := by
    intro rec
    rw [ha, hm]
    refine OT (lo := P.length) (hi := P.length + A.length) (f := fun k => le (A.getD (k - P.length) default) x) ?_ ?_ _ _ _ (Nat.le_refl _) (Nat.le_refl _) (by omega) (Nat.le_refl _) (Or.inl rfl) (Or.inl rfl)
    · intro i j h1 h2 h3
      have hh : (i + j) / 2 - P.length < A.length := by omega
      have e1 : (P ++ A ++ x :: S).getD ((i + j) / 2) default = A.getD ((i + j) / 2 - P.length) default := by
        have := hga ((i + j) / 2 - P.length) hh
        rwa [show P.length + ((i + j) / 2 - P.length) = (i + j) / 2 by omega] at this
      obtain ⟨v, hc, hv⟩ := C.ans x _ hx (hA _ (cZ hh))
      refine ⟨!decide (v < 0), by simp only [Bool.not_eq_true', decide_eq_false_iff_not, hv, Classical.not_not], ?_⟩
      show nL cmp rec _ _ _ _ = _
      have hlt : decide ((i : Int) < (j : Int)) = true := by simpa using h2
      have hadd : ((i : Int) + (j : Int)) = ((i + j : Nat) : Int) := by omega
      have w1 : IntKind.i64.wrap ((((i + j) / 2 : Nat) : Int) + 1) = (((i + j) / 2 + 1 : Nat) : Int) := by rw [wr (by omega) (by omega)]; omega
      simp only [nL, hlt, cond_true, hadd, half (s := i + j) (by omega), Int.toNat_natCast, e1, hgx, hc, Option.bind_some, w1]
      rw [bC (by omega), bC ⟨by omega, by simp only [List.length_append, List.length_cons]; omega⟩, bC ⟨by omega, by simp only [List.length_append, List.length_cons]; omega⟩]
      by_cases hneg : v < 0 <;> simp [hneg]
    · intro i
      show nL cmp rec _ _ _ _ = _
      have hlt : decide ((i : Int) < (i : Int)) = false := by simp
      simp only [nL, hlt, cond_false]
  obtain ⟨s, s1, s2, s3, s4, s5⟩ := hbin (fun _ _ _ _ => none)
  obtain ⟨t, rfl⟩ : ∃ t, s = P.length + t := ⟨s - P.length, by omega⟩
  have ht : t ≤ A.length := by omega
  have hx1 : ∀ i, i < t → le (A.getD i default) x := fun i hi => by
    have h4 : le (A.getD (t - 1) default) x := by
      rcases s3 with h | h
      · omega
      · rwa [show P.length + t - 1 - P.length = t - 1 by omega] at h
    exact C.trans _ _ _ (hA _ (cZ (by omega))) (hA _ (cZ (by omega))) hx (rT C hA hs (show i ≤ t - 1 by omega) (by omega)) h4
  have hx2 : ∀ j, t ≤ j → j < A.length → le x (A.getD j default) := fun j hj hj' => by
    have h3 : le x (A.getD t default) := by
      rcases s4 with h | h
      · omega
      · rw [show P.length + t - P.length = t by omega] at h
        rcases C.total x _ hx (hA _ (cZ (show t < A.length by omega))) with h' | h'
        · exact h'
        · exact absurd h' h
    exact C.trans _ _ _ hx (hA _ (cZ (by omega))) (hA _ (cZ hj')) h3 (rT C hA hs hj hj')
  have hAs : A.take t ++ A.drop t = A := List.take_append_drop t A
  have hlt : (A.take t).length = t := by rw [List.length_take]; omega
  refine ⟨P ++ (A.take t ++ x :: A.drop t) ++ S, ⟨_, ?_, ?_, rfl⟩, fun rec => ?_⟩
  · have := List.perm_middle (a := x) (l₁ := A.take t) (l₂ := A.drop t)
    rw [hAs] at this
    exact this.trans (by simpa using (List.perm_append_comm (l₁ := [x]) (l₂ := A)))
  · simp only [Srt, List.pairwise_append, List.pairwise_cons]
    refine ⟨MO hs t, ⟨fun z hz => ?_, ML hs t⟩, fun y hy z hz => ?_⟩
    · obtain ⟨j, j1, j2, rfl⟩ := sS hz
      exact hx2 j j1 j2
    · obtain ⟨i, i1, i2, rfl⟩ := CE hy
      rcases List.mem_cons.1 hz with rfl | hz
      · exact hx1 i i1
      · obtain ⟨j, j1, j2, rfl⟩ := sS hz
        exact rT C hA hs (by omega) j2
  · have h1 : decide (IntKind.i64.wrap (m - a) = 1) = false := by rw [wr (by omega) (by omega)]; simp; omega
    have h2 : decide (IntKind.i64.wrap (b - m) = 1) = true := by rw [wr (by omega) (by omega)]; simp; omega
    have s5' : lp (fun s : List α × Int × Int => nL cmp rec m s.1 s.2.1 s.2.2) (P ++ A ++ x :: S, a, m) = some (P ++ A ++ x :: S, ((P.length + t : Nat) : Int)) := s5
    simp only [dY, h1, cond_false, xT, h2, cond_true, BD, s5', Option.bind_some, DB, BF]
    have hmv := YT (cmp := cmp) (rec := rec) (e := ((P.length + t : Nat) : Int)) (x := x) (Q := P ++ A.take t) (by simp [hlt]) (A.drop t).length (A.drop t) S (P.length + A.length) rfl (by simp only [List.length_append, List.length_drop, hlt]; omega) (by simp only [List.length_append, List.length_cons, List.length_drop, hlt]; omega)
    have hd : P ++ A.take t ++ A.drop t ++ x :: S = P ++ A ++ x :: S := by
      have : P ++ A.take t ++ A.drop t ++ x :: S = P ++ (A.take t ++ A.drop t) ++ x :: S := by simp only [List.append_assoc]
      rw [this, hAs]
    rw [hd] at hmv
    rw [hm, hmv]
    simp [CY]

theorem YU (C : Cmp ok le cmp) {P A B S : List α} {a m b : Int} (hA : Oks ok A) (hB : Oks ok B) (hsA : Srt le A) (hsB : Srt le B) (hA2 : 2 ≤ A.length) (hB2 : 2 ≤ B.length)
    (ha : a = (P.length : Nat)) (hm : m = ((P.length + A.length : Nat) : Int)) (hb : b = ((P.length + A.length + B.length : Nat) : Int)) (hl : (P ++ A ++ B ++ S).length ≤ 1099511627776) :
    QS cmp le P A B S (P ++ A ++ B ++ S) a m b := by
  right
  have hl' := hl
  simp only [List.length_append] at hl'
  -- the middle
  obtain ⟨mid, hmid⟩ : ∃ mid : Nat, mid = (P.length + (P.length + A.length + B.length)) / 2 := ⟨_, rfl⟩
  have hga : ∀ k, P.length ≤ k → k < P.length + A.length → (P ++ A ++ B ++ S).getD k default = A.getD (k - P.length) default := fun k h1 h2 => BX (P := P) (B := A) (S := B ++ S) (by simp) (by omega) (by omega)
  have hgb : ∀ k, P.length + A.length ≤ k → k < P.length + A.length + B.length → (P ++ A ++ B ++ S).getD k default = B.getD (k - (P.length + A.length)) default := fun k h1 h2 => BX (P := P ++ A) (B := B) (S := S) (by simp) (by simp; omega) (by omega)
  -- the search
  obtain ⟨lo, hi, hlo, hhi, hbnd, hlohi, hrange, hinit⟩ : ∃ lo hi : Nat, (lo = P.length ∨ lo + (P.length + A.length + B.length) = mid + (P.length + A.length)) ∧ (hi = P.length + A.length ∨ hi = mid) ∧ (P.length ≤ lo ∧ mid + (P.length + A.length) ≤ lo + (P.length + A.length + B.length) ∧ hi ≤ P.length + A.length ∧ hi ≤ mid) ∧ lo ≤ hi ∧
      (∀ c, lo ≤ c → c < hi → P.length ≤ c ∧ c < P.length + A.length ∧ P.length + A.length ≤ mid + (P.length + A.length) - 1 - c ∧ mid + (P.length + A.length) - 1 - c < P.length + A.length + B.length) ∧
      (∀ rec, uQ cmp rec (P ++ A ++ B ++ S) a m b = uV cmp rec (P ++ A ++ B ++ S) a m b (mid : Int) ((mid + (P.length + A.length) : Nat) : Int) (lo : Int) (hi : Int)) := by
    have hw0 : IntKind.i64.wrap (Int.fdiv (IntKind.u64.wrap (IntKind.i64.wrap (a + b))) (2 ^ (min (Int.toNat (1 : Int)) 64))) = ((mid : Nat) : Int) := by
      rw [show a + b = ((P.length + (P.length + A.length + B.length) : Nat) : Int) by omega, half (by omega), hmid]
    have hw1 : IntKind.i64.wrap ((mid : Int) + m) = ((mid + (P.length + A.length) : Nat) : Int) := by rw [wr (by omega) (by omega)]; omega
    by_cases hc : mid < P.length + A.length
    · refine ⟨mid + (P.length + A.length) - (P.length + A.length + B.length), mid, Or.inr (by omega), Or.inr (by omega), by omega, by omega, fun c h1 h2 => ⟨by omega, by omega, by omega, by omega⟩, fun rec => ?_⟩
      have hlt : decide ((mid : Int) < m) = true := by simp; omega
      simp only [uQ, hw0, hlt, cond_true, hw1]
      rw [bC (by omega), show IntKind.i64.wrap (((mid + (P.length + A.length) : Nat) : Int) - b) = ((mid + (P.length + A.length) - (P.length + A.length + B.length) : Nat) : Int) by rw [wr (by omega) (by omega)]; omega]
    · refine ⟨P.length, P.length + A.length, Or.inl rfl, Or.inl rfl, by omega, by omega, fun c h1 h2 => ⟨by omega, by omega, by omega, by omega⟩, fun rec => ?_⟩
      have hlt : decide ((mid : Int) < m) = false := by simp; omega
      simp only [uQ, hw0, hlt, cond_false, hw1]
      rw [bC (by omega)]
      rw [ha, hm]
  have hbin : ∀ rec, ∃ s : Nat, lo ≤ s ∧ s ≤ hi ∧ (s = lo ∨ le (A.getD (s - 1 - P.length) default) (B.getD (mid + (P.length + A.length) - 1 - (s - 1) - (P.length + A.length)) default)) ∧ (s = hi ∨ ¬ le (A.getD (s - P.length) default) (B.getD (mid + (P.length + A.length) - 1 - s - (P.length + A.length)) default)) ∧
      lp (fun s : List α × Int × Int => oJ cmp rec a m b (mid : Int) ((mid + (P.length + A.length) : Nat) : Int) ((mid + (P.length + A.length) - 1 : Nat) : Int) s.1 s.2.1 s.2.2) (P ++ A ++ B ++ S, (lo : Int), (hi : Int)) = some (P ++ A ++ B ++ S, ((s : Nat) : Int)) := by
    intro rec
    refine OT (lo := lo) (hi := hi) (f := fun k => le (A.getD (k - P.length) default) (B.getD (mid + (P.length + A.length) - 1 - k - (P.length + A.length)) default)) ?_ ?_ _ _ _ (Nat.le_refl _) (Nat.le_refl _) hlohi (Nat.le_refl _) (Or.inl rfl) (Or.inl rfl)
    · intro i j h1 h2 h3
      obtain ⟨r1, r2, r3, r4⟩ := hrange ((i + j) / 2) (by omega) (by omega)
      have e1 := hga ((i + j) / 2) r1 r2
      have e2 := hgb (mid + (P.length + A.length) - 1 - (i + j) / 2) r3 r4
      obtain ⟨v, hc, hv⟩ := C.ans (B.getD (mid + (P.length + A.length) - 1 - (i + j) / 2 - (P.length + A.length)) default) (A.getD ((i + j) / 2 - P.length) default) (hB _ (cZ (by omega))) (hA _ (cZ (by omega)))
      refine ⟨!decide (v < 0), by simp only [Bool.not_eq_true', decide_eq_false_iff_not, hv, Classical.not_not], ?_⟩
      show oJ cmp rec _ _ _ _ _ _ _ _ _ = _
      have hlt : decide ((i : Int) < (j : Int)) = true := by simpa using h2
      have hadd : ((i : Int) + (j : Int)) = ((i + j : Nat) : Int) := by omega
      have w1 : IntKind.i64.wrap ((((i + j) / 2 : Nat) : Int) + 1) = (((i + j) / 2 + 1 : Nat) : Int) := by rw [wr (by omega) (by omega)]; omega
      have w2 : IntKind.i64.wrap (((mid + (P.length + A.length) - 1 : Nat) : Int) - (((i + j) / 2 : Nat) : Int)) = ((mid + (P.length + A.length) - 1 - (i + j) / 2 : Nat) : Int) := by rw [wr (by omega) (by omega)]; omega
      simp only [oJ, hlt, cond_true, hadd, half (s := i + j) (by omega), w1, w2, Int.toNat_natCast, e1, e2, hc, Option.bind_some]
      rw [bC (by omega), bC ⟨by omega, by simp only [List.length_append]; omega⟩, bC ⟨by omega, by simp only [List.length_append]; omega⟩]
      by_cases hneg : v < 0 <;> simp [hneg]
    · intro i
      show oJ cmp rec _ _ _ _ _ _ _ _ _ = _
      have hlt : decide ((i : Int) < (i : Int)) = false := by simp
      simp only [oJ, hlt, cond_false]
  obtain ⟨s, s1, s2, s3, s4, s5⟩ := hbin (fun _ _ _ _ => none)
  have hsA0 : P.length ≤ s ∧ s ≤ P.length + A.length := by
    omega
  have hsB0 : P.length + A.length ≤ mid + (P.length + A.length) - s ∧ mid + (P.length + A.length) - s ≤ P.length + A.length + B.length := by
    omega
  obtain ⟨t, rfl⟩ : ∃ t, s = P.length + t := ⟨s - P.length, by omega⟩
  obtain ⟨u, hu⟩ : ∃ u, mid + (P.length + A.length) - (P.length + t) = P.length + A.length + u := ⟨mid + (P.length + A.length) - (P.length + t) - (P.length + A.length), by omega⟩
  have htA : t ≤ A.length := by omega
  have huB : u ≤ B.length := by omega
  have hmtu : mid = P.length + t + u := by omega
  have hAs : A.take t ++ A.drop t = A := List.take_append_drop t A
  have hBs : B.take u ++ B.drop u = B := List.take_append_drop u B
  have hlA1 : (A.take t).length = t := by rw [List.length_take]; omega
  have hlA2 : (A.drop t).length = A.length - t := by rw [List.length_drop]
  have hlB1 : (B.take u).length = u := by rw [List.length_take]; omega
  have hlB2 : (B.drop u).length = B.length - u := by rw [List.length_drop]
  refine ⟨A.take t, A.drop t, B.take u, B.drop u, hAs.symm, hBs.symm, by rw [hlA1, hlB1]; omega, by rw [hlA2, hlB2]; omega, ?_, fun rec => ?_⟩
  · -- who stands ahead of whom
    intro x hx y hy
    rcases List.mem_append.1 hx with hx | hx
    · obtain ⟨i, i1, i2, rfl⟩ := CE hx
      rcases List.mem_append.1 hy with hy | hy
      · obtain ⟨j, j1, j2, rfl⟩ := sS hy
        exact rT C hA hsA (by omega) j2
      · obtain ⟨j, j1, j2, rfl⟩ := sS hy
        have h3 : le (A.getD (t - 1) default) (B.getD u default) := by
          rcases s3 with h | h
          · rcases hlo with h' | h' <;> omega
          · rwa [show P.length + t - 1 - P.length = t - 1 by omega, show mid + (P.length + A.length) - 1 - (P.length + t - 1) - (P.length + A.length) = u by omega] at h
        exact C.trans _ _ _ (hA _ (cZ i2)) (hA _ (cZ (by omega))) (hB _ (cZ j2)) (rT C hA hsA (show i ≤ t - 1 by omega) (by omega))
          (C.trans _ _ _ (hA _ (cZ (by omega))) (hB _ (cZ (by omega))) (hB _ (cZ j2)) h3 (rT C hB hsB j1 j2))
    · obtain ⟨i, i1, i2, rfl⟩ := CE hx
      rcases List.mem_append.1 hy with hy | hy
      · obtain ⟨j, j1, j2, rfl⟩ := sS hy
        have h3 : le (B.getD (u - 1) default) (A.getD t default) := by
          have h0 : ¬ le (A.getD t default) (B.getD (u - 1) default) := by
            rcases s4 with h | h
            · rcases hhi with h' | h' <;> omega
            · rwa [show P.length + t - P.length = t by omega, show mid + (P.length + A.length) - 1 - (P.length + t) - (P.length + A.length) = u - 1 by omega] at h
          rcases C.total _ _ (hA _ (cZ (show t < A.length by omega))) (hB _ (cZ (show u - 1 < B.length by omega))) with h | h
          · exact absurd h h0
          · exact h
        exact C.trans _ _ _ (hB _ (cZ i2)) (hB _ (cZ (by omega))) (hA _ (cZ j2)) (rT C hB hsB (show i ≤ u - 1 by omega) (by omega))
          (C.trans _ _ _ (hB _ (cZ (by omega))) (hA _ (cZ (by omega))) (hA _ (cZ j2)) h3 (rT C hA hsA j1 j2))
      · obtain ⟨j, j1, j2, rfl⟩ := sS hy
        exact rT C hB hsB (by omega) j2
  · have h1 : decide (IntKind.i64.wrap (m - a) = 1) = false := by rw [wr (by omega) (by omega)]; simp; omega
    have h2 : decide (IntKind.i64.wrap (b - m) = 1) = false := by rw [wr (by omega) (by omega)]; simp; omega
    have s5' : lp (fun s : List α × Int × Int => oJ cmp rec a m b (mid : Int) ((mid + (P.length + A.length) : Nat) : Int) ((mid + (P.length + A.length) - 1 : Nat) : Int) s.1 s.2.1 s.2.2) (P ++ A ++ B ++ S, (lo : Int), (hi : Int)) = some (P ++ A ++ B ++ S, ((P.length + t : Nat) : Int)) := s5
    have hp : IntKind.i64.wrap (((mid + (P.length + A.length) : Nat) : Int) - 1) = ((mid + (P.length + A.length) - 1 : Nat) : Int) := by rw [wr (by omega) (by omega)]; omega
    have he : IntKind.i64.wrap (((mid + (P.length + A.length) : Nat) : Int) - ((P.length + t : Nat) : Int)) = ((P.length + A.length + u : Nat) : Int) := by rw [wr (by omega) (by omega)]; omega
    simp only [dY, h1, cond_false, xT, h2, hinit rec, uV, CX, hp, s5', Option.bind_some, CV, he]
    -- the turn
    have hd : P ++ A ++ B ++ S = (P ++ A.take t) ++ A.drop t ++ B.take u ++ (B.drop u ++ S) := by
      have : (P ++ A.take t) ++ A.drop t ++ B.take u ++ (B.drop u ++ S) = P ++ (A.take t ++ A.drop t) ++ (B.take u ++ B.drop u) ++ S := by simp only [List.append_assoc]
      rw [this, hAs, hBs]
    have hrot : cond (decide (((P.length + t : Nat) : Int) < m) && decide (m < ((P.length + A.length + u : Nat) : Int)))
        ((zU (P ++ A ++ B ++ S) ((P.length + t : Nat) : Int) m ((P.length + A.length + u : Nat) : Int) cmp).bind fun x10 => pZ cmp rec x10 a b (mid : Int) ((P.length + t : Nat) : Int) ((P.length + A.length + u : Nat) : Int))
        (pZ cmp rec (P ++ A ++ B ++ S) a b (mid : Int) ((P.length + t : Nat) : Int) ((P.length + A.length + u : Nat) : Int))
        = pZ cmp rec (P ++ A.take t ++ B.take u ++ A.drop t ++ B.drop u ++ S) a b (mid : Int) ((P.length + t : Nat) : Int) ((P.length + A.length + u : Nat) : Int) := by
      by_cases hc : t < A.length ∧ 0 < u
      · have : (decide (((P.length + t : Nat) : Int) < m) && decide (m < ((P.length + A.length + u : Nat) : Int))) = true := by simp; omega
        rw [this, cond_true, aAv (Q := P ++ A.take t) (X := A.drop t) (Y := B.take u) (R := B.drop u ++ S) hd (fun h => by rw [h] at hlA2; simp at hlA2; omega) (fun h => by rw [h] at hlB1; simp at hlB1; omega)
          (by simp only [List.length_append, hlA1]) (by simp only [List.length_append, hlA1, hlA2]; rw [hm]; congr 1; omega) (by simp only [List.length_append, hlA1, hlA2, hlB1]; congr 1; omega) hl]
        simp
      · have : (decide (((P.length + t : Nat) : Int) < m) && decide (m < ((P.length + A.length + u : Nat) : Int))) = false := by
          rw [Bool.eq_false_iff]; intro h; simp at h; apply hc; omega
        rw [this, cond_false, hd]
        congr 1
        by_cases h0 : t < A.length
        · have : u = 0 := by omega
          subst this; simp
        · have hz : A.drop t = [] := List.drop_eq_nil_of_le (by omega)
          simp only [hz, List.append_nil, List.append_assoc, List.nil_append]
    rw [hrot]
    have hne1 : decide (A.take t ≠ [] ∧ B.take u ≠ []) = (decide (a < ((P.length + t : Nat) : Int)) && decide (((P.length + t : Nat) : Int) < (mid : Int))) := by
      have q1 : A.take t ≠ [] ↔ 0 < t := by rw [← List.length_pos_iff, hlA1]
      have q2 : B.take u ≠ [] ↔ 0 < u := by rw [← List.length_pos_iff, hlB1]
      rw [Bool.eq_iff_iff]; simp [q1, q2]; omega
    have hne2 : decide (A.drop t ≠ [] ∧ B.drop u ≠ []) = (decide ((mid : Int) < ((P.length + A.length + u : Nat) : Int)) && decide (((P.length + A.length + u : Nat) : Int) < b)) := by
      have q1 : A.drop t ≠ [] ↔ t < A.length := by rw [← List.length_pos_iff, hlA2]; omega
      have q2 : B.drop u ≠ [] ↔ u < B.length := by rw [← List.length_pos_iff, hlB2]; omega
      rw [Bool.eq_iff_iff]; simp [q1, q2]; omega
    rw [hne1, hne2, hlA1, hlB1, hlA2]
    have f1 : a + ((t : Nat) : Int) = ((P.length + t : Nat) : Int) := by omega
    have f2 : a + ((t + u : Nat) : Int) = (mid : Int) := by omega
    have f3 : a + ((t + u + (A.length - t) : Nat) : Int) = ((P.length + A.length + u : Nat) : Int) := by omega
    rw [f1, f2, f3]
    simp only [pZ, xS]
    cases (decide (a < ((P.length + t : Nat) : Int)) && decide (((P.length + t : Nat) : Int) < (mid : Int))) <;> simp only [cond_true, cond_false, Option.bind_some, Option.bind_fun_some]

end sym
end Go.Abs
namespace Go.Abs
open Go
variable {α : Type} [Inhabited α] {ok : α → Prop} {le : α → α → Prop} {cmp : α → α → Option Int}
theorem ZP (C : Cmp ok le cmp) {P A B S : List α} {a m b : Int} (hA : A ≠ []) (hB : B ≠ []) (oA : Oks ok A) (oB : Oks ok B) (sA : Srt le A) (sB : Srt le B)
    (ha : a = (P.length : Nat)) (hm : m = ((P.length + A.length : Nat) : Int)) (hb : b = ((P.length + A.length + B.length : Nat) : Int)) (hl : (P ++ A ++ B ++ S).length ≤ 1099511627776) : QS cmp le P A B S (P ++ A ++ B ++ S) a m b := by
  by_cases h1 : A.length = 1
  · obtain ⟨x, rfl⟩ := List.length_eq_one_iff.1 h1
    left
    obtain ⟨r, h, h'⟩ := VM C (P := P) (S := S) (x := x) (oA x (by simp)) oB sB ha (by simpa using hm) (by simpa using hb) (by simpa using hl)
    exact ⟨r, h, fun rec => by have := h' rec; simpa using this⟩
  · by_cases h2 : B.length = 1
    · obtain ⟨x, rfl⟩ := List.length_eq_one_iff.1 h2
      left
      obtain ⟨r, h, h'⟩ := WL C (P := P) (S := S) (x := x) (oB x (by simp)) oA sA h1 ha hm (by simpa using hb) (by simpa using hl)
      exact ⟨r, h, fun rec => by have := h' rec; simpa using this⟩
    · have p1 := List.length_pos_iff.2 hA
      have p2 := List.length_pos_iff.2 hB
      exact YU C oA oB sA sB (by omega) (by omega) ha hm hb hl

end Go.Abs
