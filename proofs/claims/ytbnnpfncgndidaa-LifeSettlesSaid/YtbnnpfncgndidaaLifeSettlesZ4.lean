/- What the law LifeSettles stands on: the framework, the given functions as plain functions, their walks, and the plain laws; part 4. -/
import Derived.Test.YtbnnpfncgndidaaLifeSettlesZ3
set_option linter.unusedSimpArgs false
set_option linter.unusedVariables false
namespace Go.Abs
open Go Go.RowKit Go.Proofs
theorem tW (lo0p : Nat) (aA : (List aB)) (n1 : Int) (cmp2_f : Nat) (cmp2_a cmp2_c : List V) (cmp2 : aB → aB → Option Int) (cmp2_h : ∀ a0 a1 r, cmp2 a0 a1 = some r → bU Try.prog cmp2_f (cmp2_a ++ [(aD a0), (aD a1)] ++ cmp2_c) (eI r)) (r : List aB) (h0 : eC aA n1 cmp2 = some r) : jX Try.prog 117 lo0p 2 (List.map aD aA) (List.map aD r) [(.msl 2 lo0p 0 (List.length aA)), (eI n1), (.fn (.func cmp2_f) cmp2_a cmp2_c)] (.tup []) := by
  intro H0 hl0
  refine cB Try.func117 ?_
  have hO := aN.oJ hl0
  clear hl0
  obtain ⟨N0, hN0⟩ : ∃ n, n = List.length aA := ⟨_, rfl⟩
  have hN : List.length aA = N0 := hN0.symm
  unfold eC at h0
  refine aT aG 1 [] [(6, (eI (20 : Int)))] ?_
  refine aT aG 3 [] [(7, (eI (0 : Int))), (8, (eI (20 : Int)))] ?_
  refine dJ (fun T H => ∃ aA : List aB, ∃ aL : Int, ∃ a7 : Int, Has T [(0, (.msl 2 lo0p 0 (List.length aA))), (1, (eI n1)), (2, (.fn (.func cmp2_f) cmp2_a cmp2_c)), (6, (eI aL)), (7, (eI a7))] ∧ aN ⟨H0, [lo0p], []⟩ H [(lo0p, 2, List.map aD aA)] ∧ List.length aA = N0 ∧ dY cmp2 aA n1 aL a7 = some r) ?_ ?_
  · clear hO hN h0
    rintro T H ⟨aA, aL, a7, hT, hO, hN, h0⟩
    refine aZ hT ?_
    clear hT
    unfold dY at h0
    refine aP ?_
    refine aS aG 5 ?_
    refine bI 4 ?_
    obtain ⟨x1, hx2, h0⟩ := aV h0
    refine mT [(lo0p, 2, List.map aD x1)] 0 (lR lo0p aA a7 n1 cmp2_f cmp2_a cmp2_c cmp2 cmp2_h _ hx2) hO ?_
    intro H hO hl3
    simp only [List.length_map] at hl3
    replace hN := hl3.trans hN
    refine cQ ?_
    refine cE (l := [(0, (.msl 2 lo0p 0 (List.length x1))), (1, (eI n1)), (2, (.fn (.func cmp2_f) cmp2_a cmp2_c)), (6, (eI aL))]) ⟨[(0, (.msl 2 lo0p 0 (List.length aA))), (1, (eI n1)), (2, (.fn (.func cmp2_f) cmp2_a cmp2_c)), (6, (eI aL))], by kernel_rfl, rfl, ⟨aR.eq (by simp [hl3]), aR.refl _, aR.refl _, aR.refl _, trivial⟩⟩ ?_
    refine aI (aH (?_))
    refine bR 2 ?_
    refine dQ [(0, (.msl 2 lo0p 0 (List.length x1))), (1, (eI n1)), (2, (.fn (.func cmp2_f) cmp2_a cmp2_c)), (6, (eI aL))] ?_
    refine cV (fun T H => ∃ aA : List aB, ∃ aL : Int, Has T [(0, (.msl 2 lo0p 0 (List.length aA))), (1, (eI n1)), (2, (.fn (.func cmp2_f) cmp2_a cmp2_c)), (6, (eI aL))] ∧ aN ⟨H0, [lo0p], []⟩ H [(lo0p, 2, List.map aD aA)] ∧ List.length aA = N0 ∧ gL cmp2 aA n1 aL = some r) ?_ ⟨x1, aL, .eq (by kernel_rfl), hO, hN, h0⟩
    clear hO hN h0
    rintro T H ⟨aA, aL, hT, hO, hN, h0⟩
    refine aZ hT ?_
    clear hT
    unfold gL at h0
    obtain ⟨rr0, hl0, h0⟩ := aV h0
    refine bZ (by kernel_rfl) (fun (s : List aB × Int) T H => Has T [(0, (.msl 2 lo0p 0 (List.length s.1))), (1, (eI n1)), (2, (.fn (.func cmp2_f) cmp2_a cmp2_c)), (6, (eI s.2))] ∧ aN ⟨H0, [lo0p], []⟩ H [(lo0p, 2, List.map aD s.1)] ∧ List.length s.1 = N0) hl0 ⟨.eq (by kernel_rfl), hO, hN⟩ ?_
    clear hO hN
    rintro k0 s out1 T H ⟨hT, hO, hN⟩ h1 ho0
    obtain ⟨aA, aL⟩ := s
    replace h1 : gM cmp2 n1 aA aL = some out1 := h1
    dsimp only at hT
    refine aZ hT ?_
    clear hT
    unfold gM at h1
    refine aP ?_
    refine aT aG 3 [] [(30, (aJ (decide (aL < n1))))] ?_
    refine bH h1 (fun h1 => ?_) (fun h1 => ?_)
    · refine bK ?_
      refine bD [(0, (.msl 2 lo0p 0 (List.length aA))), (1, (eI n1)), (2, (.fn (.func cmp2_f) cmp2_a cmp2_c)), (6, (eI aL))] ?_
      refine bR 3 ?_
      refine aT aG 4 [] [(7, (eI (0 : Int))), (8, (eI (wR ((2 : Int) * aL))))] ?_
      refine dJ (fun T H => ∃ aA : List aB, ∃ a7 : Int, Has T [(0, (.msl 2 lo0p 0 (List.length aA))), (1, (eI n1)), (2, (.fn (.func cmp2_f) cmp2_a cmp2_c)), (6, (eI aL)), (7, (eI a7))] ∧ aN ⟨H0, [lo0p], []⟩ H [(lo0p, 2, List.map aD aA)] ∧ List.length aA = N0 ∧ dV cmp2 aA n1 aL a7 = some out1) ?_ ?_
      · clear hO hN h1
        rintro T H ⟨aA, a7, hT, hO, hN, h1⟩
        refine aZ hT ?_
        clear hT
        unfold dV at h1
        refine dJ (fun T H => ∃ aA : List aB, Has T [(0, (.msl 2 lo0p 0 (List.length aA))), (1, (eI n1)), (2, (.fn (.func cmp2_f) cmp2_a cmp2_c)), (6, (eI aL))] ∧ aN ⟨H0, [lo0p], []⟩ H [(lo0p, 2, List.map aD aA)] ∧ List.length aA = N0 ∧ gH cmp2 aA n1 aL = some out1) ?_ ?_
        · clear hO hN h1
          rintro T H ⟨aA, hT, hO, hN, h1⟩
          refine aZ hT ?_
          clear hT
          unfold gH at h1
          refine aS aG 3 ?_
          refine bA ?_
          exact aI (aX (aH (⟨rfl, _, (oI h1).symm, .eq (by kernel_rfl), hO, hN⟩)))
        refine aT aG 4 [] [(9, (eI (wR (a7 + aL))))] ?_
        refine aT aG 3 [] [(54, (aJ (decide ((wR (a7 + aL)) < n1))))] ?_
        refine bH h1 (fun h1 => ?_) (fun h1 => ?_)
        · refine aS aG 6 ?_
          refine bI 5 ?_
          obtain ⟨x6, hx7, h1⟩ := aV h1
          refine mT [(lo0p, 2, List.map aD x6)] 0 (mU lo0p aA a7 (wR (a7 + aL)) n1 cmp2_f cmp2_a cmp2_c cmp2 cmp2_h _ hx7) hO ?_
          intro H hO hl8
          simp only [List.length_map] at hl8
          replace hN := hl8.trans hN
          refine cQ ?_
          refine cE (l := [(0, (.msl 2 lo0p 0 (List.length x6))), (1, (eI n1)), (2, (.fn (.func cmp2_f) cmp2_a cmp2_c)), (6, (eI aL))]) ⟨[(0, (.msl 2 lo0p 0 (List.length aA))), (1, (eI n1)), (2, (.fn (.func cmp2_f) cmp2_a cmp2_c)), (6, (eI aL))], by kernel_rfl, rfl, ⟨aR.eq (by simp [hl8]), aR.refl _, aR.refl _, aR.refl _, trivial⟩⟩ ?_
          exact aI (aH (⟨rfl, _, .eq (by kernel_rfl), hO, hN, h1⟩))
        refine bK ?_
        exact aI (aH (⟨rfl, _, .eq (by kernel_rfl), hO, hN, h1⟩))
      refine bR 4 ?_
      refine dQ [(0, (.msl 2 lo0p 0 (List.length aA))), (1, (eI n1)), (2, (.fn (.func cmp2_f) cmp2_a cmp2_c)), (6, (eI aL)), (7, (eI (0 : Int))), (8, (eI (wR ((2 : Int) * aL))))] ?_
      refine cV (fun T H => ∃ aA : List aB, ∃ a7 : Int, ∃ b8 : Int, Has T [(0, (.msl 2 lo0p 0 (List.length aA))), (1, (eI n1)), (2, (.fn (.func cmp2_f) cmp2_a cmp2_c)), (6, (eI aL)), (7, (eI a7)), (8, (eI b8))] ∧ aN ⟨H0, [lo0p], []⟩ H [(lo0p, 2, List.map aD aA)] ∧ List.length aA = N0 ∧ gK cmp2 aA n1 aL a7 b8 = some out1) ?_ ⟨aA, (0 : Int), wR ((2 : Int) * aL), .eq (by kernel_rfl), hO, hN, h1⟩
      clear hO hN h1
      rintro T H ⟨aA, a7, b8, hT, hO, hN, h1⟩
      refine aZ hT ?_
      clear hT
      unfold gK at h1
      obtain ⟨rr1, hl1, h1⟩ := aV h1
      refine bZ (by kernel_rfl) (fun (s : List aB × Int × Int) T H => Has T [(0, (.msl 2 lo0p 0 (List.length s.1))), (1, (eI n1)), (2, (.fn (.func cmp2_f) cmp2_a cmp2_c)), (6, (eI aL)), (7, (eI s.2.1)), (8, (eI s.2.2))] ∧ aN ⟨H0, [lo0p], []⟩ H [(lo0p, 2, List.map aD s.1)] ∧ List.length s.1 = N0) hl1 ⟨.eq (by kernel_rfl), hO, hN⟩ ?_
      clear hO hN
      rintro k1 s out2 T H ⟨hT, hO, hN⟩ h2 ho1
      obtain ⟨aA, a7, b8⟩ := s
      replace h2 : fW cmp2 n1 aL aA a7 b8 = some out2 := h2
      dsimp only at hT
      refine aZ hT ?_
      clear hT
      unfold fW at h2
      refine aP ?_
      refine aT aG 3 [] [(35, (aJ (decide (b8 ≤ n1))))] ?_
      refine bH h2 (fun h2 => ?_) (fun h2 => ?_)
      · refine bK ?_
        refine bD [(0, (.msl 2 lo0p 0 (List.length aA))), (1, (eI n1)), (2, (.fn (.func cmp2_f) cmp2_a cmp2_c)), (6, (eI aL)), (7, (eI a7)), (8, (eI b8))] ?_
        refine bR 5 ?_
        refine aP ?_
        refine aS aG 8 ?_
        refine bI 7 ?_
        obtain ⟨x10, hx11, h2⟩ := aV h2
        refine mT [(lo0p, 2, List.map aD x10)] 0 (mU lo0p aA a7 (wR (a7 + aL)) b8 cmp2_f cmp2_a cmp2_c cmp2 cmp2_h _ hx11) hO ?_
        intro H hO hl12
        simp only [List.length_map] at hl12
        replace hN := hl12.trans hN
        refine cQ ?_
        refine cE (l := [(0, (.msl 2 lo0p 0 (List.length x10))), (1, (eI n1)), (2, (.fn (.func cmp2_f) cmp2_a cmp2_c)), (6, (eI aL)), (8, (eI b8))]) ⟨[(0, (.msl 2 lo0p 0 (List.length aA))), (1, (eI n1)), (2, (.fn (.func cmp2_f) cmp2_a cmp2_c)), (6, (eI aL)), (8, (eI b8))], by kernel_rfl, rfl, ⟨aR.eq (by simp [hl12]), aR.refl _, aR.refl _, aR.refl _, aR.refl _, trivial⟩⟩ ?_
        refine aI (aH (?_))
        refine aT aG 2 [] [(7, (eI b8))] ?_
        refine aS aG 5 ?_
        refine bA ?_
        exact aI (aX (aH (⟨rfl, _, (oI h2).symm, .eq (by kernel_rfl), hO, hN⟩)))
      refine eR 4 ?_
      obtain rfl := oI h2
      obtain rfl : _ = rr1 := ho1
      replace h1 : dV cmp2 aA n1 aL a7 = some out1 := h1
      exact aI (aU (aU (bM (aH (⟨rfl, _, _, .eq (by kernel_rfl), hO, hN, h1⟩)))))
    refine eR 2 ?_
    obtain rfl := oI h1
    obtain rfl : _ = rr0 := ho0
    replace h0 : some aA = some r := h0
    obtain rfl := oI h0
    exact aI (aU (aU (bM (pK (x := (.tup [])) (by kernel_rfl) (aR.refl _) ⟨rfl, hO.ext, hO.at 0 (by kernel_rfl), by simp only [List.length_map]; exact hN.trans hN0⟩))))
  refine bR 0 ?_
  refine dQ [(0, (.msl 2 lo0p 0 (List.length aA))), (1, (eI n1)), (2, (.fn (.func cmp2_f) cmp2_a cmp2_c)), (6, (eI (20 : Int))), (7, (eI (0 : Int))), (8, (eI (20 : Int)))] ?_
  refine cV (fun T H => ∃ aA : List aB, ∃ aL : Int, ∃ a7 : Int, ∃ b8 : Int, Has T [(0, (.msl 2 lo0p 0 (List.length aA))), (1, (eI n1)), (2, (.fn (.func cmp2_f) cmp2_a cmp2_c)), (6, (eI aL)), (7, (eI a7)), (8, (eI b8))] ∧ aN ⟨H0, [lo0p], []⟩ H [(lo0p, 2, List.map aD aA)] ∧ List.length aA = N0 ∧ fT cmp2 aA n1 aL a7 b8 = some r) ?_ ⟨aA, (20 : Int), (0 : Int), (20 : Int), .eq (by kernel_rfl), hO, hN, h0⟩
  clear hO hN h0
  rintro T H ⟨aA, aL, a7, b8, hT, hO, hN, h0⟩
  refine aZ hT ?_
  clear hT
  unfold fT at h0
  obtain ⟨rr0, hl0, h0⟩ := aV h0
  refine bZ (by kernel_rfl) (fun (s : List aB × Int × Int) T H => Has T [(0, (.msl 2 lo0p 0 (List.length s.1))), (1, (eI n1)), (2, (.fn (.func cmp2_f) cmp2_a cmp2_c)), (6, (eI aL)), (7, (eI s.2.1)), (8, (eI s.2.2))] ∧ aN ⟨H0, [lo0p], []⟩ H [(lo0p, 2, List.map aD s.1)] ∧ List.length s.1 = N0) hl0 ⟨.eq (by kernel_rfl), hO, hN⟩ ?_
  clear hO hN
  rintro k0 s out1 T H ⟨hT, hO, hN⟩ h1 ho0
  obtain ⟨aA, a7, b8⟩ := s
  replace h1 : gC cmp2 n1 aL aA a7 b8 = some out1 := h1
  dsimp only at hT
  refine aZ hT ?_
  clear hT
  unfold gC at h1
  refine aP ?_
  refine aT aG 3 [] [(13, (aJ (decide (b8 ≤ n1))))] ?_
  refine bH h1 (fun h1 => ?_) (fun h1 => ?_)
  · refine bK ?_
    refine bD [(0, (.msl 2 lo0p 0 (List.length aA))), (1, (eI n1)), (2, (.fn (.func cmp2_f) cmp2_a cmp2_c)), (6, (eI aL)), (7, (eI a7)), (8, (eI b8))] ?_
    refine bR 1 ?_
    refine aP ?_
    refine aS aG 5 ?_
    refine bI 4 ?_
    obtain ⟨x14, hx15, h1⟩ := aV h1
    refine mT [(lo0p, 2, List.map aD x14)] 0 (lR lo0p aA a7 b8 cmp2_f cmp2_a cmp2_c cmp2 cmp2_h _ hx15) hO ?_
    intro H hO hl16
    simp only [List.length_map] at hl16
    replace hN := hl16.trans hN
    refine cQ ?_
    refine cE (l := [(0, (.msl 2 lo0p 0 (List.length x14))), (1, (eI n1)), (2, (.fn (.func cmp2_f) cmp2_a cmp2_c)), (6, (eI aL)), (8, (eI b8))]) ⟨[(0, (.msl 2 lo0p 0 (List.length aA))), (1, (eI n1)), (2, (.fn (.func cmp2_f) cmp2_a cmp2_c)), (6, (eI aL)), (8, (eI b8))], by kernel_rfl, rfl, ⟨aR.eq (by simp [hl16]), aR.refl _, aR.refl _, aR.refl _, aR.refl _, trivial⟩⟩ ?_
    refine aI (aH (?_))
    refine aT aG 2 [] [(7, (eI b8))] ?_
    refine aS aG 4 ?_
    refine bA ?_
    exact aI (aX (aH (⟨rfl, _, (oI h1).symm, .eq (by kernel_rfl), hO, hN⟩)))
  refine eR 0 ?_
  obtain rfl := oI h1
  obtain rfl : _ = rr0 := ho0
  replace h0 : dY cmp2 aA n1 aL a7 = some r := h0
  exact aI (aU (aU (bM (aH (⟨rfl, _, _, _, .eq (by kernel_rfl), hO, hN, h0⟩)))))

theorem oX (lo0p : Nat) (x0 : (List aB)) (cmp1_f : Nat) (cmp1_a cmp1_c : List V) (cmp1 : aB → aB → Option Int) (cmp1_h : ∀ a0 a1 r, cmp1 a0 a1 = some r → bU Try.prog cmp1_f (cmp1_a ++ [(aD a0), (aD a1)] ++ cmp1_c) (eI r)) (r : List aB) (h0 : cK x0 cmp1 = some r) : jX Try.prog 100 lo0p 2 (List.map aD x0) (List.map aD r) [(.msl 2 lo0p 0 (List.length x0)), (.fn (.func cmp1_f) cmp1_a cmp1_c)] (.tup []) := by
  intro H0 hl0
  refine cB Try.func100 ?_
  have hO := aN.oJ hl0
  clear hl0
  obtain ⟨N0, hN0⟩ : ∃ n, n = List.length x0 := ⟨_, rfl⟩
  have hN : List.length x0 = N0 := hN0.symm
  unfold cK at h0
  refine aS aG 5 ?_
  refine bI 4 ?_
  obtain ⟨x1, hx2, h0⟩ := aV h0
  refine mT [(lo0p, 2, List.map aD x1)] 0 (tW lo0p x0 (lN x0) cmp1_f cmp1_a cmp1_c cmp1 cmp1_h _ hx2) hO ?_
  intro H hO hl3
  simp only [List.length_map] at hl3
  replace hN := hl3.trans hN
  refine cQ ?_
  refine cE (l := [(0, (.msl 2 lo0p 0 (List.length x1)))]) ⟨[(0, (.msl 2 lo0p 0 (List.length x0)))], by kernel_rfl, rfl, ⟨aR.eq (by simp [hl3]), trivial⟩⟩ ?_
  obtain rfl := oI h0
  exact aI (pK (x := (.tup [])) (by kernel_rfl) (aR.refl _) ⟨rfl, hO.ext, hO.at 0 (by kernel_rfl), by simp only [List.length_map]; exact hN.trans hN0⟩)

theorem JX (a0 : aB) (b1 : aB) (r : Int) (h0 : lM a0 b1 = some r) : bU Try.prog 101 [(aD a0), (aD b1)] (eI r) := by
  intro H0
  refine cB Try.func101 ?_
  have hO := aN.start H0
  unfold lM at h0
  refine aP ?_
  refine aS aG 3 ?_
  refine kC 2 (aD a0) (by kernel_rfl) (by kernel_rfl) ?_
  refine kC 2 (aD b1) (by kernel_rfl) (by kernel_rfl) ?_
  refine bA ?_
  refine bD [(2, (.rp (aD a0))), (3, (.rp (aD b1)))] ?_
  refine aP ?_
  refine aS aG 6 ?_
  refine bI 4 ?_
  obtain ⟨x1, hx2, h0⟩ := aV h0
  refine cD (sE a0.At b1.At _ hx2) hO ?_
  intro H hO
  refine bA ?_
  refine bD [(4, (eI x1))] ?_
  refine bG ?_
  obtain rfl := oI h0
  exact aI (Q_r hO)

theorem yH (f0 : (List aB)) (r : ((List aB) × Int)) (h0 : nB f0 = some r) : bU Try.prog 102 [(eL aD f0)] (.tup [(eL aD r.1), (eI r.2)]) := by
  intro H0
  refine cB Try.func102 ?_
  have hO := aN.start H0
  unfold nB at h0
  refine aT aG 2 [] [] ?_
  refine aP ?_
  refine aP ?_
  refine aS aG 3 ?_
  refine bI 1 ?_
  obtain ⟨x1, hx2, h0⟩ := aV h0
  refine cD (rR f0 _ hx2) hO ?_
  intro H hO
  refine bA ?_
  refine bO [] [(6, (aJ (!x1)))] ?_
  refine bH h0 (fun h0 => ?_) (fun h0 => ?_)
  · refine bT aG 2 [(2, (.sl true 0 (fun _ => .bad))), (3, (eI (7 : Int)))] ?_
    refine bG ?_
    refine cE (l := [(2, (eL aD ([]))), (3, (eI (7 : Int)))]) ⟨[(2, (.sl true 0 (fun _ => .bad))), (3, (eI (7 : Int)))], by kernel_rfl, rfl, ⟨iQ, aR.refl _, trivial⟩⟩ ?_
    obtain rfl := oI h0
    exact aI (aW (Q_r hO))
  refine bK ?_
  refine bD [(0, (eL aD f0))] ?_
  refine bT aG 3 [(2, (eL aD f0)), (3, (eI (0 : Int)))] ?_
  refine bG ?_
  obtain rfl := oI h0
  exact aI (Q_r hO)

theorem OT (l0 : (List aB)) (r : ((List aB) × Int)) (h0 : sR l0 = some r) : bU Try.prog 65 [(eL aD l0)] (.tup [(eL aD r.1), (eI r.2)]) := by
  intro H0
  refine cB Try.func65 ?_
  have hO := aN.start H0
  unfold sR at h0
  refine aT aG 2 [] [] ?_
  refine aP ?_
  refine aP ?_
  refine aS aG 2 ?_
  refine bI 1 ?_
  obtain ⟨x1, hx2, h0⟩ := aV h0
  refine cD (lI l0 97 [] [] (fun y0 => pY y0) (fun y0 r h => JV y0 r h) _ hx2) hO ?_
  intro H hO
  refine cQ ?_
  refine bO [] [(9, (aJ x1))] ?_
  refine bH h0 (fun h0 => ?_) (fun h0 => ?_)
  · refine bT aG 2 [(2, (.sl true 0 (fun _ => .bad))), (3, (eI (2 : Int)))] ?_
    refine bG ?_
    refine cE (l := [(2, (eL aD ([]))), (3, (eI (2 : Int)))]) ⟨[(2, (.sl true 0 (fun _ => .bad))), (3, (eI (2 : Int)))], by kernel_rfl, rfl, ⟨iQ, aR.refl _, trivial⟩⟩ ?_
    obtain rfl := oI h0
    exact aI (aW (Q_r hO))
  refine bK ?_
  refine bD [(0, (eL aD l0))] ?_
  refine aP ?_
  refine aP ?_
  refine aS aG 2 ?_
  refine bI 1 ?_
  obtain ⟨x5, hx6, h0⟩ := aV h0
  refine cD (lI l0 98 [] [] (fun y0 => pV y0) (fun y0 r h => JZ y0 r h) _ hx6) hO ?_
  intro H hO
  refine cQ ?_
  refine bO [] [(11, (aJ x5))] ?_
  refine bH h0 (fun h0 => ?_) (fun h0 => ?_)
  · refine bT aG 2 [(2, (.sl true 0 (fun _ => .bad))), (3, (eI (13 : Int)))] ?_
    refine bG ?_
    refine cE (l := [(2, (eL aD ([]))), (3, (eI (13 : Int)))]) ⟨[(2, (.sl true 0 (fun _ => .bad))), (3, (eI (13 : Int)))], by kernel_rfl, rfl, ⟨iQ, aR.refl _, trivial⟩⟩ ?_
    obtain rfl := oI h0
    exact aI (aW (Q_r hO))
  refine bK ?_
  refine bD [(0, (eL aD l0))] ?_
  refine aP ?_
  refine aS aG 3 ?_
  refine bI 1 ?_
  obtain ⟨x9, hx10, h0⟩ := aV h0
  refine DL (L' := fun lo11 => [(lo11, 2, List.map aD x9)]) 2 (List.map aD x9) 99 [(eL aD l0)] (fun lo11 => (.msl 2 lo11 0 (List.length x9))) (by kernel_rfl) (by kernel_rfl) (kK l0 _ hx10) hO (fun _ => by kernel_rfl) ?_
  intro lo11 H hO
  refine bA ?_
  refine bD [(4, (.msl 2 lo11 0 (List.length x9)))] ?_
  refine aP ?_
  refine aS aG 2 ?_
  refine bI 1 ?_
  obtain ⟨x12, hx13, h0⟩ := aV h0
  refine mT [(lo11, 2, List.map aD x12)] 0 (oX lo11 x9 101 [] [] (fun y0 y1 => lM y0 y1) (fun y0 y1 r h => JX y0 y1 r h) _ hx13) hO ?_
  intro H hO hl14
  simp only [List.length_map] at hl14
  refine cQ ?_
  refine cE (l := [(4, (.msl 2 lo11 0 (List.length x12)))]) ⟨[(4, (.msl 2 lo11 0 (List.length x9)))], by kernel_rfl, rfl, ⟨aR.eq (by simp [hl14]), trivial⟩⟩ ?_
  refine aI (aH (?_))
  refine aP ?_
  refine aS aG 2 ?_
  refine rX (xs := []) (k := 2) (by kernel_rfl) (by kernel_rfl) ?_
  refine bA ?_
  refine bO [] [(5, (.sl true 0 (fun _ => .bad)))] ?_
  refine dJ (fun T H => ∃ out5 : List aB, ∃ lo15 : Nat, Has T [(5, (.msl 2 lo15 0 (List.length out5)))] ∧ aN ⟨H0, [], []⟩ H [(lo15, 2, List.map aD out5)] ∧ rL out5 = some r) ?_ ?_
  · clear hO h0
    rintro T H ⟨out5, lo15, hT, hO, h0⟩
    refine aZ hT ?_
    clear hT
    unfold rL at h0
    refine aP ?_
    refine aS aG 6 ?_
    refine tU (e := aD) out5 0 5 2 lo15 (List.length out5) [] (by kernel_rfl) hO (by kernel_rfl) (by kernel_rfl) (by kernel_rfl) (by kernel_rfl) ?_
    intro H hO
    refine bI 1 ?_
    obtain ⟨x16, hx17, h0⟩ := aV h0
    refine cD (yH out5 _ hx17) hO ?_
    intro H hO
    refine bA ?_
    refine bD [(2, (eL aD x16.1)), (3, (eI x16.2))] ?_
    refine bG ?_
    obtain rfl := oI h0
    exact aI (Q_r hO)
  refine aT aG 1 [] [(6, (eI (0 : Int)))] ?_
  refine bR 0 ?_
  refine dQ [(4, (.msl 2 lo11 0 (List.length x12))), (5, (.sl true 0 (fun _ => .bad))), (6, (eI (0 : Int)))] ?_
  refine NY (el := (fun _ => .bad)) 1 5 2 hO (by kernel_rfl) ?_
  intro lo43 H44 hO
  refine cV (fun T H => ∃ all4 : List aB, ∃ out5 : List aB, ∃ i6 : Int, ∃ lo21 : Nat, ∃ lo22 : Nat, Has T [(4, (.msl 2 lo21 0 (List.length all4))), (5, (.msl 2 lo22 0 (List.length out5))), (6, (eI i6))] ∧ aN ⟨H0, [], []⟩ H [(lo21, 2, List.map aD all4), (lo22, 2, List.map aD out5)] ∧ uF all4 out5 i6 = some r) ?_ ⟨x12, ([] : List aB), (0 : Int), lo11, lo43, .eq (by kernel_rfl), hO, h0⟩
  clear hO h0
  rintro T H ⟨all4, out5, i6, lo21, lo22, hT, hO, h0⟩
  refine aZ hT ?_
  clear hT
  unfold uF at h0
  obtain ⟨rr0, hl0, h0⟩ := aV h0
  refine bZ (by kernel_rfl) (fun (s : List aB × List aB × Int) T H => ∃ lo21 : Nat, ∃ lo22 : Nat, Has T [(4, (.msl 2 lo21 0 (List.length s.1))), (5, (.msl 2 lo22 0 (List.length s.2.1))), (6, (eI s.2.2))] ∧ aN ⟨H0, [], []⟩ H [(lo21, 2, List.map aD s.1), (lo22, 2, List.map aD s.2.1)]) hl0 ⟨lo21, lo22, .eq (by kernel_rfl), hO⟩ ?_
  clear hO
  rintro k0 s out1 T H ⟨lo21, lo22, hT, hO⟩ h1 ho0
  obtain ⟨all4, out5, i6⟩ := s
  replace h1 : kB all4 out5 i6 = some out1 := h1
  dsimp only at hT
  refine aZ hT ?_
  clear hT
  unfold kB at h1
  refine aP ?_
  refine aT aG 4 [] [(20, (aJ (decide (i6 < (lN all4)))))] ?_
  refine bH h1 (fun h1 => ?_) (fun h1 => ?_)
  · refine bK ?_
    refine bD [(4, (.msl 2 lo21 0 (List.length all4))), (5, (.msl 2 lo22 0 (List.length out5))), (6, (eI i6))] ?_
    refine bR 1 ?_
    refine aP ?_
    refine aS aG 8 ?_
    obtain ⟨c24, h1⟩ := bF h1
    refine wE 4 [0 ≤ i6 ∧ i6 < (lN all4)] ⟨c24, trivial⟩ ?_
    refine uD 0 lo21 2 (0 + Int.toNat i6) (aD (gD all4 i6)) (eI ((gD all4 i6).At)) (List.map aD all4) hO (cH c24) ?_
    refine bI 6 ?_
    refine pL 2 (aD (aB.mk 0 0)) (by kernel_rfl) (by kernel_rfl) hO ?_
    intro lo25 H hO
    refine nN 2 lo25 2 0 (aD (aB.mk 0 0)) (aD (aB.mk ((gD all4 i6).At) 0)) [(aD (aB.mk 0 0))] [(lo21, 2, List.map aD all4), (lo22, 2, List.map aD out5), (lo25, 2, [(aD (aB.mk ((gD all4 i6).At) 0))])] hO rfl (by kernel_rfl) ?_
    intro H hO
    refine cQ ?_
    refine bO [] [(7, (.lp lo25 0 0))] ?_
    refine dJ (fun T H => ∃ all4 : List aB, ∃ out5 : List aB, ∃ i6 : Int, ∃ j7 : aB, ∃ lo26 : Nat, ∃ lo27 : Nat, ∃ lo28 : Nat, Has T [(4, (.msl 2 lo26 0 (List.length all4))), (5, (.msl 2 lo27 0 (List.length out5))), (6, (eI i6)), (7, (.lp lo28 0 0))] ∧ aN ⟨H0, [], []⟩ H [(lo26, 2, List.map aD all4), (lo27, 2, List.map aD out5), (lo28, 2, [(aD j7)])] ∧ rA all4 out5 i6 j7 = some out1) ?_ ?_
    · clear hO h1
      rintro T H ⟨all4, out5, i6, j7, lo26, lo27, lo28, hT, hO, h1⟩
      refine aZ hT ?_
      clear hT
      unfold rA at h1
      refine aP ?_
      refine aS aG 8 ?_
      refine bI 1 ?_
      refine uD 2 lo28 2 0 (aD j7) (eI j7.Net) [(aD j7)] hO rfl ?_
      refine bI 5 ?_
      refine tR [(55, true)] 2 lo28 2 0 (aD j7) (eI j7.At) [(aD j7)] (by kernel_rfl) (by kernel_rfl) hO (by kernel_rfl) (!decide (j7.Net = (0 : Int))) (by kernel_rfl) (fun hb29 => rfl) ?_
      refine bA ?_
      refine bO [] [(59, (aJ ((!decide (j7.Net = (0 : Int))) && (decide (j7.At < (1125899906842624 : Int))))))] ?_
      refine bH h1 (fun h1 => ?_) (fun h1 => ?_)
      · refine aS aG 5 ?_
        refine bI 1 ?_
        refine uD 2 lo28 2 0 (aD j7) (aD j7) [(aD j7)] hO rfl ?_
        refine rX (xs := [(aD j7)]) (k := 2) (by kernel_rfl) (by kernel_rfl) ?_
        obtain ⟨c32, h1⟩ := bF h1
        refine yU (e := aD) out5 ([j7]) 1 lo27 2 16 (kM [(aD j7)]) (fun lo31 => [(lo26, 2, List.map aD all4), (lo31, 2, List.map aD (out5 ++ ([j7]))), (lo28, 2, [(aD j7)])]) (by kernel_rfl) (by kernel_rfl) hO (by kernel_rfl) (by kernel_rfl) c32 (fun _ => by kernel_rfl) ?_
        intro lo31 H hO
        refine bA ?_
        replace hO := hO.pick (L' := [(lo26, 2, List.map aD all4), (lo31, 2, List.map aD (out5 ++ ([j7])))]) [0, 1] (by decide) (by kernel_rfl)
        exact aI (aX (aH (⟨rfl, _, (oI h1).symm, _, _, .eq (by kernel_rfl), hO⟩)))
      refine bK ?_
      replace hO := hO.pick (L' := [(lo26, 2, List.map aD all4), (lo27, 2, List.map aD out5)]) [0, 1] (by decide) (by kernel_rfl)
      exact aI (aX (aH (⟨rfl, _, (oI h1).symm, _, _, .eq (by kernel_rfl), hO⟩)))
    refine bR 2 ?_
    refine dQ [(4, (.msl 2 lo21 0 (List.length all4))), (5, (.msl 2 lo22 0 (List.length out5))), (6, (eI i6)), (7, (.lp lo25 0 0))] ?_
    refine cV (fun T H => ∃ all4 : List aB, ∃ out5 : List aB, ∃ i6 : Int, ∃ j7 : aB, ∃ lo36 : Nat, ∃ lo37 : Nat, ∃ lo38 : Nat, Has T [(4, (.msl 2 lo36 0 (List.length all4))), (5, (.msl 2 lo37 0 (List.length out5))), (6, (eI i6)), (7, (.lp lo38 0 0))] ∧ aN ⟨H0, [], []⟩ H [(lo36, 2, List.map aD all4), (lo37, 2, List.map aD out5), (lo38, 2, [(aD j7)])] ∧ uQ all4 out5 i6 j7 = some out1) ?_ ⟨all4, out5, i6, aB.mk ((gD all4 i6).At) 0, lo21, lo22, lo25, .eq (by kernel_rfl), hO, h1⟩
    clear hO h1
    rintro T H ⟨all4, out5, i6, j7, lo36, lo37, lo38, hT, hO, h1⟩
    refine aZ hT ?_
    clear hT
    unfold uQ at h1
    obtain ⟨rr1, hl1, h1⟩ := aV h1
    refine bZ (by kernel_rfl) (fun (s : List aB × List aB × Int × aB) T H => ∃ lo36 : Nat, ∃ lo37 : Nat, ∃ lo38 : Nat, Has T [(4, (.msl 2 lo36 0 (List.length s.1))), (5, (.msl 2 lo37 0 (List.length s.2.1))), (6, (eI s.2.2.1)), (7, (.lp lo38 0 0))] ∧ aN ⟨H0, [], []⟩ H [(lo36, 2, List.map aD s.1), (lo37, 2, List.map aD s.2.1), (lo38, 2, [(aD s.2.2.2)])]) hl1 ⟨lo36, lo37, lo38, .eq (by kernel_rfl), hO⟩ ?_
    clear hO
    rintro k1 s out2 T H ⟨lo36, lo37, lo38, hT, hO⟩ h2 ho1
    obtain ⟨all4, out5, i6, j7⟩ := s
    replace h2 : iF all4 out5 i6 j7 = some out2 := h2
    dsimp only at hT
    refine aZ hT ?_
    clear hT
    unfold iF at h2
    refine aP ?_
    refine aP ?_
    obtain ⟨c39, h2⟩ := bF h2
    refine kE (kA []) aG 14 ?_
    refine BR (K := fun T H => Has (lift T) [(4, (.msl 2 lo36 0 (List.length all4))), (5, (.msl 2 lo37 0 (List.length out5))), (6, (eI i6)), (7, (.lp lo38 0 0)), (40, (aJ ((decide (i6 < (lN all4))) && (decide (((gD all4 i6).At) = j7.At)))))] ∧ aN ⟨H0, [], []⟩ H [(lo36, 2, List.map aD all4), (lo37, 2, List.map aD out5), (lo38, 2, [(aD j7)])]) ?_ ?_
    · refine tZ 5 ?_
      refine zD (t := 31) (e := decide (i6 < (lN all4))) (by kernel_rfl) (fun hg40 => ?_) (fun hg40 => ?_)
      · refine cT 9 [0 ≤ i6 ∧ i6 < (lN all4)] ⟨(c39 hg40), trivial⟩ ?_
        refine wX 0 lo36 2 (0 + Int.toNat i6) (aD (gD all4 i6)) (eI ((gD all4 i6).At)) (List.map aD all4) (by kernel_rfl) (by kernel_rfl) (by kernel_rfl) hO (by kernel_rfl) (cH (c39 hg40)) ?_
        refine tZ 11 ?_
        refine wX 2 lo38 2 0 (aD j7) (eI j7.At) [(aD j7)] (by kernel_rfl) (by kernel_rfl) (by kernel_rfl) hO (by kernel_rfl) rfl ?_
        refine nO ?_
        exact ⟨⟨[(4, (.msl 2 lo36 0 (List.length all4))), (5, (.msl 2 lo37 0 (List.length out5))), (6, (eI i6)), (7, (.lp lo38 0 0)), (40, (aJ (decide (((gD all4 i6).At) = j7.At))))], by kernel_rfl, rfl, ⟨aR.refl _, aR.refl _, aR.refl _, aR.refl _, aR.eq (congrArg aJ (DJ hg40 rfl).symm), trivial⟩⟩, hO⟩
      refine nO ?_
      exact ⟨⟨[(4, (.msl 2 lo36 0 (List.length all4))), (5, (.msl 2 lo37 0 (List.length out5))), (6, (eI i6)), (7, (.lp lo38 0 0)), (40, (aJ false))], by kernel_rfl, rfl, ⟨aR.refl _, aR.refl _, aR.refl _, aR.refl _, aR.eq (congrArg aJ (DJ hg40 rfl).symm), trivial⟩⟩, hO⟩
    · rintro T H ⟨hT, hO⟩
      refine cE hT ?_
      clear hT
      refine aI (aH ?_)
      refine bH h2 (fun h2 => ?_) (fun h2 => ?_)
      · refine bK ?_
        refine bD [(4, (.msl 2 lo36 0 (List.length all4))), (5, (.msl 2 lo37 0 (List.length out5))), (6, (eI i6)), (7, (.lp lo38 0 0))] ?_
        refine aP ?_
        refine bR 3 ?_
        refine kE (kA []) aG 10 ?_
        refine tZ 1 ?_
        refine kG 2 lo38 2 0 (aD j7) (eI j7.Net) [(aD j7)] hO rfl ?_
        obtain ⟨c42, h2⟩ := bF h2
        refine cT 6 [0 ≤ i6 ∧ i6 < (lN all4)] ⟨c42, trivial⟩ ?_
        refine kG 0 lo36 2 (0 + Int.toNat i6) (aD (gD all4 i6)) (eI ((gD all4 i6).Net)) (List.map aD all4) hO (cH c42) ?_
        refine tZ 9 ?_
        refine qU 2 lo38 2 0 (aD j7) (aD (aB.mk j7.At (wR (j7.Net + ((gD all4 i6).Net))))) [(aD j7)] [(lo36, 2, List.map aD all4), (lo37, 2, List.map aD out5), (lo38, 2, [(aD (aB.mk j7.At (wR (j7.Net + ((gD all4 i6).Net)))))])] hO rfl (by kernel_rfl) ?_
        intro H hO
        refine wQ (by kernel_rfl) ?_
        refine hU [(4, (.msl 2 lo36 0 (List.length all4))), (5, (.msl 2 lo37 0 (List.length out5))), (6, (eI i6)), (7, (.lp lo38 0 0))] ?_
        refine aI (aX (aH (?_)))
        refine aS aG 3 ?_
        refine bA ?_
        exact aI (aH (⟨rfl, _, (oI h2).symm, _, _, _, .eq (by kernel_rfl), hO⟩))
      refine eR 2 ?_
      obtain rfl := oI h2
      obtain rfl : _ = rr1 := ho1
      replace h1 : rA all4 out5 i6 j7 = some out1 := h1
      exact aI (aU (aU (bM (aH (⟨rfl, _, _, _, _, _, _, _, .eq (by kernel_rfl), hO, h1⟩)))))
  refine eR 0 ?_
  replace hO := hO.pick (L' := [(lo22, 2, List.map aD out5)]) [1] (by decide) (by kernel_rfl)
  obtain rfl := oI h1
  obtain rfl : _ = rr0 := ho0
  replace h0 : rL out5 = some r := h0
  exact aI (aU (aU (bM (aH (⟨rfl, _, _, .eq (by kernel_rfl), hO, h0⟩)))))

theorem JT (f0 : (List aB)) (r : ((List aB) × Int)) (h0 : pQ f0 = some r) : bU Try.prog 64 [(eL aD f0)] (.tup [(eL aD r.1), (eI r.2)]) := by
  intro H0
  refine cB Try.func64 ?_
  have hO := aN.start H0
  unfold pQ at h0
  refine aT aG 2 [] [] ?_
  refine aP ?_
  refine aS aG 6 ?_
  refine bI 1 ?_
  obtain ⟨x1, hx2, h0⟩ := aV h0
  refine cD (OT f0 _ hx2) hO ?_
  intro H hO
  refine bA ?_
  refine bD [(2, (eL aD x1.1)), (3, (eI x1.2))] ?_
  refine bG ?_
  obtain rfl := oI h0
  exact aI (Q_r hO)

theorem OU (l0 : (List aC)) (r : ((List aC) × Int)) (h0 : sS l0 = some r) : bU Try.prog 23 [(eL aE l0)] (.tup [(eL aE r.1), (eI r.2)]) := by
  intro H0
  refine cB Try.func23 ?_
  have hO := aN.start H0
  unfold sS at h0
  refine aT aG 2 [] [] ?_
  refine aP ?_
  refine aP ?_
  refine aS aG 2 ?_
  refine bI 1 ?_
  obtain ⟨x1, hx2, h0⟩ := aV h0
  refine cD (lG l0 54 [] [] (fun y0 => pT y0) (fun y0 r h => KF y0 r h) _ hx2) hO ?_
  intro H hO
  refine cQ ?_
  refine bO [] [(6, (aJ x1))] ?_
  refine bH h0 (fun h0 => ?_) (fun h0 => ?_)
  · refine bT aG 2 [(2, (.sl true 0 (fun _ => .bad))), (3, (eI (2 : Int)))] ?_
    refine bG ?_
    refine cE (l := [(2, (eL aE ([]))), (3, (eI (2 : Int)))]) ⟨[(2, (.sl true 0 (fun _ => .bad))), (3, (eI (2 : Int)))], by kernel_rfl, rfl, ⟨iQ, aR.refl _, trivial⟩⟩ ?_
    obtain rfl := oI h0
    exact aI (aW (Q_r hO))
  refine bK ?_
  refine bD [(0, (eL aE l0))] ?_
  refine aP ?_
  refine aP ?_
  refine aS aG 2 ?_
  refine bI 1 ?_
  obtain ⟨x5, hx6, h0⟩ := aV h0
  refine cD (lG l0 56 [] [] (fun y0 => qA y0) (fun y0 r h => JY y0 r h) _ hx6) hO ?_
  intro H hO
  refine cQ ?_
  refine bO [] [(8, (aJ x5))] ?_
  refine bH h0 (fun h0 => ?_) (fun h0 => ?_)
  · refine bT aG 2 [(2, (.sl true 0 (fun _ => .bad))), (3, (eI (13 : Int)))] ?_
    refine bG ?_
    refine cE (l := [(2, (eL aE ([]))), (3, (eI (13 : Int)))]) ⟨[(2, (.sl true 0 (fun _ => .bad))), (3, (eI (13 : Int)))], by kernel_rfl, rfl, ⟨iQ, aR.refl _, trivial⟩⟩ ?_
    obtain rfl := oI h0
    exact aI (aW (Q_r hO))
  refine bK ?_
  refine bD [(0, (eL aE l0))] ?_
  refine aP ?_
  refine aS aG 3 ?_
  refine bI 1 ?_
  obtain ⟨x9, hx10, h0⟩ := aV h0
  refine DL (L' := fun lo11 => [(lo11, 3, List.map aE x9)]) 3 (List.map aE x9) 57 [(eL aE l0)] (fun lo11 => (.msl 3 lo11 0 (List.length x9))) (by kernel_rfl) (by kernel_rfl) (tJ l0 _ hx10) hO (fun _ => by kernel_rfl) ?_
  intro lo11 H hO
  refine bA ?_
  refine bD [(4, (.msl 3 lo11 0 (List.length x9)))] ?_
  refine aP ?_
  refine aS aG 2 ?_
  refine bI 1 ?_
  obtain ⟨x12, hx13, h0⟩ := aV h0
  refine mT [(lo11, 3, List.map aE x12)] 0 (oW lo11 x9 59 [] [] (fun y0 y1 => lH y0 y1) (fun y0 y1 r h => JU y0 y1 r h) _ hx13) hO ?_
  intro H hO hl14
  simp only [List.length_map] at hl14
  refine cQ ?_
  refine cE (l := [(4, (.msl 3 lo11 0 (List.length x12)))]) ⟨[(4, (.msl 3 lo11 0 (List.length x9)))], by kernel_rfl, rfl, ⟨aR.eq (by simp [hl14]), trivial⟩⟩ ?_
  refine aI (aH (?_))
  refine aP ?_
  refine aS aG 6 ?_
  refine tU (e := aE) x12 0 4 3 lo11 (List.length x12) [] (by kernel_rfl) hO (by kernel_rfl) (by kernel_rfl) (by kernel_rfl) (by kernel_rfl) ?_
  intro H hO
  refine bI 1 ?_
  obtain ⟨x15, hx16, h0⟩ := aV h0
  refine cD (BC x12 64 [] [] (fun y0 => pQ y0) (fun y0 r h => JT y0 r h) _ hx16) hO ?_
  intro H hO
  refine bA ?_
  refine bD [(2, (eL aE x15.1)), (3, (eI x15.2))] ?_
  refine bG ?_
  obtain rfl := oI h0
  exact aI (Q_r hO)

theorem qE (l0 : (List aC)) (d1 : Int) (iM : Int) (r : ((List aC) × Int)) (h0 : kV l0 d1 iM = some r) : bU Try.prog 14 [(eL aE l0), (eI d1), (eI iM)] (.tup [(eL aE r.1), (eI r.2)]) := by
  intro H0
  refine cB Try.func14 ?_
  have hO := aN.start H0
  unfold kV at h0
  refine aP ?_
  refine aS aG 3 ?_
  refine kC 1 (eI d1) (by kernel_rfl) (by kernel_rfl) ?_
  refine bA ?_
  refine bO [1] [(4, (.rp (eI d1)))] ?_
  refine aP ?_
  refine bR 0 ?_
  refine aP ?_
  refine aS aG 12 ?_
  refine bI 1 ?_
  obtain ⟨x1, hx2, h0⟩ := aV h0
  refine cD (GZ l0 _ hx2) hO ?_
  intro H hO
  refine bA ?_
  refine bO [] [(12, (aJ (((!x1) || (decide (d1 < (1 : Int)))) || (decide ((1099511627776 : Int) < d1)))))] ?_
  refine bH h0 (fun h0 => ?_) (fun h0 => ?_)
  · refine bT aG 2 [(6, (.sl true 0 (fun _ => .bad))), (7, (eI (2 : Int)))] ?_
    refine bG ?_
    refine cE (l := [(6, (eL aE ([]))), (7, (eI (2 : Int)))]) ⟨[(6, (.sl true 0 (fun _ => .bad))), (7, (eI (2 : Int)))], by kernel_rfl, rfl, ⟨iQ, aR.refl _, trivial⟩⟩ ?_
    obtain rfl := oI h0
    exact aI (bS (aW (Q_r hO)))
  refine aP ?_
  refine aS aG 4 ?_
  refine bI 1 ?_
  obtain ⟨x5, hx6, h0⟩ := aV h0
  refine cD (OF l0 _ hx6) hO ?_
  intro H hO
  refine bA ?_
  refine bO [12] [(24, (aJ (!x5)))] ?_
  refine bH h0 (fun h0 => ?_) (fun h0 => ?_)
  · refine bT aG 2 [(6, (.sl true 0 (fun _ => .bad))), (7, (eI (20 : Int)))] ?_
    refine bG ?_
    refine cE (l := [(6, (eL aE ([]))), (7, (eI (20 : Int)))]) ⟨[(6, (.sl true 0 (fun _ => .bad))), (7, (eI (20 : Int)))], by kernel_rfl, rfl, ⟨iQ, aR.refl _, trivial⟩⟩ ?_
    obtain rfl := oI h0
    exact aI (bS (aW (Q_r hO)))
  refine aT aG 7 [24] [(28, (aJ ((decide (iM < (0 : Int))) || (decide ((1125899906842624 : Int) < iM)))))] ?_
  refine bH h0 (fun h0 => ?_) (fun h0 => ?_)
  · refine bT aG 2 [(6, (.sl true 0 (fun _ => .bad))), (7, (eI (13 : Int)))] ?_
    refine bG ?_
    refine cE (l := [(6, (eL aE ([]))), (7, (eI (13 : Int)))]) ⟨[(6, (.sl true 0 (fun _ => .bad))), (7, (eI (13 : Int)))], by kernel_rfl, rfl, ⟨iQ, aR.refl _, trivial⟩⟩ ?_
    obtain rfl := oI h0
    exact aI (bS (aW (Q_r hO)))
  refine bK ?_
  refine hU [(0, (eL aE l0)), (2, (eI iM)), (4, (.rp (eI d1)))] ?_
  refine aI (aX (aH (?_)))
  refine aT aG 2 [4] [(8, (.fn (.func 43) [] [(.rp (eI d1))]))] ?_
  refine aP ?_
  refine aS aG 4 ?_
  refine bI 2 ?_
  obtain ⟨c10, h0⟩ := bF h0
  refine PM 3 40 (lN l0) (by kernel_rfl) (by kernel_rfl) c10 hO ?_
  intro lo11 H hO
  refine bA ?_
  refine bO [] [(9, (.msl 3 lo11 0 (List.length ([] : List aC))))] ?_
  refine dJ (fun T H => ∃ out9 : List aC, ∃ lo12 : Nat, Has T [(9, (.msl 3 lo12 0 (List.length out9)))] ∧ aN ⟨H0, [], []⟩ H [(lo12, 3, List.map aE out9)] ∧ qR out9 = some r) ?_ ?_
  · clear hO h0
    rintro T H ⟨out9, lo12, hT, hO, h0⟩
    refine aZ hT ?_
    clear hT
    unfold qR at h0
    refine aP ?_
    refine aS aG 6 ?_
    refine tU (e := aE) out9 0 9 3 lo12 (List.length out9) [] (by kernel_rfl) hO (by kernel_rfl) (by kernel_rfl) (by kernel_rfl) (by kernel_rfl) ?_
    intro H hO
    refine bI 1 ?_
    obtain ⟨x13, hx14, h0⟩ := aV h0
    refine cD (OU out9 _ hx14) hO ?_
    intro H hO
    refine bA ?_
    refine bD [(6, (eL aE x13.1)), (7, (eI x13.2))] ?_
    refine bG ?_
    obtain rfl := oI h0
    exact aI (Q_r hO)
  refine aT aG 3 [0] [(39, (eL aE l0)), (40, (eI (lN l0))), (41, (eI (0 : Int)))] ?_
  refine bR 1 ?_
  refine dQ [(2, (eI iM)), (8, (.fn (.func 43) [] [(.rp (eI d1))])), (9, (.msl 3 lo11 0 (List.length ([] : List aC)))), (39, (eL aE l0)), (40, (eI (lN l0))), (41, (eI (0 : Int)))] ?_
  refine cV (fun T H => ∃ mD : Int, ∃ out9 : List aC, ∃ t39 : (List aC), ∃ t40 : Int, ∃ t41 : Int, ∃ lo17 : Nat, Has T [(2, (eI iM)), (8, (.fn (.func 43) [] [(.rp (eI mD))])), (9, (.msl 3 lo17 0 (List.length out9))), (39, (eL aE t39)), (40, (eI t40)), (41, (eI t41))] ∧ aN ⟨H0, [], []⟩ H [(lo17, 3, List.map aE out9)] ∧ uI iM mD out9 t39 t40 t41 = some r) ?_ ⟨d1, ([] : List aC), l0, (lN l0), (0 : Int), lo11, .eq (by kernel_rfl), hO, h0⟩
  clear hO h0
  rintro T H ⟨mD, out9, t39, t40, t41, lo17, hT, hO, h0⟩
  refine aZ hT ?_
  clear hT
  unfold uI at h0
  obtain ⟨rr0, hl0, h0⟩ := aV h0
  refine bZ (by kernel_rfl) (fun (s : List aC × Int) T H => ∃ lo17 : Nat, Has T [(2, (eI iM)), (8, (.fn (.func 43) [] [(.rp (eI mD))])), (9, (.msl 3 lo17 0 (List.length s.1))), (39, (eL aE t39)), (40, (eI t40)), (41, (eI s.2))] ∧ aN ⟨H0, [], []⟩ H [(lo17, 3, List.map aE s.1)]) hl0 ⟨lo17, .eq (by kernel_rfl), hO⟩ ?_
  clear hO
  rintro k0 s out1 T H ⟨lo17, hT, hO⟩ h1 ho0
  obtain ⟨out9, t41⟩ := s
  replace h1 : mE iM mD t39 t40 out9 t41 = some out1 := h1
  dsimp only at hT
  refine aZ hT ?_
  clear hT
  unfold mE at h1
  refine aT aG 1 [] [(42, (aJ (decide (t41 < t40))))] ?_
  refine aP ?_
  refine bH h1 (fun h1 => ?_) (fun h1 => ?_)
  · refine bK ?_
    refine bD [(2, (eI iM)), (8, (.fn (.func 43) [] [(.rp (eI mD))])), (9, (.msl 3 lo17 0 (List.length out9))), (39, (eL aE t39)), (40, (eI t40)), (41, (eI t41))] ?_
    refine dJ (fun T H => ∃ out9 : List aC, ∃ lo19 : Nat, Has T [(2, (eI iM)), (8, (.fn (.func 43) [] [(.rp (eI mD))])), (9, (.msl 3 lo19 0 (List.length out9))), (39, (eL aE t39)), (40, (eI t40)), (41, (eI t41))] ∧ aN ⟨H0, [], []⟩ H [(lo19, 3, List.map aE out9)] ∧ qV iM mD out9 t39 t40 t41 = some out1) ?_ ?_
    · clear hO h1
      rintro T H ⟨out9, lo19, hT, hO, h1⟩
      refine aZ hT ?_
      clear hT
      unfold qV at h1
      refine aS aG 2 ?_
      refine bA ?_
      exact aI (aH (⟨rfl, _, (oI h1).symm, _, .eq (by kernel_rfl), hO⟩))
    refine bR 2 ?_
    refine aP ?_
    refine aS aG 4 ?_
    obtain ⟨c20, h1⟩ := bF h1
    refine wE 2 [0 ≤ t41 ∧ t41 < (lN t39)] ⟨c20, trivial⟩ ?_
    refine zR 3 (.agg [(.sl true 0 (fun _ => .bad)), (eI 0), (eI 0)]) (aE (aC.mk ([]) 0 0)) (by kernel_rfl) (by kernel_rfl) (by kernel_rfl) (YW (xs := [(.sl true 0 (fun _ => .bad)), (eI 0), (eI 0)]) (ys := [(eL aM ([])), (eI 0), (eI 0)]) ⟨iQ, aR.refl _, aR.refl _, trivial⟩) (by kernel_rfl) (by kernel_rfl) hO ?_
    intro lo21 H hO
    refine nN 1 lo21 3 0 (aE (aC.mk ([]) 0 0)) (aE (gD t39 t41)) [(aE (aC.mk ([]) 0 0))] [(lo17, 3, List.map aE out9), (lo21, 3, [(aE (gD t39 t41))])] hO rfl (by kernel_rfl) ?_
    intro H hO
    refine cQ ?_
    refine bO [] [(11, (.lp lo21 0 0))] ?_
    refine aP ?_
    refine aS aG 9 ?_
    refine bI 1 ?_
    refine uD 1 lo21 3 0 (aE (gD t39 t41)) (eI ((gD t39 t41).Net)) [(aE (gD t39 t41))] hO rfl ?_
    refine bI 5 ?_
    refine tR [(48, true)] 1 lo21 3 0 (aE (gD t39 t41)) (eI ((gD t39 t41).At)) [(aE (gD t39 t41))] (by kernel_rfl) (by kernel_rfl) hO (by kernel_rfl) (decide ((0 : Int) < ((gD t39 t41).Net))) (by kernel_rfl) (fun hb22 => rfl) ?_
    refine bA ?_
    refine bO [] [(53, (aJ ((decide ((0 : Int) < ((gD t39 t41).Net))) && (decide (iM ≤ ((gD t39 t41).At))))))] ?_
    refine bH h1 (fun h1 => ?_) (fun h1 => ?_)
    · refine dQ [(2, (eI iM)), (8, (.fn (.func 43) [] [(.rp (eI mD))])), (9, (.msl 3 lo17 0 (List.length out9))), (11, (.lp lo21 0 0)), (39, (eL aE t39)), (40, (eI t40)), (41, (eI t41)), (53, (aJ ((decide ((0 : Int) < ((gD t39 t41).Net))) && (decide (iM ≤ ((gD t39 t41).At))))))] ?_
      refine JB 3 1 11 3 lo21 (aE (gD t39 t41)) [(lo17, 3, List.map aE out9)] hO (by kernel_rfl) (by kernel_rfl) (by kernel_rfl) ?_
      intro H hO
      refine kE (kA [55, 57, 60, 63]) aG 15 ?_
      refine tZ 7 ?_
      obtain ⟨x24, hx25, h1⟩ := aV h1
      refine wC (JW ((gD t39 t41).At) mD _ hx25) hO ?_
      intro H hO
      refine tZ 12 ?_
      refine KV (xs := [(aE (gD t39 t41)), (aE (aC.mk ((gD t39 t41).Row) x24 (wR (0 - ((gD t39 t41).Net)))))]) (k := 3) (by kernel_rfl) (by kernel_rfl) ?_
      obtain ⟨c28, h1⟩ := bF h1
      refine HX (e := aE) out9 ([gD t39 t41, aC.mk ((gD t39 t41).Row) x24 (wR (0 - ((gD t39 t41).Net)))]) 0 lo17 3 40 (kM [(aE (gD t39 t41)), (aE (aC.mk ((gD t39 t41).Row) x24 (wR (0 - ((gD t39 t41).Net)))))]) (fun lo27 => [(lo27, 3, List.map aE (out9 ++ ([gD t39 t41, aC.mk ((gD t39 t41).Row) x24 (wR (0 - ((gD t39 t41).Net)))])))]) (by kernel_rfl) (by kernel_rfl) hO (by kernel_rfl) (by kernel_rfl) c28 (fun _ => by kernel_rfl) ?_
      intro lo27 H hO
      refine nO ?_
      exact aI (aX (aH (⟨rfl, _, _, .eq (by kernel_rfl), hO, h1⟩)))
    refine bK ?_
    replace hO := hO.pick (L' := [(lo17, 3, List.map aE out9)]) [0] (by decide) (by kernel_rfl)
    exact aI (aX (aH (⟨rfl, _, _, .eq (by kernel_rfl), hO, h1⟩)))
  refine eR 1 ?_
  obtain rfl := oI h1
  obtain rfl : _ = rr0 := ho0
  replace h0 : qR out9 = some r := h0
  exact aI (aU (aU (bM (aH (⟨rfl, _, _, .eq (by kernel_rfl), hO, h0⟩)))))

theorem uJ  (r : Bool) (h0 : mJ  = some r) : bU Try.prog 13 [] (aJ r) := by
  intro H0
  refine cB Try.func13 ?_
  have hO := aN.start H0
  unfold mJ at h0
  refine bT aG 1 [] ?_
  refine aP ?_
  refine aS aG 3 ?_
  refine bI 1 ?_
  refine rX (xs := [(aM (aF.mk (1 : Int) (1 : Int) ByteArray.empty))]) (k := 3) (by kernel_rfl) (by kernel_rfl) ?_
  refine bA ?_
  refine cE (l := [(1, (eL aM ([aF.mk (1 : Int) (1 : Int) ByteArray.empty])))]) ⟨[(1, (kM [(aM (aF.mk (1 : Int) (1 : Int) ByteArray.empty))]))], by kernel_rfl, rfl, ⟨LR (l := [aF.mk (1 : Int) (1 : Int) ByteArray.empty]), trivial⟩⟩ ?_
  refine aI (aH (?_))
  refine aP ?_
  refine aS aG 15 ?_
  refine bI 8 ?_
  refine rX (xs := [(aE (aC.mk ([aF.mk (1 : Int) (1 : Int) ByteArray.empty]) (2 : Int) (1 : Int))), (aE (aC.mk ([aF.mk (1 : Int) (1 : Int) ByteArray.empty]) (5 : Int) (1 : Int))), (aE (aC.mk ([aF.mk (1 : Int) (1 : Int) ByteArray.empty]) (6 : Int) (-1 : Int))), (aE (aC.mk ([aF.mk (1 : Int) (1 : Int) ByteArray.empty]) (9 : Int) (-1 : Int)))]) (k := 3) (by kernel_rfl) (by kernel_rfl) ?_
  obtain ⟨x1, hx2, h0⟩ := aV h0
  refine YK 14 [(kM [(aE (aC.mk ([aF.mk (1 : Int) (1 : Int) ByteArray.empty]) (2 : Int) (1 : Int))), (aE (aC.mk ([aF.mk (1 : Int) (1 : Int) ByteArray.empty]) (5 : Int) (1 : Int))), (aE (aC.mk ([aF.mk (1 : Int) (1 : Int) ByteArray.empty]) (6 : Int) (-1 : Int))), (aE (aC.mk ([aF.mk (1 : Int) (1 : Int) ByteArray.empty]) (9 : Int) (-1 : Int)))]), (eI (4 : Int)), (eI (0 : Int))] (.tup [(eL aE x1.1), (eI x1.2)]) (bU.sub (qE ([aC.mk ([aF.mk (1 : Int) (1 : Int) ByteArray.empty]) (2 : Int) (1 : Int), aC.mk ([aF.mk (1 : Int) (1 : Int) ByteArray.empty]) (5 : Int) (1 : Int), aC.mk ([aF.mk (1 : Int) (1 : Int) ByteArray.empty]) (6 : Int) (-1 : Int), aC.mk ([aF.mk (1 : Int) (1 : Int) ByteArray.empty]) (9 : Int) (-1 : Int)]) (4 : Int) (0 : Int) _ hx2) ⟨LR (l := [aC.mk ([aF.mk (1 : Int) (1 : Int) ByteArray.empty]) (2 : Int) (1 : Int), aC.mk ([aF.mk (1 : Int) (1 : Int) ByteArray.empty]) (5 : Int) (1 : Int), aC.mk ([aF.mk (1 : Int) (1 : Int) ByteArray.empty]) (6 : Int) (-1 : Int), aC.mk ([aF.mk (1 : Int) (1 : Int) ByteArray.empty]) (9 : Int) (-1 : Int)]), aR.refl _, aR.refl _, trivial⟩) hO ?_
  intro H hO
  refine bA ?_
  refine bD [(2, (eL aE x1.1)), (3, (eI x1.2))] ?_
  refine aP ?_
  refine aS aG 6 ?_
  obtain ⟨x4, hx5, h0⟩ := aV h0
  refine YK 14 [(.sl true 0 (fun _ => .bad)), (eI (0 : Int)), (eI (0 : Int))] (.tup [(eL aE x4.1), (eI x4.2)]) (bU.sub (qE ([]) (0 : Int) (0 : Int) _ hx5) ⟨iQ, aR.refl _, aR.refl _, trivial⟩) hO ?_
  intro H hO
  refine bA ?_
  refine bO [] [(5, (eI x4.2))] ?_
  refine aP ?_
  refine aS aG 40 ?_
  obtain ⟨c7, h0⟩ := bF h0
  obtain ⟨c8, h0⟩ := bF h0
  obtain ⟨c9, h0⟩ := bF h0
  obtain ⟨c10, h0⟩ := bF h0
  refine tH [(((((decide (x1.2 = (0 : Int))) && (decide (x4.2 = (2 : Int)))) && (decide ((lN x1.1) = (4 : Int))))) = true → 0 ≤ (1 : Int) ∧ (1 : Int) < (lN x1.1)), ((((((decide (x1.2 = (0 : Int))) && (decide (x4.2 = (2 : Int)))) && (decide ((lN x1.1) = (4 : Int)))) && (decide (((gD x1.1 (1 : Int)).At) = (5 : Int))))) = true → 0 ≤ (2 : Int) ∧ (2 : Int) < (lN x1.1)), (((((((decide (x1.2 = (0 : Int))) && (decide (x4.2 = (2 : Int)))) && (decide ((lN x1.1) = (4 : Int)))) && (decide (((gD x1.1 (1 : Int)).At) = (5 : Int)))) && (decide (((gD x1.1 (2 : Int)).At) = (6 : Int))))) = true → 0 ≤ (2 : Int) ∧ (2 : Int) < (lN x1.1)), ((((((((decide (x1.2 = (0 : Int))) && (decide (x4.2 = (2 : Int)))) && (decide ((lN x1.1) = (4 : Int)))) && (decide (((gD x1.1 (1 : Int)).At) = (5 : Int)))) && (decide (((gD x1.1 (2 : Int)).At) = (6 : Int)))) && (decide (((gD x1.1 (2 : Int)).Net) = (-1 : Int))))) = true → 0 ≤ (3 : Int) ∧ (3 : Int) < (lN x1.1))] ⟨c7, c8, c9, c10, trivial⟩ ?_
  refine bD [(0, (aJ (((((((decide (x1.2 = (0 : Int))) && (decide (x4.2 = (2 : Int)))) && (decide ((lN x1.1) = (4 : Int)))) && (decide (((gD x1.1 (1 : Int)).At) = (5 : Int)))) && (decide (((gD x1.1 (2 : Int)).At) = (6 : Int)))) && (decide (((gD x1.1 (2 : Int)).Net) = (-1 : Int)))) && (decide (((gD x1.1 (3 : Int)).At) = (9 : Int))))))] ?_
  refine bG ?_
  obtain rfl := oI h0
  exact aI (Q_r hO)

theorem MS (a0 : (List aF)) (b1 : (List aF)) (r : Bool) (h0 : rF a0 b1 = some r) : bU Try.prog 48 [(eL aM a0), (eL aM b1)] (aJ r) := by
  intro H0
  refine cB Try.func48 ?_
  have hO := aN.start H0
  unfold rF at h0
  refine aT aG 1 [] [] ?_
  refine aP ?_
  refine aT aG 5 [] [(10, (aJ (!decide ((lN a0) = (lN b1)))))] ?_
  refine bH h0 (fun h0 => ?_) (fun h0 => ?_)
  · refine bT aG 1 [(4, (aJ false))] ?_
    refine bG ?_
    obtain rfl := oI h0
    exact aI (aW (Q_r hO))
  refine bK ?_
  refine bD [(0, (eL aM a0)), (1, (eL aM b1))] ?_
  refine dJ (fun T H => Has T [] ∧ aN ⟨H0, [], []⟩ H [] ∧ pU  = some r) ?_ ?_
  · clear hO h0
    rintro T H ⟨hT, hO, h0⟩
    refine aZ hT ?_
    clear hT
    unfold pU at h0
    refine bT aG 1 [(4, (aJ true))] ?_
    refine bG ?_
    obtain rfl := oI h0
    exact aI (Q_r hO)
  refine aT aG 1 [] [(5, (eI (0 : Int)))] ?_
  refine bR 0 ?_
  refine dQ [(0, (eL aM a0)), (1, (eL aM b1)), (5, (eI (0 : Int)))] ?_
  refine cV (fun T H => ∃ i5 : Int, Has T [(0, (eL aM a0)), (1, (eL aM b1)), (5, (eI i5))] ∧ aN ⟨H0, [], []⟩ H [] ∧ tC a0 b1 i5 = some r) ?_ ⟨(0 : Int), .eq (by kernel_rfl), hO, h0⟩
  clear hO h0
  rintro T H ⟨i5, hT, hO, h0⟩
  refine aZ hT ?_
  clear hT
  unfold tC at h0
  obtain ⟨rr0, hl0, h0⟩ := aV h0
  refine bZ (by kernel_rfl) (fun (s : Int) T H => Has T [(0, (eL aM a0)), (1, (eL aM b1)), (5, (eI s))] ∧ aN ⟨H0, [], []⟩ H []) hl0 ⟨.eq (by kernel_rfl), hO⟩ ?_
  clear hO
  rintro k0 s out1 T H ⟨hT, hO⟩ h1 ho0
  obtain ⟨i5, rfl⟩ : ∃ x, x = s := ⟨_, rfl⟩
  replace h1 : nW a0 b1 i5 = some out1 := h1
  refine aZ hT ?_
  clear hT
  unfold nW at h1
  refine aP ?_
  refine aT aG 4 [] [(14, (aJ (decide (i5 < (lN a0)))))] ?_
  refine bH h1 (fun h1 => ?_) (fun h1 => ?_)
  · refine bK ?_
    refine bD [(0, (eL aM a0)), (1, (eL aM b1)), (5, (eI i5))] ?_
    refine aP ?_
    refine bR 1 ?_
    refine aP ?_
    refine kE (kA [20, 24]) aG 9 ?_
    obtain ⟨c3, h1⟩ := bF h1
    obtain ⟨c4, h1⟩ := bF h1
    refine KP (Ds := [0 ≤ i5 ∧ i5 < (lN a0), 0 ≤ i5 ∧ i5 < (lN b1)]) (by kernel_rfl) ⟨c3, c4, trivial⟩ ?_
    refine bO [] [(25, (aJ (!((decide (((gD a0 i5).Kind) = ((gD b1 i5).Kind))) && ((decide (((gD a0 i5).Num) = ((gD b1 i5).Num))) && ((mR ((gD a0 i5).Text) ((gD b1 i5).Text)) && true))))))] ?_
    refine bH h1 (fun h1 => ?_) (fun h1 => ?_)
    · refine bT aG 1 [(4, (aJ false))] ?_
      refine bG ?_
      obtain rfl := oI h1
      obtain rfl : _ = rr0 := ho0
      replace h0 : some false = some r := h0
      obtain rfl := oI h0
      exact aI (bS (aW (aW (bS (aW (Q_r hO))))))
    refine bK ?_
    refine hU [(0, (eL aM a0)), (1, (eL aM b1)), (5, (eI i5))] ?_
    refine aI (aX (aH (?_)))
    refine aS aG 3 ?_
    refine bA ?_
    exact aI (aH (⟨rfl, _, (oI h1).symm, .eq (by kernel_rfl), hO⟩))
  refine eR 0 ?_
  obtain rfl := oI h1
  obtain rfl : _ = rr0 := ho0
  replace h0 : pU  = some r := h0
  exact aI (aU (aU (bM (aH (⟨rfl, .eq (by kernel_rfl), hO, h0⟩)))))

theorem xO (a0 : (List aC)) (b1 : (List aC)) (r : Bool) (h0 : mG a0 b1 = some r) : bU Try.prog 16 [(eL aE a0), (eL aE b1)] (aJ r) := by
  intro H0
  refine cB Try.func16 ?_
  have hO := aN.start H0
  unfold mG at h0
  refine aT aG 1 [] [] ?_
  refine aP ?_
  refine aT aG 5 [] [(10, (aJ (!decide ((lN a0) = (lN b1)))))] ?_
  refine bH h0 (fun h0 => ?_) (fun h0 => ?_)
  · refine bT aG 1 [(4, (aJ false))] ?_
    refine bG ?_
    obtain rfl := oI h0
    exact aI (aW (Q_r hO))
  refine bK ?_
  refine bD [(0, (eL aE a0)), (1, (eL aE b1))] ?_
  refine dJ (fun T H => Has T [] ∧ aN ⟨H0, [], []⟩ H [] ∧ pW  = some r) ?_ ?_
  · clear hO h0
    rintro T H ⟨hT, hO, h0⟩
    refine aZ hT ?_
    clear hT
    unfold pW at h0
    refine bT aG 1 [(4, (aJ true))] ?_
    refine bG ?_
    obtain rfl := oI h0
    exact aI (Q_r hO)
  refine aT aG 1 [] [(5, (eI (0 : Int)))] ?_
  refine bR 0 ?_
  refine dQ [(0, (eL aE a0)), (1, (eL aE b1)), (5, (eI (0 : Int)))] ?_
  refine cV (fun T H => ∃ i5 : Int, Has T [(0, (eL aE a0)), (1, (eL aE b1)), (5, (eI i5))] ∧ aN ⟨H0, [], []⟩ H [] ∧ sX a0 b1 i5 = some r) ?_ ⟨(0 : Int), .eq (by kernel_rfl), hO, h0⟩
  clear hO h0
  rintro T H ⟨i5, hT, hO, h0⟩
  refine aZ hT ?_
  clear hT
  unfold sX at h0
  obtain ⟨rr0, hl0, h0⟩ := aV h0
  refine bZ (by kernel_rfl) (fun (s : Int) T H => Has T [(0, (eL aE a0)), (1, (eL aE b1)), (5, (eI s))] ∧ aN ⟨H0, [], []⟩ H []) hl0 ⟨.eq (by kernel_rfl), hO⟩ ?_
  clear hO
  rintro k0 s out1 T H ⟨hT, hO⟩ h1 ho0
  obtain ⟨i5, rfl⟩ : ∃ x, x = s := ⟨_, rfl⟩
  replace h1 : oD a0 b1 i5 = some out1 := h1
  refine aZ hT ?_
  clear hT
  unfold oD at h1
  refine aP ?_
  refine aT aG 4 [] [(14, (aJ (decide (i5 < (lN a0)))))] ?_
  refine bH h1 (fun h1 => ?_) (fun h1 => ?_)
  · refine bK ?_
    refine bD [(0, (eL aE a0)), (1, (eL aE b1)), (5, (eI i5))] ?_
    refine aP ?_
    refine bR 1 ?_
    refine aP ?_
    obtain ⟨c3, h1⟩ := bF h1
    obtain ⟨c4, h1⟩ := bF h1
    obtain ⟨c5, h1⟩ := bF h1
    obtain ⟨c6, h1⟩ := bF h1
    obtain ⟨c7, h1⟩ := bF h1
    obtain ⟨c8, h1⟩ := bF h1
    obtain ⟨x9, hx10, h1⟩ := aV h1
    refine kE (kA [21, 26, 33, 38, 46, 51]) aG 38 ?_
    refine BR (K := fun T H => Has (lift T) [(0, (eL aE a0)), (1, (eL aE b1)), (5, (eI i5)), (54, (aJ (((!decide (((gD a0 i5).At) = ((gD b1 i5).At))) || (!decide (((gD a0 i5).Net) = ((gD b1 i5).Net)))) || (!x9))))] ∧ aN ⟨H0, [], []⟩ H []) ?_ ?_
    · refine cT 12 [0 ≤ i5 ∧ i5 < (lN a0), 0 ≤ i5 ∧ i5 < (lN b1)] ⟨c3, c4, trivial⟩ ?_
      refine zD (t := 28) (e := !decide (((gD a0 i5).At) = ((gD b1 i5).At))) (by kernel_rfl) (fun hg11 => ?_) (fun hg11 => ?_)
      · refine nO ?_
        exact ⟨⟨[(0, (eL aE a0)), (1, (eL aE b1)), (5, (eI i5)), (54, (aJ true))], by kernel_rfl, rfl, ⟨aR.refl _, aR.refl _, aR.refl _, aR.eq (by first | (simp only [aJ, hg11, Bool.not_true, Bool.not_false, Bool.true_and, Bool.and_true, Bool.false_and, Bool.and_false, Bool.or_true, Bool.true_or, Bool.or_false, Bool.false_or, cond_true, cond_false]; done) | simp [aJ, hg11]), trivial⟩⟩, hO⟩
      refine cT 25 [0 ≤ i5 ∧ i5 < (lN a0), 0 ≤ i5 ∧ i5 < (lN b1)] ⟨(c5 (GC hg11)), (c6 (GC hg11)), trivial⟩ ?_
      refine zD (t := 41) (e := !decide (((gD a0 i5).Net) = ((gD b1 i5).Net))) (by kernel_rfl) (fun hg12 => ?_) (fun hg12 => ?_)
      · refine nO ?_
        exact ⟨⟨[(0, (eL aE a0)), (1, (eL aE b1)), (5, (eI i5)), (54, (aJ true))], by kernel_rfl, rfl, ⟨aR.refl _, aR.refl _, aR.refl _, aR.eq (by first | (simp only [aJ, hg11, hg12, Bool.not_true, Bool.not_false, Bool.true_and, Bool.and_true, Bool.false_and, Bool.and_false, Bool.or_true, Bool.true_or, Bool.or_false, Bool.false_or, cond_true, cond_false]; done) | simp [aJ, hg11, hg12]), trivial⟩⟩, hO⟩
      refine cT 35 [0 ≤ i5 ∧ i5 < (lN a0), 0 ≤ i5 ∧ i5 < (lN b1)] ⟨(c7 (GC (WH hg11 hg12))), (c8 (GC (WH hg11 hg12))), trivial⟩ ?_
      refine HY 48 [(eL aM ((gD a0 i5).Row)), (eL aM ((gD b1 i5).Row))] (aJ x9) (by kernel_rfl) (by kernel_rfl) (MS ((gD a0 i5).Row) ((gD b1 i5).Row) _ (pX hx10 (GC (WH hg11 hg12)))) hO ?_
      intro H hO
      refine nO ?_
      exact ⟨⟨[(0, (eL aE a0)), (1, (eL aE b1)), (5, (eI i5)), (54, (aJ (!x9)))], by kernel_rfl, rfl, ⟨aR.refl _, aR.refl _, aR.refl _, aR.eq (by first | (simp only [aJ, hg11, hg12, Bool.not_true, Bool.not_false, Bool.true_and, Bool.and_true, Bool.false_and, Bool.and_false, Bool.or_true, Bool.true_or, Bool.or_false, Bool.false_or, cond_true, cond_false]; done) | simp [aJ, hg11, hg12]), trivial⟩⟩, hO⟩
    · rintro T H ⟨hT, hO⟩
      refine cE hT ?_
      clear hT
      refine aI (aH ?_)
      refine bH h1 (fun h1 => ?_) (fun h1 => ?_)
      · refine bT aG 1 [(4, (aJ false))] ?_
        refine bG ?_
        obtain rfl := oI h1
        obtain rfl : _ = rr0 := ho0
        replace h0 : some false = some r := h0
        obtain rfl := oI h0
        exact aI (bS (aW (aW (bS (aW (Q_r hO))))))
      refine bK ?_
      refine hU [(0, (eL aE a0)), (1, (eL aE b1)), (5, (eI i5))] ?_
      refine aI (aX (aH (?_)))
      refine aS aG 3 ?_
      refine bA ?_
      exact aI (aH (⟨rfl, _, (oI h1).symm, .eq (by kernel_rfl), hO⟩))
  refine eR 0 ?_
  obtain rfl := oI h1
  obtain rfl : _ = rr0 := ho0
  replace h0 : pW  = some r := h0
  exact aI (aU (aU (bM (aH (⟨rfl, .eq (by kernel_rfl), hO, h0⟩)))))

end Go.Abs
namespace Go.Abs
open Go Go.RowKit Go.Proofs
theorem FW (l0 : (List aC)) (by1_f : Nat) (by1_a by1_c : List V) (by1 : (List aB) → Option ((List aB) × Int)) (by1_h : ∀ a0 r, by1 a0 = some r → bU Try.prog by1_f (by1_a ++ [(eL aD a0)] ++ by1_c) (.tup [(eL aD r.1), (eI r.2)])) (r : ((List aC) × Int)) (h0 : rP l0 by1 = some r) : bU Try.prog 71 [(eL aE l0), (.fn (.func by1_f) by1_a by1_c)] (.tup [(eL aE r.1), (eI r.2)]) := by
  intro H0
  refine cB Try.func71 ?_
  have hO := aN.start H0
  unfold rP at h0
  refine aT aG 2 [] [] ?_
  refine aP ?_
  refine aP ?_
  refine aS aG 3 ?_
  refine bI 1 ?_
  obtain ⟨x1, hx2, h0⟩ := aV h0
  refine cD (GZ l0 _ hx2) hO ?_
  intro H hO
  refine bA ?_
  refine bO [] [(8, (aJ (!x1)))] ?_
  refine bH h0 (fun h0 => ?_) (fun h0 => ?_)
  · refine bT aG 2 [(4, (.sl true 0 (fun _ => .bad))), (5, (eI (2 : Int)))] ?_
    refine bG ?_
    refine cE (l := [(4, (eL aE ([]))), (5, (eI (2 : Int)))]) ⟨[(4, (.sl true 0 (fun _ => .bad))), (5, (eI (2 : Int)))], by kernel_rfl, rfl, ⟨iQ, aR.refl _, trivial⟩⟩ ?_
    obtain rfl := oI h0
    exact aI (aW (Q_r hO))
  refine bK ?_
  refine bD [(0, (eL aE l0)), (1, (.fn (.func by1_f) by1_a by1_c))] ?_
  refine aP ?_
  refine aS aG 7 ?_
  refine bI 2 ?_
  obtain ⟨x5, hx6, h0⟩ := aV h0
  refine cD (BC l0 by1_f by1_a by1_c by1 by1_h _ hx6) hO ?_
  intro H hO
  refine bA ?_
  refine bD [(4, (eL aE x5.1)), (5, (eI x5.2))] ?_
  refine bG ?_
  obtain rfl := oI h0
  exact aI (Q_r hO)

theorem LO (f0 : (List aB)) (t1 : Int) (r : ((List aB) × Int)) (h0 : rI f0 t1 = some r) : bU Try.prog 73 [(eL aD f0), (eI t1)] (.tup [(eL aD r.1), (eI r.2)]) := by
  intro H0
  refine cB Try.func73 ?_
  have hO := aN.start H0
  unfold rI at h0
  refine aT aG 2 [] [] ?_
  refine aP ?_
  refine aP ?_
  refine aS aG 3 ?_
  refine bI 1 ?_
  obtain ⟨x1, hx2, h0⟩ := aV h0
  refine cD (rR f0 _ hx2) hO ?_
  intro H hO
  refine bA ?_
  refine bO [] [(12, (aJ (!x1)))] ?_
  refine bH h0 (fun h0 => ?_) (fun h0 => ?_)
  · refine bT aG 2 [(4, (.sl true 0 (fun _ => .bad))), (5, (eI (2 : Int)))] ?_
    refine bG ?_
    refine cE (l := [(4, (eL aD ([]))), (5, (eI (2 : Int)))]) ⟨[(4, (.sl true 0 (fun _ => .bad))), (5, (eI (2 : Int)))], by kernel_rfl, rfl, ⟨iQ, aR.refl _, trivial⟩⟩ ?_
    obtain rfl := oI h0
    exact aI (aW (Q_r hO))
  refine bK ?_
  refine bD [(0, (eL aD f0)), (1, (eI t1))] ?_
  refine aP ?_
  refine aT aG 2 [] [(14, (aJ (decide ((1125899906842624 : Int) ≤ t1))))] ?_
  refine bH h0 (fun h0 => ?_) (fun h0 => ?_)
  · refine aP ?_
    refine aS aG 4 ?_
    refine bI 1 ?_
    obtain ⟨x6, hx7, h0⟩ := aV h0
    refine DL (L' := fun lo8 => [(lo8, 2, List.map aD x6)]) 2 (List.map aD x6) 99 [(eL aD f0)] (fun lo8 => (.msl 2 lo8 0 (List.length x6))) (by kernel_rfl) (by kernel_rfl) (kK f0 _ hx7) hO (fun _ => by kernel_rfl) ?_
    intro lo8 H hO
    refine bA ?_
    refine bD [(4, (.msl 2 lo8 0 (List.length x6))), (5, (eI (0 : Int)))] ?_
    refine bG ?_
    refine hU [(4, (.msl 2 lo8 0 (List.length x6))), (5, (eI (0 : Int)))] ?_
    refine CC (en := aD) x6 0 0 4 2 lo8 (List.length x6) hO (by kernel_rfl) (by kernel_rfl) (by kernel_rfl) (L' := []) (by kernel_rfl) ?_
    intro H9 hO
    obtain rfl := oI h0
    exact aI (aW (Q_r hO))
  refine bK ?_
  refine bD [(0, (eL aD f0)), (1, (eI t1))] ?_
  refine aP ?_
  refine aS aG 3 ?_
  refine rX (xs := []) (k := 2) (by kernel_rfl) (by kernel_rfl) ?_
  refine bA ?_
  refine bO [] [(6, (.sl true 0 (fun _ => .bad))), (7, (eI (0 : Int)))] ?_
  refine dJ (fun T H => ∃ out6 : List aB, ∃ v7 : Int, ∃ lo10 : Nat, Has T [(1, (eI t1)), (6, (.msl 2 lo10 0 (List.length out6))), (7, (eI v7))] ∧ aN ⟨H0, [], []⟩ H [(lo10, 2, List.map aD out6)] ∧ oC t1 out6 v7 = some r) ?_ ?_
  · clear hO h0
    rintro T H ⟨out6, v7, lo10, hT, hO, h0⟩
    refine aZ hT ?_
    clear hT
    unfold oC at h0
    refine dJ (fun T H => ∃ out6 : List aB, ∃ lo11 : Nat, Has T [(6, (.msl 2 lo11 0 (List.length out6)))] ∧ aN ⟨H0, [], []⟩ H [(lo11, 2, List.map aD out6)] ∧ pO out6 = some r) ?_ ?_
    · clear hO h0
      rintro T H ⟨out6, lo11, hT, hO, h0⟩
      refine aZ hT ?_
      clear hT
      unfold pO at h0
      refine aP ?_
      refine aS aG 6 ?_
      refine tU (e := aD) out6 0 6 2 lo11 (List.length out6) [] (by kernel_rfl) hO (by kernel_rfl) (by kernel_rfl) (by kernel_rfl) (by kernel_rfl) ?_
      intro H hO
      refine bI 1 ?_
      obtain ⟨x12, hx13, h0⟩ := aV h0
      refine cD (yH out6 _ hx13) hO ?_
      intro H hO
      refine bA ?_
      refine bD [(4, (eL aD x12.1)), (5, (eI x12.2))] ?_
      refine bG ?_
      obtain rfl := oI h0
      exact aI (Q_r hO)
    refine aT aG 2 [] [(38, (aJ (!decide (v7 = (0 : Int)))))] ?_
    refine bH h0 (fun h0 => ?_) (fun h0 => ?_)
    · refine aS aG 8 ?_
      refine bI 5 ?_
      refine rX (xs := [(aD (aB.mk t1 (wR (0 - v7))))]) (k := 2) (by kernel_rfl) (by kernel_rfl) ?_
      obtain ⟨c17, h0⟩ := bF h0
      refine yU (e := aD) out6 ([aB.mk t1 (wR (0 - v7))]) 0 lo10 2 16 (kM [(aD (aB.mk t1 (wR (0 - v7))))]) (fun lo16 => [(lo16, 2, List.map aD (out6 ++ ([aB.mk t1 (wR (0 - v7))])))]) (by kernel_rfl) (by kernel_rfl) hO (by kernel_rfl) (by kernel_rfl) c17 (fun _ => by kernel_rfl) ?_
      intro lo16 H hO
      refine bA ?_
      exact aI (aH (⟨rfl, _, _, .eq (by kernel_rfl), hO, h0⟩))
    refine bK ?_
    exact aI (aH (⟨rfl, _, _, .eq (by kernel_rfl), hO, h0⟩))
  refine aT aG 3 [0] [(18, (eL aD f0)), (19, (eI (lN f0))), (20, (eI (0 : Int)))] ?_
  refine bR 0 ?_
  refine dQ [(1, (eI t1)), (6, (.sl true 0 (fun _ => .bad))), (7, (eI (0 : Int))), (18, (eL aD f0)), (19, (eI (lN f0))), (20, (eI (0 : Int)))] ?_
  refine NY (el := (fun _ => .bad)) 1 6 2 hO (by kernel_rfl) ?_
  intro lo26 H27 hO
  refine cV (fun T H => ∃ out6 : List aB, ∃ v7 : Int, ∃ t18 : (List aB), ∃ t19 : Int, ∃ t20 : Int, ∃ lo19 : Nat, Has T [(1, (eI t1)), (6, (.msl 2 lo19 0 (List.length out6))), (7, (eI v7)), (18, (eL aD t18)), (19, (eI t19)), (20, (eI t20))] ∧ aN ⟨H0, [], []⟩ H [(lo19, 2, List.map aD out6)] ∧ tA t1 out6 v7 t18 t19 t20 = some r) ?_ ⟨([] : List aB), (0 : Int), f0, (lN f0), (0 : Int), lo26, .eq (by kernel_rfl), hO, h0⟩
  clear hO h0
  rintro T H ⟨out6, v7, t18, t19, t20, lo19, hT, hO, h0⟩
  refine aZ hT ?_
  clear hT
  unfold tA at h0
  obtain ⟨rr0, hl0, h0⟩ := aV h0
  refine bZ (by kernel_rfl) (fun (s : List aB × Int × Int) T H => ∃ lo19 : Nat, Has T [(1, (eI t1)), (6, (.msl 2 lo19 0 (List.length s.1))), (7, (eI s.2.1)), (18, (eL aD t18)), (19, (eI t19)), (20, (eI s.2.2))] ∧ aN ⟨H0, [], []⟩ H [(lo19, 2, List.map aD s.1)]) hl0 ⟨lo19, .eq (by kernel_rfl), hO⟩ ?_
  clear hO
  rintro k0 s out1 T H ⟨lo19, hT, hO⟩ h1 ho0
  obtain ⟨out6, v7, t20⟩ := s
  replace h1 : iI t1 t18 t19 out6 v7 t20 = some out1 := h1
  dsimp only at hT
  refine aZ hT ?_
  clear hT
  unfold iI at h1
  refine aT aG 1 [] [(21, (aJ (decide (t20 < t19))))] ?_
  refine aP ?_
  refine bH h1 (fun h1 => ?_) (fun h1 => ?_)
  · refine bK ?_
    refine bD [(1, (eI t1)), (6, (.msl 2 lo19 0 (List.length out6))), (7, (eI v7)), (18, (eL aD t18)), (19, (eI t19)), (20, (eI t20))] ?_
    refine aP ?_
    refine bR 1 ?_
    refine aP ?_
    refine aS aG 4 ?_
    obtain ⟨c21, h1⟩ := bF h1
    refine wE 2 [0 ≤ t20 ∧ t20 < (lN t18)] ⟨c21, trivial⟩ ?_
    refine pL 2 (aD (aB.mk 0 0)) (by kernel_rfl) (by kernel_rfl) hO ?_
    intro lo22 H hO
    refine nN 1 lo22 2 0 (aD (aB.mk 0 0)) (aD (gD t18 t20)) [(aD (aB.mk 0 0))] [(lo19, 2, List.map aD out6), (lo22, 2, [(aD (gD t18 t20))])] hO rfl (by kernel_rfl) ?_
    intro H hO
    refine cQ ?_
    refine bO [] [(9, (.lp lo22 0 0))] ?_
    refine aP ?_
    refine aP ?_
    refine aS aG 4 ?_
    refine bI 1 ?_
    refine uD 1 lo22 2 0 (aD (gD t18 t20)) (eI ((gD t18 t20).At)) [(aD (gD t18 t20))] hO rfl ?_
    refine bA ?_
    refine bO [] [(27, (aJ (decide (t1 ≤ ((gD t18 t20).At)))))] ?_
    refine bH h1 (fun h1 => ?_) (fun h1 => ?_)
    · refine eR 0 ?_
      replace hO := hO.pick (L' := [(lo19, 2, List.map aD out6)]) [0] (by decide) (by kernel_rfl)
      obtain rfl := oI h1
      obtain rfl : _ = rr0 := ho0
      replace h0 : oC t1 out6 v7 = some r := h0
      exact aI (aU (PB (by kernel_rfl) (aU (aU (bM (aH (⟨rfl, _, _, _, .eq (by kernel_rfl), hO, h0⟩)))))))
    refine bK ?_
    refine bD [(1, (eI t1)), (6, (.msl 2 lo19 0 (List.length out6))), (7, (eI v7)), (9, (.lp lo22 0 0)), (18, (eL aD t18)), (19, (eI t19)), (20, (eI t20))] ?_
    refine aP ?_
    refine aS aG 5 ?_
    refine bI 1 ?_
    refine uD 1 lo22 2 0 (aD (gD t18 t20)) (aD (gD t18 t20)) [(aD (gD t18 t20))] hO rfl ?_
    refine rX (xs := [(aD (gD t18 t20))]) (k := 2) (by kernel_rfl) (by kernel_rfl) ?_
    obtain ⟨c25, h1⟩ := bF h1
    refine yU (e := aD) out6 ([gD t18 t20]) 0 lo19 2 16 (kM [(aD (gD t18 t20))]) (fun lo24 => [(lo24, 2, List.map aD (out6 ++ ([gD t18 t20]))), (lo22, 2, [(aD (gD t18 t20))])]) (by kernel_rfl) (by kernel_rfl) hO (by kernel_rfl) (by kernel_rfl) c25 (fun _ => by kernel_rfl) ?_
    intro lo24 H hO
    refine bA ?_
    refine bO [6] [(6, (.msl 2 lo24 0 (List.length (out6 ++ ([gD t18 t20])))))] ?_
    refine aS aG 5 ?_
    refine bI 2 ?_
    refine uD 1 lo22 2 0 (aD (gD t18 t20)) (eI ((gD t18 t20).Net)) [(aD (gD t18 t20))] hO rfl ?_
    refine bA ?_
    refine hU [(1, (eI t1)), (6, (.msl 2 lo24 0 (List.length (out6 ++ ([gD t18 t20]))))), (7, (eI (wR (v7 + ((gD t18 t20).Net))))), (18, (eL aD t18)), (19, (eI t19)), (20, (eI t20))] ?_
    replace hO := hO.pick (L' := [(lo24, 2, List.map aD (out6 ++ ([gD t18 t20])))]) [0] (by decide) (by kernel_rfl)
    refine aI (aX (aH (?_)))
    refine aS aG 2 ?_
    refine bA ?_
    exact aI (aH (⟨rfl, _, (oI h1).symm, _, .eq (by kernel_rfl), hO⟩))
  refine eR 0 ?_
  obtain rfl := oI h1
  obtain rfl : _ = rr0 := ho0
  replace h0 : oC t1 out6 v7 = some r := h0
  exact aI (aU (aU (bM (aH (⟨rfl, _, _, _, .eq (by kernel_rfl), hO, h0⟩)))))

theorem HT (f0 : (List aB)) (t1 : Int) (r : ((List aB) × Int)) (h0 : nC f0 t1 = some r) : bU Try.prog 72 [(eL aD f0), (.rp (eI t1))] (.tup [(eL aD r.1), (eI r.2)]) := by
  intro H0
  refine cB Try.func72 ?_
  have hO := aN.start H0
  unfold nC at h0
  refine aT aG 2 [] [] ?_
  refine aP ?_
  refine aS aG 7 ?_
  refine bI 2 ?_
  obtain ⟨x1, hx2, h0⟩ := aV h0
  refine cD (LO f0 t1 _ hx2) hO ?_
  intro H hO
  refine bA ?_
  refine bD [(3, (eL aD x1.1)), (4, (eI x1.2))] ?_
  refine bG ?_
  obtain rfl := oI h0
  exact aI (Q_r hO)

theorem uT (l0 : (List aC)) (t1 : Int) (r : ((List aC) × Int)) (h0 : mC l0 t1 = some r) : bU Try.prog 30 [(eL aE l0), (eI t1)] (.tup [(eL aE r.1), (eI r.2)]) := by
  intro H0
  refine cB Try.func30 ?_
  have hO := aN.start H0
  unfold mC at h0
  refine aP ?_
  refine aS aG 3 ?_
  refine kC 1 (eI t1) (by kernel_rfl) (by kernel_rfl) ?_
  refine bA ?_
  refine bO [1] [(3, (.rp (eI t1)))] ?_
  refine aP ?_
  refine aS aG 7 ?_
  refine bI 2 ?_
  obtain ⟨x1, hx2, h0⟩ := aV h0
  refine cD (FW l0 72 [] [(.rp (eI t1))] (fun y0 => nC y0 t1) (fun y0 r h => HT y0 t1 r h) _ hx2) hO ?_
  intro H hO
  refine bA ?_
  refine bD [(4, (eL aE x1.1)), (5, (eI x1.2))] ?_
  refine bG ?_
  obtain rfl := oI h0
  exact aI (Q_r hO)

theorem OM (f0 : (List aB)) (t1 : Int) (r : ((List aB) × Int)) (h0 : sO f0 t1 = some r) : bU Try.prog 75 [(eL aD f0), (eI t1)] (.tup [(eL aD r.1), (eI r.2)]) := by
  intro H0
  refine cB Try.func75 ?_
  have hO := aN.start H0
  unfold sO at h0
  refine aT aG 2 [] [] ?_
  refine aP ?_
  refine bR 0 ?_
  refine aP ?_
  refine aS aG 4 ?_
  refine bI 1 ?_
  obtain ⟨x1, hx2, h0⟩ := aV h0
  refine cD (rR f0 _ hx2) hO ?_
  intro H hO
  refine bA ?_
  refine bO [] [(9, (aJ (!x1)))] ?_
  refine bH h0 (fun h0 => ?_) (fun h0 => ?_)
  · refine bT aG 2 [(4, (.sl true 0 (fun _ => .bad))), (5, (eI (2 : Int)))] ?_
    refine bG ?_
    refine cE (l := [(4, (eL aD ([]))), (5, (eI (2 : Int)))]) ⟨[(4, (.sl true 0 (fun _ => .bad))), (5, (eI (2 : Int)))], by kernel_rfl, rfl, ⟨iQ, aR.refl _, trivial⟩⟩ ?_
    obtain rfl := oI h0
    exact aI (bS (aW (Q_r hO)))
  refine aT aG 3 [9] [(13, (aJ (decide ((1125899906842624 : Int) ≤ t1))))] ?_
  refine bH h0 (fun h0 => ?_) (fun h0 => ?_)
  · refine bT aG 2 [(4, (.sl true 0 (fun _ => .bad))), (5, (eI (0 : Int)))] ?_
    refine bG ?_
    refine cE (l := [(4, (eL aD ([]))), (5, (eI (0 : Int)))]) ⟨[(4, (.sl true 0 (fun _ => .bad))), (5, (eI (0 : Int)))], by kernel_rfl, rfl, ⟨iQ, aR.refl _, trivial⟩⟩ ?_
    obtain rfl := oI h0
    exact aI (bS (aW (Q_r hO)))
  refine aT aG 3 [13] [(16, (aJ (decide (t1 ≤ (-1 : Int)))))] ?_
  refine bH h0 (fun h0 => ?_) (fun h0 => ?_)
  · refine aP ?_
    refine aS aG 4 ?_
    refine bI 1 ?_
    obtain ⟨x7, hx8, h0⟩ := aV h0
    refine DL (L' := fun lo9 => [(lo9, 2, List.map aD x7)]) 2 (List.map aD x7) 99 [(eL aD f0)] (fun lo9 => (.msl 2 lo9 0 (List.length x7))) (by kernel_rfl) (by kernel_rfl) (kK f0 _ hx8) hO (fun _ => by kernel_rfl) ?_
    intro lo9 H hO
    refine bA ?_
    refine bD [(4, (.msl 2 lo9 0 (List.length x7))), (5, (eI (0 : Int)))] ?_
    refine bG ?_
    refine hU [(4, (.msl 2 lo9 0 (List.length x7))), (5, (eI (0 : Int)))] ?_
    refine CC (en := aD) x7 0 0 4 2 lo9 (List.length x7) hO (by kernel_rfl) (by kernel_rfl) (by kernel_rfl) (L' := []) (by kernel_rfl) ?_
    intro H10 hO
    obtain rfl := oI h0
    exact aI (bS (aW (Q_r hO)))
  refine bK ?_
  refine hU [(0, (eL aD f0)), (1, (eI t1))] ?_
  refine aI (aX (aH (?_)))
  refine aT aG 2 [] [(6, (eI (0 : Int))), (7, (eI (0 : Int)))] ?_
  refine dJ (fun T H => ∃ v6 : Int, ∃ at7 : Int, Has T [(0, (eL aD f0)), (6, (eI v6)), (7, (eI at7))] ∧ aN ⟨H0, [], []⟩ H [] ∧ rJ f0 v6 at7 = some r) ?_ ?_
  · clear hO h0
    rintro T H ⟨v6, at7, hT, hO, h0⟩
    refine aZ hT ?_
    clear hT
    unfold rJ at h0
    refine aP ?_
    refine aS aG 2 ?_
    refine rX (xs := []) (k := 2) (by kernel_rfl) (by kernel_rfl) ?_
    refine bA ?_
    refine bO [] [(8, (.sl true 0 (fun _ => .bad)))] ?_
    refine dJ (fun T H => ∃ out8 : List aB, ∃ lo11 : Nat, Has T [(0, (eL aD f0)), (7, (eI at7)), (8, (.msl 2 lo11 0 (List.length out8)))] ∧ aN ⟨H0, [], []⟩ H [(lo11, 2, List.map aD out8)] ∧ rH f0 at7 out8 = some r) ?_ ?_
    · clear hO h0
      rintro T H ⟨out8, lo11, hT, hO, h0⟩
      refine aZ hT ?_
      clear hT
      unfold rH at h0
      refine aP ?_
      refine aS aG 10 ?_
      obtain ⟨c15, h0⟩ := bF h0
      refine wE 4 [0 ≤ at7 ∧ at7 ≤ (lN f0)] ⟨c15, trivial⟩ ?_
      obtain ⟨c17, h0⟩ := bF h0
      refine yU (e := aD) out8 (List.drop (Int.toNat at7) f0) 0 lo11 2 16 (.sl false (List.length f0 - Int.toNat at7) (fun i => aD (List.getD f0 (Int.toNat at7 + i) default))) (fun lo16 => [(lo16, 2, List.map aD (out8 ++ (List.drop (Int.toNat at7) f0)))]) (by kernel_rfl) (by kernel_rfl) hO (by kernel_rfl) (SS (fun _ => by kernel_rfl)) c17 (fun _ => by kernel_rfl) ?_
      intro lo16 H hO
      refine tU (e := aD) (out8 ++ (List.drop (Int.toNat at7) f0)) 0 55 2 lo16 (List.length (out8 ++ (List.drop (Int.toNat at7) f0))) [] (by kernel_rfl) hO (by kernel_rfl) (by kernel_rfl) (by kernel_rfl) (by kernel_rfl) ?_
      intro H hO
      obtain ⟨x18, hx19, h0⟩ := aV h0
      refine cD (yH (out8 ++ (List.drop (Int.toNat at7) f0)) _ hx19) hO ?_
      intro H hO
      refine bA ?_
      refine bD [(4, (eL aD x18.1)), (5, (eI x18.2))] ?_
      refine bG ?_
      obtain rfl := oI h0
      exact aI (Q_r hO)
    refine aT aG 2 [] [(45, (aJ (!decide (v6 = (0 : Int)))))] ?_
    refine bH h0 (fun h0 => ?_) (fun h0 => ?_)
    · refine aS aG 6 ?_
      refine bI 3 ?_
      refine rX (xs := [(aD (aB.mk (-1 : Int) v6))]) (k := 2) (by kernel_rfl) (by kernel_rfl) ?_
      obtain ⟨c23, h0⟩ := bF h0
      refine HU (e := aD) ([aB.mk (-1 : Int) v6]) (fun _ => .bad) 2 16 (kM [(aD (aB.mk (-1 : Int) v6))]) (fun lo22 => [(lo22, 2, List.map aD ([aB.mk (-1 : Int) v6]))]) (by kernel_rfl) (by kernel_rfl) hO (by kernel_rfl) c23 (fun _ => by kernel_rfl) ?_
      intro lo22 H hO
      refine bA ?_
      exact aI (aH (⟨rfl, _, _, .eq (by kernel_rfl), hO, h0⟩))
    refine bK ?_
    refine hU [(0, (eL aD f0)), (7, (eI at7)), (8, (.sl true 0 (fun _ => .bad)))] ?_
    refine LI (el := (fun _ => .bad)) 2 8 2 hO (by kernel_rfl) ?_
    intro lo24 H25 hO
    exact aI (aH (⟨rfl, ([] : List aB), _, .eq (by kernel_rfl), hO, h0⟩))
  refine bR 1 ?_
  refine dQ [(0, (eL aD f0)), (1, (eI t1)), (6, (eI (0 : Int))), (7, (eI (0 : Int)))] ?_
  refine cV (fun T H => ∃ v6 : Int, ∃ at7 : Int, Has T [(0, (eL aD f0)), (1, (eI t1)), (6, (eI v6)), (7, (eI at7))] ∧ aN ⟨H0, [], []⟩ H [] ∧ uE f0 t1 v6 at7 = some r) ?_ ⟨(0 : Int), (0 : Int), .eq (by kernel_rfl), hO, h0⟩
  clear hO h0
  rintro T H ⟨v6, at7, hT, hO, h0⟩
  refine aZ hT ?_
  clear hT
  unfold uE at h0
  obtain ⟨rr0, hl0, h0⟩ := aV h0
  refine bZ (by kernel_rfl) (fun (s : Int × Int) T H => Has T [(0, (eL aD f0)), (1, (eI t1)), (6, (eI s.1)), (7, (eI s.2))] ∧ aN ⟨H0, [], []⟩ H []) hl0 ⟨.eq (by kernel_rfl), hO⟩ ?_
  clear hO
  rintro k0 s out1 T H ⟨hT, hO⟩ h1 ho0
  obtain ⟨v6, at7⟩ := s
  replace h1 : kD f0 t1 v6 at7 = some out1 := h1
  dsimp only at hT
  refine aZ hT ?_
  clear hT
  unfold kD at h1
  refine aP ?_
  refine aP ?_
  refine aS aG 13 ?_
  obtain ⟨c26, h1⟩ := bF h1
  refine tH [(((decide (at7 < (lN f0)))) = true → 0 ≤ at7 ∧ at7 < (lN f0))] ⟨c26, trivial⟩ ?_
  refine bO [] [(33, (aJ ((decide (at7 < (lN f0))) && (decide (((gD f0 at7).At) < t1)))))] ?_
  refine bH h1 (fun h1 => ?_) (fun h1 => ?_)
  · refine bK ?_
    refine bD [(0, (eL aD f0)), (1, (eI t1)), (6, (eI v6)), (7, (eI at7))] ?_
    refine bR 2 ?_
    refine aP ?_
    refine aS aG 8 ?_
    obtain ⟨c28, h1⟩ := bF h1
    refine tH [0 ≤ at7 ∧ at7 < (lN f0)] ⟨c28, trivial⟩ ?_
    refine bO [6] [(6, (eI (wR (v6 + ((gD f0 at7).Net)))))] ?_
    refine aS aG 3 ?_
    refine bA ?_
    exact aI (aX (aH (⟨rfl, _, (oI h1).symm, .eq (by kernel_rfl), hO⟩)))
  refine eR 1 ?_
  obtain rfl := oI h1
  obtain rfl : _ = rr0 := ho0
  replace h0 : rJ f0 v6 at7 = some r := h0
  exact aI (aU (aU (bM (aH (⟨rfl, _, _, .eq (by kernel_rfl), hO, h0⟩)))))

theorem KA (f0 : (List aB)) (t1 : Int) (r : ((List aB) × Int)) (h0 : nX f0 t1 = some r) : bU Try.prog 74 [(eL aD f0), (.rp (eI t1))] (.tup [(eL aD r.1), (eI r.2)]) := by
  intro H0
  refine cB Try.func74 ?_
  have hO := aN.start H0
  unfold nX at h0
  refine aT aG 2 [] [] ?_
  refine aP ?_
  refine aS aG 7 ?_
  refine bI 2 ?_
  obtain ⟨x1, hx2, h0⟩ := aV h0
  refine cD (OM f0 t1 _ hx2) hO ?_
  intro H hO
  refine bA ?_
  refine bD [(3, (eL aD x1.1)), (4, (eI x1.2))] ?_
  refine bG ?_
  obtain rfl := oI h0
  exact aI (Q_r hO)

theorem ON (l0 : (List aC)) (t1 : Int) (r : ((List aC) × Int)) (h0 : sL l0 t1 = some r) : bU Try.prog 31 [(eL aE l0), (eI t1)] (.tup [(eL aE r.1), (eI r.2)]) := by
  intro H0
  refine cB Try.func31 ?_
  have hO := aN.start H0
  unfold sL at h0
  refine aP ?_
  refine aS aG 3 ?_
  refine kC 1 (eI t1) (by kernel_rfl) (by kernel_rfl) ?_
  refine bA ?_
  refine bO [1] [(3, (.rp (eI t1)))] ?_
  refine aP ?_
  refine aS aG 7 ?_
  refine bI 2 ?_
  obtain ⟨x1, hx2, h0⟩ := aV h0
  refine cD (FW l0 74 [] [(.rp (eI t1))] (fun y0 => nX y0 t1) (fun y0 r h => KA y0 t1 r h) _ hx2) hO ?_
  intro H hO
  refine bA ?_
  refine bD [(4, (eL aE x1.1)), (5, (eI x1.2))] ?_
  refine bG ?_
  obtain rfl := oI h0
  exact aI (Q_r hO)

theorem BJ (l0 : (List aC)) (m1 : (List aC)) (d2 : Int) (t3 : Int) (r : Bool) (h0 : nK l0 m1 d2 t3 = some r) : bU Try.prog 7 [(eL aE l0), (eL aE m1), (eI d2), (eI t3)] (aJ r) := by
  intro H0
  refine cB Try.func7 ?_
  have hO := aN.start H0
  unfold nK at h0
  refine aT aG 1 [] [] ?_
  refine aP ?_
  refine aS aG 8 ?_
  refine bI 2 ?_
  obtain ⟨x1, hx2, h0⟩ := aV h0
  refine cD (uT l0 t3 _ hx2) hO ?_
  intro H hO
  refine bA ?_
  refine bO [] [(9, (eL aE x1.1)), (10, (eI x1.2))] ?_
  refine aP ?_
  refine aS aG 8 ?_
  refine bI 2 ?_
  obtain ⟨x4, hx5, h0⟩ := aV h0
  refine cD (uT m1 t3 _ hx5) hO ?_
  intro H hO
  refine bA ?_
  refine bO [] [(11, (eL aE x4.1)), (12, (eI x4.2))] ?_
  refine aP ?_
  refine aP ?_
  refine aS aG 20 ?_
  refine bI 9 ?_
  obtain ⟨x7, hx8, h0⟩ := aV h0
  refine oT [(45, false)] 16 [(eL aE x1.1), (eL aE x4.1)] (aJ x7) (!((!decide (x1.2 = (0 : Int))) || (!decide (x4.2 = (0 : Int))))) (by kernel_rfl) (by kernel_rfl) (by kernel_rfl) (fun hb9 => (xO x1.1 x4.1 _ (pX hx8 hb9))) hO ?_
  intro H hO
  refine bA ?_
  refine bO [9, 10, 11, 12] [(58, (aJ (((((!decide (x1.2 = (0 : Int))) || (!decide (x4.2 = (0 : Int)))) || (!x7)) || (decide (t3 < (0 : Int)))) || (decide ((1125899906842624 : Int) ≤ t3)))))] ?_
  refine bH h0 (fun h0 => ?_) (fun h0 => ?_)
  · refine aP ?_
    refine aS aG 2 ?_
    obtain ⟨x11, hx12, h0⟩ := aV h0
    refine cD (uJ  _ hx12) hO ?_
    intro H hO
    refine bA ?_
    refine bD [(8, (aJ x11))] ?_
    refine bG ?_
    obtain rfl := oI h0
    exact aI (aW (Q_r hO))
  refine bK ?_
  refine bD [(0, (eL aE l0)), (1, (eL aE m1)), (2, (eI d2)), (3, (eI t3))] ?_
  refine aP ?_
  refine aS aG 8 ?_
  refine bI 2 ?_
  obtain ⟨x14, hx15, h0⟩ := aV h0
  refine cD (qE l0 d2 (0 : Int) _ hx15) hO ?_
  intro H hO
  refine bA ?_
  refine bO [] [(13, (eL aE x14.1)), (14, (eI x14.2))] ?_
  refine aP ?_
  refine aS aG 8 ?_
  refine bI 2 ?_
  obtain ⟨x17, hx18, h0⟩ := aV h0
  refine cD (qE m1 d2 (0 : Int) _ hx18) hO ?_
  intro H hO
  refine bA ?_
  refine bO [1] [(15, (eL aE x17.1)), (16, (eI x17.2))] ?_
  refine aP ?_
  refine aT aG 6 [14, 16] [(77, (aJ ((!decide (x14.2 = (0 : Int))) || (!decide (x17.2 = (0 : Int))))))] ?_
  refine bH h0 (fun h0 => ?_) (fun h0 => ?_)
  · refine aP ?_
    refine aS aG 2 ?_
    obtain ⟨x21, hx22, h0⟩ := aV h0
    refine cD (uJ  _ hx22) hO ?_
    intro H hO
    refine bA ?_
    refine bD [(8, (aJ x21))] ?_
    refine bG ?_
    obtain rfl := oI h0
    exact aI (aW (Q_r hO))
  refine bK ?_
  refine bD [(0, (eL aE l0)), (2, (eI d2)), (3, (eI t3)), (13, (eL aE x14.1)), (15, (eL aE x17.1))] ?_
  refine aP ?_
  refine aS aG 8 ?_
  refine bI 2 ?_
  obtain ⟨x24, hx25, h0⟩ := aV h0
  refine cD (uT x14.1 t3 _ hx25) hO ?_
  intro H hO
  refine bA ?_
  refine bO [13] [(17, (eL aE x24.1)), (18, (eI x24.2))] ?_
  refine aP ?_
  refine aS aG 8 ?_
  refine bI 2 ?_
  obtain ⟨x27, hx28, h0⟩ := aV h0
  refine cD (uT x17.1 t3 _ hx28) hO ?_
  intro H hO
  refine bA ?_
  refine bO [15] [(19, (eL aE x27.1)), (20, (eI x27.2))] ?_
  refine aP ?_
  refine aP ?_
  refine aS aG 12 ?_
  refine bI 9 ?_
  obtain ⟨x30, hx31, h0⟩ := aV h0
  refine oT [(97, true)] 16 [(eL aE x24.1), (eL aE x27.1)] (aJ x30) ((decide (x24.2 = (0 : Int))) && (decide (x27.2 = (0 : Int)))) (by kernel_rfl) (by kernel_rfl) (by kernel_rfl) (fun hb32 => (xO x24.1 x27.1 _ (pX hx31 hb32))) hO ?_
  intro H hO
  refine bA ?_
  refine bO [17, 18, 19, 20] [(102, (aJ (((decide (x24.2 = (0 : Int))) && (decide (x27.2 = (0 : Int)))) && (!x30))))] ?_
  refine bH h0 (fun h0 => ?_) (fun h0 => ?_)
  · refine bT aG 1 [(8, (aJ false))] ?_
    refine bG ?_
    obtain rfl := oI h0
    exact aI (aW (Q_r hO))
  refine bK ?_
  refine bD [(0, (eL aE l0)), (2, (eI d2)), (3, (eI t3))] ?_
  refine aP ?_
  refine aS aG 8 ?_
  refine bI 2 ?_
  obtain ⟨x34, hx35, h0⟩ := aV h0
  refine cD (ON l0 t3 _ hx35) hO ?_
  intro H hO
  refine bA ?_
  refine bO [] [(21, (eL aE x34.1)), (22, (eI x34.2))] ?_
  refine aP ?_
  refine aT aG 2 [22] [(110, (aJ (!decide (x34.2 = (0 : Int)))))] ?_
  refine bH h0 (fun h0 => ?_) (fun h0 => ?_)
  · refine aP ?_
    refine aS aG 2 ?_
    obtain ⟨x38, hx39, h0⟩ := aV h0
    refine cD (uJ  _ hx39) hO ?_
    intro H hO
    refine bA ?_
    refine bD [(8, (aJ x38))] ?_
    refine bG ?_
    obtain rfl := oI h0
    exact aI (aW (Q_r hO))
  refine bK ?_
  refine bD [(0, (eL aE l0)), (2, (eI d2)), (3, (eI t3)), (21, (eL aE x34.1))] ?_
  refine aP ?_
  refine aS aG 9 ?_
  refine bI 3 ?_
  obtain ⟨x41, hx42, h0⟩ := aV h0
  refine cD (qE l0 d2 t3 _ hx42) hO ?_
  intro H hO
  refine bA ?_
  refine bO [0] [(23, (eL aE x41.1))] ?_
  refine aP ?_
  refine aS aG 9 ?_
  refine bI 3 ?_
  obtain ⟨x44, hx45, h0⟩ := aV h0
  refine cD (qE x34.1 d2 t3 _ hx45) hO ?_
  intro H hO
  refine bA ?_
  refine bO [2, 3, 21] [(25, (eL aE x44.1))] ?_
  refine aP ?_
  refine aS aG 7 ?_
  obtain ⟨x47, hx48, h0⟩ := aV h0
  refine cD (uJ  _ hx48) hO ?_
  intro H hO
  refine bI 4 ?_
  obtain ⟨x50, hx51, h0⟩ := aV h0
  refine oT [(127, true)] 16 [(eL aE x41.1), (eL aE x44.1)] (aJ x50) x47 (by kernel_rfl) (by kernel_rfl) (by kernel_rfl) (fun hb52 => (xO x41.1 x44.1 _ (pX hx51 hb52))) hO ?_
  intro H hO
  refine bA ?_
  refine bD [(8, (aJ (x47 && x50)))] ?_
  refine bG ?_
  obtain rfl := oI h0
  exact aI (Q_r hO)

end Go.Abs
namespace Go.Abs
open Go Go.RowKit Go.Proofs
theorem BM {H : Type} {enc : TypeId × Value → H} {w : World} : uM enc Try.prog w 60 aM xK :=
  CM Try.underlying60 (by kernel_rfl) (qD (c' := EE) (ok' := xK) (fun (a : Int) (b : Int × ByteArray × Unit) => (aF.mk a b.1 b.2.1 : aF)) (by kernel_rfl) (yD Try.underlying58) (qD (c' := fun (b : Int × ByteArray × Unit) => (V.cells (tL .i64 b.1) ++ (V.cells (vH b.2.1) ++ []))) (ok' := fun b => (vE b.1 ∧ ((fun s => s.size ≤ maxLen) b.2.1 ∧ True))) (fun a b => (a, b)) (by kernel_rfl) (yD Try.underlying3) (qD (c' := fun (b : ByteArray × Unit) => (V.cells (vH b.1) ++ [])) (ok' := fun b => ((fun s => s.size ≤ maxLen) b.1 ∧ True)) (fun a b => (a, b)) (by kernel_rfl) (KW Try.underlying9) (GS ()) (fun _ _ => rfl) (fun _ _ h1 h2 => ⟨h1, h2⟩)) (fun _ _ => rfl) (fun _ _ h1 h2 => ⟨h1, h2⟩)) (fun _ _ => rfl) (fun _ _ h1 h2 => ⟨h1, h2⟩))

theorem wJ {H : Type} {enc : TypeId × Value → H} {w : World} : uM enc Try.prog w 36 aE oO :=
  CM Try.underlying36 (by kernel_rfl) (qD (c' := GV) (ok' := oO) (fun (a : (List aF)) (b : Int × Int × Unit) => (aC.mk a b.1 b.2.1 : aC)) (by kernel_rfl) (PJ Try.underlying34 (by decide +kernel) (fun _ => by kernel_rfl) (fun _ => rfl) BM (by kernel_rfl)) (qD (c' := fun (b : Int × Int × Unit) => (V.cells (tL .i64 b.1) ++ (V.cells (tL .i64 b.2.1) ++ []))) (ok' := fun b => (vE b.1 ∧ (vE b.2.1 ∧ True))) (fun a b => (a, b)) (by kernel_rfl) (yD Try.underlying3) (qD (c' := fun (b : Int × Unit) => (V.cells (tL .i64 b.1) ++ [])) (ok' := fun b => (vE b.1 ∧ True)) (fun a b => (a, b)) (by kernel_rfl) (yD Try.underlying3) (GS ()) (fun _ _ => rfl) (fun _ _ h1 h2 => ⟨h1, h2⟩)) (fun _ _ => rfl) (fun _ _ h1 h2 => ⟨h1, h2⟩)) (fun _ _ => rfl) (fun _ _ h1 h2 => ⟨h1, h2⟩))

end Go.Abs
namespace Go.Abs
open Go
theorem iN {n : Int} (h1 : -9223372036854775808 ≤ n) (h2 : n ≤ 9223372036854775807) : IntKind.i64.wrap n = n := by
  simp only [IntKind.wrap, IntKind.bits, IntKind.signed]
  simp
  split <;> omega

def mM {α st R : Type} (step : st → α → Option (st ⊕ R)) (fin : st → R) : st → List α → Option R
  | s, [] => some (fin s)
  | s, a :: r => match step s a with
    | some (.inl s') => mM step fin s' r
    | some (.inr x) => some x
    | none => none

theorem AH {α st R : Type} {step : st → α → Option (st ⊕ R)} {fin : st → R} {s s' : st} {a : α} {r : List α} (h : step s a = some (.inl s')) : mM step fin s (a :: r) = mM step fin s' r := by
  simp only [mM, h]

theorem AI {α st R : Type} {step : st → α → Option (st ⊕ R)} {fin : st → R} {s : st} {x : R} {a : α} {r : List α} (h : step s a = some (.inr x)) : mM step fin s (a :: r) = some x := by
  simp only [mM, h]

theorem QH {α S st R : Type} {body : S → Option (S ⊕ R)} {l : List α} (mk : st → Int → S) (step : st → α → Option (st ⊕ R)) (fin : st → R)
    (hn : ∀ (i : Nat) a s, l[i]? = some a → (∀ s', step s a = some (.inl s') → body (mk s i) = some (.inl (mk s' ((i + 1 : Nat) : Int)))) ∧ (∀ x, step s a = some (.inr x) → body (mk s i) = some (.inr x)))
    (he : ∀ s, body (mk s (l.length : Nat)) = some (.inr (fin s))) : ∀ (m k : Nat) (s : st) (r : R), l.length - k = m → k ≤ l.length → mM step fin s (l.drop k) = some r → lp body (mk s k) = some r
  | 0, k, s, r, hm, hk, h => by
    have : k = l.length := by omega
    subst this
    rw [List.drop_length] at h
    simp only [mM, Option.some.injEq] at h
    subst h
    exact cI (he s)
  | m + 1, k, s, r, hm, hk, h => by
    have hlt : k < l.length := by omega
    have hd : l.drop k = l[k] :: l.drop (k + 1) := List.drop_eq_getElem_cons hlt
    rw [hd] at h
    simp only [mM] at h
    obtain ⟨h1, h2⟩ := hn k l[k] s (List.getElem?_eq_getElem hlt)
    split at h
    · rename_i s' hs
      rw [eT (h1 s' hs)]
      exact QH mk step fin hn he m (k + 1) s' r (by omega) (by omega) h
    · rename_i x hs
      simp at h; subst h
      exact cI (h2 x hs)
    · cases h

theorem VC {α S st R : Type} {body : S → Option (S ⊕ R)} {l : List α} (mk : st → Int → S) (step : st → α → Option (st ⊕ R)) (fin : st → R)
    (hn : ∀ (i : Nat) a s, l[i]? = some a → (∀ s', step s a = some (.inl s') → body (mk s i) = some (.inl (mk s' ((i + 1 : Nat) : Int)))) ∧ (∀ x, step s a = some (.inr x) → body (mk s i) = some (.inr x)))
    (he : ∀ s, body (mk s (l.length : Nat)) = some (.inr (fin s))) {s : st} {r : R} (h : mM step fin s l = some r) : lp body (mk s 0) = some r :=
  QH mk step fin hn he _ 0 s r rfl (Nat.zero_le _) (by simpa using h)

theorem MA {α S st R : Type} {body : S → Option (S ⊕ R)} {l : List α} (mk : st → Int → S) (step : st → α → Option (st ⊕ R)) (fin : st → R) (Inv : Nat → st → Prop)
    (hn : ∀ (i : Nat) a s, Inv i s → l[i]? = some a → (∀ s', step s a = some (.inl s') → Inv (i + 1) s' ∧ body (mk s i) = some (.inl (mk s' ((i + 1 : Nat) : Int)))) ∧ (∀ x, step s a = some (.inr x) → body (mk s i) = some (.inr x)))
    (he : ∀ s, Inv l.length s → body (mk s (l.length : Nat)) = some (.inr (fin s))) : ∀ (m k : Nat) (s : st) (r : R), l.length - k = m → k ≤ l.length → Inv k s → mM step fin s (l.drop k) = some r → lp body (mk s k) = some r
  | 0, k, s, r, hm, hk, hi, h => by
    have : k = l.length := by omega
    subst this
    rw [List.drop_length] at h
    simp only [mM, Option.some.injEq] at h
    subst h
    exact cI (he s hi)
  | m + 1, k, s, r, hm, hk, hi, h => by
    have hlt : k < l.length := by omega
    have hd : l.drop k = l[k] :: l.drop (k + 1) := List.drop_eq_getElem_cons hlt
    rw [hd] at h
    simp only [mM] at h
    obtain ⟨h1, h2⟩ := hn k l[k] s hi (List.getElem?_eq_getElem hlt)
    split at h
    · rename_i s' hs
      obtain ⟨hi', hb⟩ := h1 s' hs
      rw [eT hb]
      exact MA mk step fin Inv hn he m (k + 1) s' r (by omega) (by omega) hi' h
    · rename_i x hs
      simp at h; subst h
      exact cI (h2 x hs)
    · cases h

theorem IW {α S st R : Type} {body : S → Option (S ⊕ R)} {l : List α} (mk : st → Int → S) (step : st → α → Option (st ⊕ R)) (fin : st → R) (Inv : Nat → st → Prop)
    (hn : ∀ (i : Nat) a s, Inv i s → l[i]? = some a → (∀ s', step s a = some (.inl s') → Inv (i + 1) s' ∧ body (mk s i) = some (.inl (mk s' ((i + 1 : Nat) : Int)))) ∧ (∀ x, step s a = some (.inr x) → body (mk s i) = some (.inr x)))
    (he : ∀ s, Inv l.length s → body (mk s (l.length : Nat)) = some (.inr (fin s))) {s : st} {r : R} (hi : Inv 0 s) (h : mM step fin s l = some r) : lp body (mk s 0) = some r :=
  MA mk step fin Inv hn he _ 0 s r rfl (Nat.zero_le _) hi (by simpa using h)

theorem idx {α : Type} [Inhabited α] {l : List α} {i : Nat} {a : α} (h : l[i]? = some a) (hl : l.length < 4611686018427387904) :
    decide ((i : Int) < ((l.length : Nat) : Int)) = true ∧ (0 ≤ (i : Int) ∧ (i : Int) < ((l.length : Nat) : Int)) ∧ l.getD (Int.toNat (i : Int)) default = a ∧ IntKind.i64.wrap ((i : Int) + 1) = ((i + 1 : Nat) : Int) := by
  have hlt : i < l.length := (List.getElem?_eq_some_iff.1 h).1
  refine ⟨by simpa using hlt, ⟨by omega, by omega⟩, ?_, ?_⟩
  · rw [Int.toNat_natCast, List.getD_eq_getElem?_getD, h]; rfl
  · rw [iN (by omega) (by omega)]; omega

theorem lZ {n : Nat} : decide (((n : Nat) : Int) < ((n : Nat) : Int)) = false := by simp

theorem aAb {α : Type} {j : α} {r : List α} : (0 : Int) ≤ 0 ∧ (0 : Int) < ((List.length (j :: r) : Nat) : Int) := ⟨by omega, by simp⟩

theorem ZM {α : Type} [Inhabited α] {j : α} {r : List α} : List.getD (j :: r) (Int.toNat (0 : Int)) default = j := rfl

end Go.Abs
namespace Go.Abs
open Go
theorem drop_cons {α : Type} {l r : List α} {a : α} {k : Nat} (h : l.drop k = a :: r) : l[k]? = some a ∧ l.drop (k + 1) = r := by
  have hk : k < l.length := by
    apply Classical.byContradiction; intro hn
    rw [List.drop_eq_nil_of_le (by omega)] at h; cases h
  rw [List.drop_eq_getElem_cons hk] at h
  obtain ⟨h1, h2⟩ := List.cons.inj h
  exact ⟨by rw [List.getElem?_eq_getElem hk, h1], h2⟩

theorem SI {α S st R : Type} {body : S → Option (S ⊕ R)} {l : List α} (mk : st → Int → S) (G : st → List α → R) (Inv : st → List α → Prop)
    (hn : ∀ (i : Nat) a r s, l[i]? = some a → Inv s (a :: r) → (∃ s', body (mk s i) = some (.inl (mk s' ((i + 1 : Nat) : Int))) ∧ Inv s' r ∧ G s' r = G s (a :: r)) ∨ body (mk s i) = some (.inr (G s (a :: r))))
    (he : ∀ s, Inv s [] → body (mk s (l.length : Nat)) = some (.inr (G s []))) : ∀ (r : List α) (k : Nat) (s : st), l.drop k = r → k ≤ l.length → Inv s r → lp body (mk s k) = some (G s r)
  | [], k, s, hd, hk, hi => by
    have : k = l.length := by
      have := congrArg List.length hd
      simp only [List.length_drop, List.length_nil] at this; omega
    subst this
    exact cI (he s hi)
  | a :: r, k, s, hd, hk, hi => by
    obtain ⟨h1, h2⟩ := drop_cons hd
    have hlt : k < l.length := (List.getElem?_eq_some_iff.1 h1).1
    rcases hn k a r s h1 hi with ⟨s', hb, hi', hg⟩ | hb
    · rw [eT hb, SI mk G Inv hn he r (k + 1) s' h2 (by omega) hi', hg]
    · exact cI hb

theorem HM {α S st R : Type} {body : S → Option (S ⊕ R)} {l : List α} (mk : st → Int → S) (G : st → List α → R) (Inv : st → List α → Prop) (s : st)
    (hn : ∀ (i : Nat) a r s, l[i]? = some a → Inv s (a :: r) → (∃ s', body (mk s i) = some (.inl (mk s' ((i + 1 : Nat) : Int))) ∧ Inv s' r ∧ G s' r = G s (a :: r)) ∨ body (mk s i) = some (.inr (G s (a :: r))))
    (he : ∀ s, Inv s [] → body (mk s (l.length : Nat)) = some (.inr (G s []))) (hi : Inv s l) : lp body (mk s 0) = some (G s l) :=
  SI mk G Inv hn he l 0 s rfl (Nat.zero_le _) hi

end Go.Abs
namespace Go.Abs
open Go
noncomputable def vZ {α : Type} [Inhabited α] (cmp3 : α → α → Option Int) (aA : List α) (a1 : Int) (b2 : Int) (i8 : Int) : Option ((List α × Int) ⊕ ((List α))) :=
  some (.inl (aA, IntKind.i64.wrap (i8 + (1 : Int))))

noncomputable def kO {α : Type} [Inhabited α] (cmp3 : α → α → Option Int) (a1 : Int) (b2 : Int) (i8 : Int) (aA : List α) (j9 : Int) : Option ((List α × Int) ⊕ ((List α))) :=
  bE ((((decide (a1 < j9))) = true → 0 ≤ j9 ∧ j9 < ((List.length aA : Nat) : Int))) <|
  bE ((((decide (a1 < j9))) = true → 0 ≤ (IntKind.i64.wrap (j9 - (1 : Int))) ∧ (IntKind.i64.wrap (j9 - (1 : Int))) < ((List.length aA : Nat) : Int))) <|
  (eX (decide (a1 < j9)) (cmp3 (List.getD aA (Int.toNat j9) default) (List.getD aA (Int.toNat (IntKind.i64.wrap (j9 - (1 : Int)))) default))).bind fun x3 =>
  cond ((decide (a1 < j9)) && (decide (x3 < (0 : Int))))
  (bE (0 ≤ (IntKind.i64.wrap (j9 - (1 : Int))) ∧ (IntKind.i64.wrap (j9 - (1 : Int))) < ((List.length aA : Nat) : Int)) <|
  bE (0 ≤ j9 ∧ j9 < ((List.length aA : Nat) : Int)) <|
  bE (0 ≤ j9 ∧ j9 < ((List.length aA : Nat) : Int)) <|
  bE (0 ≤ (IntKind.i64.wrap (j9 - (1 : Int))) ∧ (IntKind.i64.wrap (j9 - (1 : Int))) < ((List.length aA : Nat) : Int)) <|
  some (.inl (List.set (List.set aA (Int.toNat j9) (List.getD aA (Int.toNat (IntKind.i64.wrap (j9 - (1 : Int)))) default)) (Int.toNat (IntKind.i64.wrap (j9 - (1 : Int)))) (List.getD aA (Int.toNat j9) default), IntKind.i64.wrap (j9 - (1 : Int)))))
  (some (.inr aA))

noncomputable def wA {α : Type} [Inhabited α] (cmp3 : α → α → Option Int) (aA : List α) (a1 : Int) (b2 : Int) (i8 : Int) (j9 : Int) : Option ((List α × Int) ⊕ ((List α))) :=
  (lp (fun s => kO cmp3 a1 b2 i8 s.1 s.2) (aA, j9)).bind (fun rr => vZ cmp3 rr a1 b2 i8)

noncomputable def iH {α : Type} [Inhabited α] (cmp3 : α → α → Option Int) (a1 : Int) (b2 : Int) (aA : List α) (i8 : Int) : Option ((List α × Int) ⊕ ((List α))) :=
  cond (decide (i8 < b2))
  (wA cmp3 aA a1 b2 i8 i8)
  (some (.inr aA))

noncomputable def vY {α : Type} [Inhabited α] (cmp3 : α → α → Option Int) (aA : List α) (a1 : Int) (b2 : Int) (i8 : Int) : Option (List α) :=
  (lp (fun s => iH cmp3 a1 b2 s.1 s.2) (aA, i8)).bind (fun rr => some rr)

noncomputable def lY {α : Type} [Inhabited α] (aA : (List α)) (a1 : Int) (b2 : Int) (cmp3 : α → α → Option Int) : Option (List α) :=
  vY cmp3 aA a1 b2 (IntKind.i64.wrap (a1 + (1 : Int)))

noncomputable def nD {α : Type} [Inhabited α] (cmp4 : α → α → Option Int) (a1 : Int) (b2 : Int) (n3 : Int) (aA : List α) (i10 : Int) : Option ((List α × Int) ⊕ ((List α))) :=
  cond (decide (i10 < n3))
  (bE (0 ≤ (IntKind.i64.wrap (b2 + i10)) ∧ (IntKind.i64.wrap (b2 + i10)) < ((List.length aA : Nat) : Int)) <|
  bE (0 ≤ (IntKind.i64.wrap (a1 + i10)) ∧ (IntKind.i64.wrap (a1 + i10)) < ((List.length aA : Nat) : Int)) <|
  bE (0 ≤ (IntKind.i64.wrap (a1 + i10)) ∧ (IntKind.i64.wrap (a1 + i10)) < ((List.length aA : Nat) : Int)) <|
  bE (0 ≤ (IntKind.i64.wrap (b2 + i10)) ∧ (IntKind.i64.wrap (b2 + i10)) < ((List.length aA : Nat) : Int)) <|
  some (.inl (List.set (List.set aA (Int.toNat (IntKind.i64.wrap (a1 + i10))) (List.getD aA (Int.toNat (IntKind.i64.wrap (b2 + i10))) default)) (Int.toNat (IntKind.i64.wrap (b2 + i10))) (List.getD aA (Int.toNat (IntKind.i64.wrap (a1 + i10))) default), IntKind.i64.wrap (i10 + (1 : Int)))))
  (some (.inr aA))

noncomputable def zL {α : Type} [Inhabited α] (cmp4 : α → α → Option Int) (aA : List α) (a1 : Int) (b2 : Int) (n3 : Int) (i10 : Int) : Option (List α) :=
  (lp (fun s => nD cmp4 a1 b2 n3 s.1 s.2) (aA, i10)).bind (fun rr => some rr)

noncomputable def qT {α : Type} [Inhabited α] (aA : (List α)) (a1 : Int) (b2 : Int) (n3 : Int) (cmp4 : α → α → Option Int) : Option (List α) :=
  zL cmp4 aA a1 b2 n3 (0 : Int)

noncomputable def yN {α : Type} [Inhabited α] (cmp4 : α → α → Option Int) (aA : List α) (m2 : Int) (i10 : Int) : Option (List α) :=
  (qT aA (IntKind.i64.wrap (m2 - i10)) m2 i10 cmp4).bind fun x1 =>
  some x1

noncomputable def kX {α : Type} [Inhabited α] (cmp4 : α → α → Option Int) (m2 : Int) (aA : List α) (i10 : Int) (j11 : Int) : Option ((List α × Int × Int) ⊕ ((List α × Int))) :=
  cond (!decide (i10 = j11))
  (cond (decide (j11 < i10))
  ((qT aA (IntKind.i64.wrap (m2 - i10)) m2 j11 cmp4).bind fun x4 =>
  some (.inl (x4, IntKind.i64.wrap (i10 - j11), j11)))
  ((qT aA (IntKind.i64.wrap (m2 - i10)) (IntKind.i64.wrap ((IntKind.i64.wrap (m2 + j11)) - i10)) i10 cmp4).bind fun x7 =>
  some (.inl (x7, i10, IntKind.i64.wrap (j11 - i10)))))
  (some (.inr (aA, i10)))

noncomputable def DS {α : Type} [Inhabited α] (cmp4 : α → α → Option Int) (aA : List α) (m2 : Int) (i10 : Int) (j11 : Int) : Option (List α) :=
  (lp (fun s => kX cmp4 m2 s.1 s.2.1 s.2.2) (aA, i10, j11)).bind (fun rr => yN cmp4 rr.1 m2 rr.2)

noncomputable def xV {α : Type} [Inhabited α] (aA : (List α)) (a1 : Int) (m2 : Int) (b3 : Int) (cmp4 : α → α → Option Int) : Option (List α) :=
  DS cmp4 aA m2 (IntKind.i64.wrap (m2 - a1)) (IntKind.i64.wrap (b3 - m2))

noncomputable def wH {α : Type} [Inhabited α] (cmp4 : α → α → Option Int) (rec : (List α) → Int → Int → Int → Option (List α)) (aA : List α) (b3 : Int) (bJ : Int) (dD : Int) : Option (List α) :=
  cond ((decide (bJ < dD)) && (decide (dD < b3)))
  ((rec aA bJ dD b3).bind fun x2 =>
  some x2)
  (some aA)

noncomputable def nS {α : Type} [Inhabited α] (cmp4 : α → α → Option Int) (rec : (List α) → Int → Int → Int → Option (List α)) (aA : List α) (a1 : Int) (b3 : Int) (bJ : Int) (aO : Int) (dD : Int) : Option (List α) :=
  cond ((decide (a1 < aO)) && (decide (aO < bJ)))
  ((rec aA a1 aO bJ).bind fun x6 =>
  wH cmp4 rec x6 b3 bJ dD)
  (wH cmp4 rec aA b3 bJ dD)

noncomputable def BI {α : Type} [Inhabited α] (cmp4 : α → α → Option Int) (rec : (List α) → Int → Int → Int → Option (List α)) (aA : List α) (a1 : Int) (m2 : Int) (b3 : Int) (bJ : Int) (n19 : Int) (aO : Int) : Option (List α) :=
  cond ((decide (aO < m2)) && (decide (m2 < (IntKind.i64.wrap (n19 - aO)))))
  ((xV aA aO m2 (IntKind.i64.wrap (n19 - aO)) cmp4).bind fun x10 =>
  nS cmp4 rec x10 a1 b3 bJ aO (IntKind.i64.wrap (n19 - aO)))
  (nS cmp4 rec aA a1 b3 bJ aO (IntKind.i64.wrap (n19 - aO)))

noncomputable def mO {α : Type} [Inhabited α] (cmp4 : α → α → Option Int) (rec : (List α) → Int → Int → Int → Option (List α)) (a1 : Int) (m2 : Int) (b3 : Int) (bJ : Int) (n19 : Int) (p22 : Int) (aA : List α) (aO : Int) (r21 : Int) : Option ((List α × Int × Int) ⊕ ((List α × Int))) :=
  cond (decide (aO < r21))
  (bE (0 ≤ (1 : Int)) <|
  bE (0 ≤ (IntKind.i64.wrap (p22 - (IntKind.i64.wrap (Int.fdiv (IntKind.u64.wrap (IntKind.i64.wrap (aO + r21))) (2 ^ (min (Int.toNat (1 : Int)) 64)))))) ∧ (IntKind.i64.wrap (p22 - (IntKind.i64.wrap (Int.fdiv (IntKind.u64.wrap (IntKind.i64.wrap (aO + r21))) (2 ^ (min (Int.toNat (1 : Int)) 64)))))) < ((List.length aA : Nat) : Int)) <|
  bE (0 ≤ (IntKind.i64.wrap (Int.fdiv (IntKind.u64.wrap (IntKind.i64.wrap (aO + r21))) (2 ^ (min (Int.toNat (1 : Int)) 64)))) ∧ (IntKind.i64.wrap (Int.fdiv (IntKind.u64.wrap (IntKind.i64.wrap (aO + r21))) (2 ^ (min (Int.toNat (1 : Int)) 64)))) < ((List.length aA : Nat) : Int)) <|
  (cmp4 (List.getD aA (Int.toNat (IntKind.i64.wrap (p22 - (IntKind.i64.wrap (Int.fdiv (IntKind.u64.wrap (IntKind.i64.wrap (aO + r21))) (2 ^ (min (Int.toNat (1 : Int)) 64))))))) default) (List.getD aA (Int.toNat (IntKind.i64.wrap (Int.fdiv (IntKind.u64.wrap (IntKind.i64.wrap (aO + r21))) (2 ^ (min (Int.toNat (1 : Int)) 64))))) default)).bind fun x17 =>
  cond (!(decide (x17 < (0 : Int))))
  (some (.inl (aA, IntKind.i64.wrap ((IntKind.i64.wrap (Int.fdiv (IntKind.u64.wrap (IntKind.i64.wrap (aO + r21))) (2 ^ (min (Int.toNat (1 : Int)) 64)))) + (1 : Int)), r21)))
  (some (.inl (aA, aO, IntKind.i64.wrap (Int.fdiv (IntKind.u64.wrap (IntKind.i64.wrap (aO + r21))) (2 ^ (min (Int.toNat (1 : Int)) 64)))))))
  (some (.inr (aA, aO)))

noncomputable def BB {α : Type} [Inhabited α] (cmp4 : α → α → Option Int) (rec : (List α) → Int → Int → Int → Option (List α)) (aA : List α) (a1 : Int) (m2 : Int) (b3 : Int) (bJ : Int) (n19 : Int) (aO : Int) (r21 : Int) (p22 : Int) : Option (List α) :=
  (lp (fun s => mO cmp4 rec a1 m2 b3 bJ n19 p22 s.1 s.2.1 s.2.2) (aA, aO, r21)).bind (fun rr => BI cmp4 rec rr.1 a1 m2 b3 bJ n19 rr.2)

noncomputable def tE {α : Type} [Inhabited α] (cmp4 : α → α → Option Int) (rec : (List α) → Int → Int → Int → Option (List α)) (aA : List α) (a1 : Int) (m2 : Int) (b3 : Int) (bJ : Int) (n19 : Int) (aO : Int) (r21 : Int) : Option (List α) :=
  BB cmp4 rec aA a1 m2 b3 bJ n19 aO r21 (IntKind.i64.wrap (n19 - (1 : Int)))

noncomputable def sZ {α : Type} [Inhabited α] (cmp4 : α → α → Option Int) (rec : (List α) → Int → Int → Int → Option (List α)) (aA : List α) (a1 : Int) (m2 : Int) (b3 : Int) : Option (List α) :=
  bE (0 ≤ (1 : Int)) <|
  cond (decide ((IntKind.i64.wrap (Int.fdiv (IntKind.u64.wrap (IntKind.i64.wrap (a1 + b3))) (2 ^ (min (Int.toNat (1 : Int)) 64)))) < m2))
  (tE cmp4 rec aA a1 m2 b3 (IntKind.i64.wrap (Int.fdiv (IntKind.u64.wrap (IntKind.i64.wrap (a1 + b3))) (2 ^ (min (Int.toNat (1 : Int)) 64)))) (IntKind.i64.wrap ((IntKind.i64.wrap (Int.fdiv (IntKind.u64.wrap (IntKind.i64.wrap (a1 + b3))) (2 ^ (min (Int.toNat (1 : Int)) 64)))) + m2)) (IntKind.i64.wrap ((IntKind.i64.wrap ((IntKind.i64.wrap (Int.fdiv (IntKind.u64.wrap (IntKind.i64.wrap (a1 + b3))) (2 ^ (min (Int.toNat (1 : Int)) 64)))) + m2)) - b3)) (IntKind.i64.wrap (Int.fdiv (IntKind.u64.wrap (IntKind.i64.wrap (a1 + b3))) (2 ^ (min (Int.toNat (1 : Int)) 64)))))
  (tE cmp4 rec aA a1 m2 b3 (IntKind.i64.wrap (Int.fdiv (IntKind.u64.wrap (IntKind.i64.wrap (a1 + b3))) (2 ^ (min (Int.toNat (1 : Int)) 64)))) (IntKind.i64.wrap ((IntKind.i64.wrap (Int.fdiv (IntKind.u64.wrap (IntKind.i64.wrap (a1 + b3))) (2 ^ (min (Int.toNat (1 : Int)) 64)))) + m2)) a1 m2)

noncomputable def BH {α : Type} [Inhabited α] (cmp4 : α → α → Option Int) (rec : (List α) → Int → Int → Int → Option (List α)) (aA : List α) : Option (List α) :=
  some aA

noncomputable def lT {α : Type} [Inhabited α] (cmp4 : α → α → Option Int) (rec : (List α) → Int → Int → Int → Option (List α)) (i14 : Int) (aA : List α) (k17 : Int) : Option ((List α × Int) ⊕ ((List α))) :=
  cond (decide (i14 < k17))
  (bE (0 ≤ (IntKind.i64.wrap (k17 - (1 : Int))) ∧ (IntKind.i64.wrap (k17 - (1 : Int))) < ((List.length aA : Nat) : Int)) <|
  bE (0 ≤ k17 ∧ k17 < ((List.length aA : Nat) : Int)) <|
  bE (0 ≤ k17 ∧ k17 < ((List.length aA : Nat) : Int)) <|
  bE (0 ≤ (IntKind.i64.wrap (k17 - (1 : Int))) ∧ (IntKind.i64.wrap (k17 - (1 : Int))) < ((List.length aA : Nat) : Int)) <|
  some (.inl (List.set (List.set aA (Int.toNat k17) (List.getD aA (Int.toNat (IntKind.i64.wrap (k17 - (1 : Int)))) default)) (Int.toNat (IntKind.i64.wrap (k17 - (1 : Int)))) (List.getD aA (Int.toNat k17) default), IntKind.i64.wrap (k17 - (1 : Int)))))
  (some (.inr aA))

noncomputable def zE {α : Type} [Inhabited α] (cmp4 : α → α → Option Int) (rec : (List α) → Int → Int → Int → Option (List α)) (aA : List α) (i14 : Int) (k17 : Int) : Option (List α) :=
  (lp (fun s => lT cmp4 rec i14 s.1 s.2) (aA, k17)).bind (fun rr => BH cmp4 rec rr)

noncomputable def BD {α : Type} [Inhabited α] (cmp4 : α → α → Option Int) (rec : (List α) → Int → Int → Int → Option (List α)) (aA : List α) (m2 : Int) (i14 : Int) : Option (List α) :=
  zE cmp4 rec aA i14 m2

noncomputable def lW {α : Type} [Inhabited α] (cmp4 : α → α → Option Int) (rec : (List α) → Int → Int → Int → Option (List α)) (m2 : Int) (aA : List α) (i14 : Int) (j15 : Int) : Option ((List α × Int × Int) ⊕ ((List α × Int))) :=
  cond (decide (i14 < j15))
  (bE (0 ≤ (1 : Int)) <|
  bE (0 ≤ m2 ∧ m2 < ((List.length aA : Nat) : Int)) <|
  bE (0 ≤ (IntKind.i64.wrap (Int.fdiv (IntKind.u64.wrap (IntKind.i64.wrap (i14 + j15))) (2 ^ (min (Int.toNat (1 : Int)) 64)))) ∧ (IntKind.i64.wrap (Int.fdiv (IntKind.u64.wrap (IntKind.i64.wrap (i14 + j15))) (2 ^ (min (Int.toNat (1 : Int)) 64)))) < ((List.length aA : Nat) : Int)) <|
  (cmp4 (List.getD aA (Int.toNat m2) default) (List.getD aA (Int.toNat (IntKind.i64.wrap (Int.fdiv (IntKind.u64.wrap (IntKind.i64.wrap (i14 + j15))) (2 ^ (min (Int.toNat (1 : Int)) 64))))) default)).bind fun x31 =>
  cond (!(decide (x31 < (0 : Int))))
  (some (.inl (aA, IntKind.i64.wrap ((IntKind.i64.wrap (Int.fdiv (IntKind.u64.wrap (IntKind.i64.wrap (i14 + j15))) (2 ^ (min (Int.toNat (1 : Int)) 64)))) + (1 : Int)), j15)))
  (some (.inl (aA, i14, IntKind.i64.wrap (Int.fdiv (IntKind.u64.wrap (IntKind.i64.wrap (i14 + j15))) (2 ^ (min (Int.toNat (1 : Int)) 64)))))))
  (some (.inr (aA, i14)))

noncomputable def zJ {α : Type} [Inhabited α] (cmp4 : α → α → Option Int) (rec : (List α) → Int → Int → Int → Option (List α)) (aA : List α) (m2 : Int) (i14 : Int) (j15 : Int) : Option (List α) :=
  (lp (fun s => lW cmp4 rec m2 s.1 s.2.1 s.2.2) (aA, i14, j15)).bind (fun rr => BD cmp4 rec rr.1 m2 rr.2)

noncomputable def wI {α : Type} [Inhabited α] (cmp4 : α → α → Option Int) (rec : (List α) → Int → Int → Int → Option (List α)) (aA : List α) (a1 : Int) (m2 : Int) (b3 : Int) : Option (List α) :=
  cond (decide ((IntKind.i64.wrap (b3 - m2)) = (1 : Int)))
  (zJ cmp4 rec aA m2 a1 m2)
  (sZ cmp4 rec aA a1 m2 b3)

noncomputable def yX {α : Type} [Inhabited α] (cmp4 : α → α → Option Int) (rec : (List α) → Int → Int → Int → Option (List α)) (aA : List α) : Option (List α) :=
  some aA

noncomputable def mA {α : Type} [Inhabited α] (cmp4 : α → α → Option Int) (rec : (List α) → Int → Int → Int → Option (List α)) (i10 : Int) (aA : List α) (k13 : Int) : Option ((List α × Int) ⊕ ((List α))) :=
  cond (decide (k13 < (IntKind.i64.wrap (i10 - (1 : Int)))))
  (bE (0 ≤ (IntKind.i64.wrap (k13 + (1 : Int))) ∧ (IntKind.i64.wrap (k13 + (1 : Int))) < ((List.length aA : Nat) : Int)) <|
  bE (0 ≤ k13 ∧ k13 < ((List.length aA : Nat) : Int)) <|
  bE (0 ≤ k13 ∧ k13 < ((List.length aA : Nat) : Int)) <|
  bE (0 ≤ (IntKind.i64.wrap (k13 + (1 : Int))) ∧ (IntKind.i64.wrap (k13 + (1 : Int))) < ((List.length aA : Nat) : Int)) <|
  some (.inl (List.set (List.set aA (Int.toNat k13) (List.getD aA (Int.toNat (IntKind.i64.wrap (k13 + (1 : Int)))) default)) (Int.toNat (IntKind.i64.wrap (k13 + (1 : Int)))) (List.getD aA (Int.toNat k13) default), IntKind.i64.wrap (k13 + (1 : Int)))))
  (some (.inr aA))

noncomputable def yW {α : Type} [Inhabited α] (cmp4 : α → α → Option Int) (rec : (List α) → Int → Int → Int → Option (List α)) (aA : List α) (i10 : Int) (k13 : Int) : Option (List α) :=
  (lp (fun s => mA cmp4 rec i10 s.1 s.2) (aA, k13)).bind (fun rr => yX cmp4 rec rr)

noncomputable def yY {α : Type} [Inhabited α] (cmp4 : α → α → Option Int) (rec : (List α) → Int → Int → Int → Option (List α)) (aA : List α) (a1 : Int) (i10 : Int) : Option (List α) :=
  yW cmp4 rec aA i10 a1

noncomputable def lX {α : Type} [Inhabited α] (cmp4 : α → α → Option Int) (rec : (List α) → Int → Int → Int → Option (List α)) (a1 : Int) (aA : List α) (i10 : Int) (j11 : Int) : Option ((List α × Int × Int) ⊕ ((List α × Int))) :=
  cond (decide (i10 < j11))
  (bE (0 ≤ (1 : Int)) <|
  bE (0 ≤ (IntKind.i64.wrap (Int.fdiv (IntKind.u64.wrap (IntKind.i64.wrap (i10 + j11))) (2 ^ (min (Int.toNat (1 : Int)) 64)))) ∧ (IntKind.i64.wrap (Int.fdiv (IntKind.u64.wrap (IntKind.i64.wrap (i10 + j11))) (2 ^ (min (Int.toNat (1 : Int)) 64)))) < ((List.length aA : Nat) : Int)) <|
  bE (0 ≤ a1 ∧ a1 < ((List.length aA : Nat) : Int)) <|
  (cmp4 (List.getD aA (Int.toNat (IntKind.i64.wrap (Int.fdiv (IntKind.u64.wrap (IntKind.i64.wrap (i10 + j11))) (2 ^ (min (Int.toNat (1 : Int)) 64))))) default) (List.getD aA (Int.toNat a1) default)).bind fun x45 =>
  cond (decide (x45 < (0 : Int)))
  (some (.inl (aA, IntKind.i64.wrap ((IntKind.i64.wrap (Int.fdiv (IntKind.u64.wrap (IntKind.i64.wrap (i10 + j11))) (2 ^ (min (Int.toNat (1 : Int)) 64)))) + (1 : Int)), j11)))
  (some (.inl (aA, i10, IntKind.i64.wrap (Int.fdiv (IntKind.u64.wrap (IntKind.i64.wrap (i10 + j11))) (2 ^ (min (Int.toNat (1 : Int)) 64)))))))
  (some (.inr (aA, i10)))

noncomputable def zH {α : Type} [Inhabited α] (cmp4 : α → α → Option Int) (rec : (List α) → Int → Int → Int → Option (List α)) (aA : List α) (a1 : Int) (i10 : Int) (j11 : Int) : Option (List α) :=
  (lp (fun s => lX cmp4 rec a1 s.1 s.2.1 s.2.2) (aA, i10, j11)).bind (fun rr => yY cmp4 rec rr.1 a1 rr.2)

noncomputable def dG {α : Type} [Inhabited α] (cmp4 : α → α → Option Int) (rec : (List α) → Int → Int → Int → Option (List α)) (aA : (List α)) (a1 : Int) (m2 : Int) (b3 : Int) : Option (List α) :=
  cond (decide ((IntKind.i64.wrap (m2 - a1)) = (1 : Int)))
  (zH cmp4 rec aA a1 m2 b3)
  (wI cmp4 rec aA a1 m2 b3)

noncomputable def dI {α : Type} [Inhabited α] (cmp4 : α → α → Option Int) : Nat → (List α) → Int → Int → Int → Option (List α)
  | 0 => fun _ _ _ _ => none
  | k + 1 => dG cmp4 (dI cmp4 k)

noncomputable def mX {α : Type} [Inhabited α] (aA : (List α)) (a1 : Int) (m2 : Int) (b3 : Int) (cmp4 : α → α → Option Int) : Option (List α) := EN (fun k => dI cmp4 k aA a1 m2 b3)

noncomputable def vM {α : Type} [Inhabited α] (cmp2 : α → α → Option Int) (aA : List α) (n1 : Int) (aL : Int) : Option ((List α × Int) ⊕ ((List α))) :=
  some (.inl (aA, IntKind.i64.wrap (aL * (2 : Int))))

noncomputable def sU {α : Type} [Inhabited α] (cmp2 : α → α → Option Int) (aA : List α) (n1 : Int) (aL : Int) (a7 : Int) : Option ((List α × Int) ⊕ ((List α))) :=
  cond (decide ((IntKind.i64.wrap (a7 + aL)) < n1))
  ((mX aA a7 (IntKind.i64.wrap (a7 + aL)) n1 cmp2).bind fun x4 =>
  vM cmp2 x4 n1 aL)
  (vM cmp2 aA n1 aL)

noncomputable def kT {α : Type} [Inhabited α] (cmp2 : α → α → Option Int) (n1 : Int) (aL : Int) (aA : List α) (a7 : Int) (b8 : Int) : Option ((List α × Int × Int) ⊕ ((List α × Int))) :=
  cond (decide (b8 ≤ n1))
  ((mX aA a7 (IntKind.i64.wrap (a7 + aL)) b8 cmp2).bind fun x8 =>
  some (.inl (x8, b8, IntKind.i64.wrap (b8 + (IntKind.i64.wrap ((2 : Int) * aL))))))
  (some (.inr (aA, a7)))

noncomputable def sH {α : Type} [Inhabited α] (cmp2 : α → α → Option Int) (aA : List α) (n1 : Int) (aL : Int) (a7 : Int) (b8 : Int) : Option ((List α × Int) ⊕ ((List α))) :=
  (lp (fun s => kT cmp2 n1 aL s.1 s.2.1 s.2.2) (aA, a7, b8)).bind (fun rr => sU cmp2 rr.1 n1 aL rr.2)

noncomputable def iJ {α : Type} [Inhabited α] (cmp2 : α → α → Option Int) (n1 : Int) (aA : List α) (aL : Int) : Option ((List α × Int) ⊕ ((List α))) :=
  cond (decide (aL < n1))
  (sH cmp2 aA n1 aL (0 : Int) (IntKind.i64.wrap ((2 : Int) * aL)))
  (some (.inr aA))

noncomputable def vT {α : Type} [Inhabited α] (cmp2 : α → α → Option Int) (aA : List α) (n1 : Int) (aL : Int) : Option (List α) :=
  (lp (fun s => iJ cmp2 n1 s.1 s.2) (aA, aL)).bind (fun rr => some rr)

noncomputable def vI {α : Type} [Inhabited α] (cmp2 : α → α → Option Int) (aA : List α) (n1 : Int) (aL : Int) (a7 : Int) : Option (List α) :=
  (lY aA a7 n1 cmp2).bind fun x1 =>
  vT cmp2 x1 n1 aL

noncomputable def kW {α : Type} [Inhabited α] (cmp2 : α → α → Option Int) (n1 : Int) (aL : Int) (aA : List α) (a7 : Int) (b8 : Int) : Option ((List α × Int × Int) ⊕ ((List α × Int))) :=
  cond (decide (b8 ≤ n1))
  ((lY aA a7 b8 cmp2).bind fun x13 =>
  some (.inl (x13, b8, IntKind.i64.wrap (b8 + aL))))
  (some (.inr (aA, a7)))

noncomputable def vU {α : Type} [Inhabited α] (cmp2 : α → α → Option Int) (aA : List α) (n1 : Int) (aL : Int) (a7 : Int) (b8 : Int) : Option (List α) :=
  (lp (fun s => kW cmp2 n1 aL s.1 s.2.1 s.2.2) (aA, a7, b8)).bind (fun rr => vI cmp2 rr.1 n1 aL rr.2)

noncomputable def tS {α : Type} [Inhabited α] (aA : (List α)) (n1 : Int) (cmp2 : α → α → Option Int) : Option (List α) :=
  vU cmp2 aA n1 (20 : Int) (0 : Int) (20 : Int)

end Go.Abs
namespace Go.Abs
open Go
variable {α : Type} [Inhabited α]
structure Cmp {β : Type} (ok : β → Prop) (le : β → β → Prop) (cmp : β → β → Option Int) : Prop where
  ans : ∀ x y, ok x → ok y → ∃ v, cmp x y = some v ∧ (v < 0 ↔ ¬ le y x)
  trans : ∀ x y z, ok x → ok y → ok z → le x y → le y z → le x z
  total : ∀ x y, ok x → ok y → le x y ∨ le y x

abbrev Srt {β : Type} (le : β → β → Prop) (l : List β) : Prop := l.Pairwise le

abbrev Oks {β : Type} (ok : β → Prop) (l : List β) : Prop := ∀ x ∈ l, ok x

theorem WJ {Q R : List α} {x : α} : (Q ++ x :: R).getD Q.length default = x := by simp [List.getD_eq_getElem?_getD]

theorem XY {β : Type} {Q R : List β} {x y : β} : (Q ++ x :: R).set Q.length y = Q ++ y :: R := by simp

theorem nT {Q R d : List α} {x : α} {n : Nat} (hd : d = Q ++ x :: R) (hn : n = Q.length) : d.getD n default = x := by subst hd; subst hn; exact WJ

theorem zF {β : Type} {Q R d : List β} {x y : β} {n : Nat} (hd : d = Q ++ x :: R) (hn : n = Q.length) : d.set n y = Q ++ y :: R := by subst hd; subst hn; exact XY

theorem wr {n : Int} (h1 : -1099511627776 ≤ n) (h2 : n ≤ 8796093022208) : IntKind.i64.wrap n = n := iN (by omega) (by omega)

theorem LU {β : Type} {Q M R d : List β} {x y : β} {a b : Nat} (hd : d = Q ++ x :: (M ++ y :: R)) (ha : a = Q.length) (hb : b = Q.length + 1 + M.length) : (d.set a y).set b x = Q ++ y :: (M ++ x :: R) := by
  rw [zF hd ha, zF (Q := Q ++ y :: M) (x := y) (R := R) (by simp) (by simp; omega)]
  simp

section ins
variable {ok : α → Prop} {le : α → α → Prop} {cmp : α → α → Option Int}
theorem BG {A T : List α} {x : α} {a b i : Int} {P : List α} (ha : a = (P.length : Nat)) (hl : (P ++ A ++ x :: T).length ≤ 1099511627776)
    (hs : A = [] ∨ ∃ A' y v, A = A' ++ [y] ∧ cmp x y = some v ∧ ¬ v < 0) : kO cmp a b i (P ++ A ++ x :: T) ((P.length + A.length : Nat) : Int) = some (.inr (P ++ A ++ x :: T)) := by
  simp only [List.length_append, List.length_cons] at hl
  unfold kO
  rcases hs with rfl | ⟨A', y, v, rfl, hc, hv⟩
  · have h : decide (a < ((P.length + ([] : List α).length : Nat) : Int)) = false := by subst ha; simp
    rw [h, bC (fun h => by cases h), bC (fun h => by cases h)]
    simp [eX]
  · simp only [List.length_append, List.length_cons, List.length_nil] at hl ⊢
    have h : decide (a < ((P.length + (A'.length + (0 + 1)) : Nat) : Int)) = true := by subst ha; simp; omega
    have hw : IntKind.i64.wrap (((P.length + (A'.length + (0 + 1)) : Nat) : Int) - 1) = ((P.length + A'.length : Nat) : Int) := by rw [wr (by omega) (by omega)]; omega
    have g1 : (P ++ (A' ++ [y]) ++ x :: T).getD (P.length + (A'.length + (0 + 1))) default = x := nT (Q := P ++ (A' ++ [y])) rfl (by simp)
    have g2 : (P ++ (A' ++ [y]) ++ x :: T).getD (P.length + A'.length) default = y := nT (Q := P ++ A') (R := x :: T) (by simp) (by simp)
    rw [h, hw, bC (fun _ => ⟨by omega, by omega⟩), bC (fun _ => ⟨by omega, by omega⟩)]
    rw [Int.toNat_natCast, Int.toNat_natCast, g1, g2]
    simp [eX, hc, hv]

theorem PF {A T : List α} {x y : α} {v : Int} {a b i : Int} {P : List α} (ha : a = (P.length : Nat)) (hl : (P ++ (A ++ [y]) ++ x :: T).length ≤ 1099511627776)
    (hc : cmp x y = some v) (hv : v < 0) : kO cmp a b i (P ++ (A ++ [y]) ++ x :: T) ((P.length + (A ++ [y]).length : Nat) : Int) = some (.inl (P ++ A ++ x :: (y :: T), ((P.length + A.length : Nat) : Int))) := by
  simp only [List.length_append, List.length_cons, List.length_nil] at hl ⊢
  unfold kO
  have h : decide (a < ((P.length + (A.length + (0 + 1)) : Nat) : Int)) = true := by subst ha; simp; omega
  have hw : IntKind.i64.wrap (((P.length + (A.length + (0 + 1)) : Nat) : Int) - 1) = ((P.length + A.length : Nat) : Int) := by rw [wr (by omega) (by omega)]; omega
  have g1 : (P ++ (A ++ [y]) ++ x :: T).getD (P.length + (A.length + (0 + 1))) default = x := nT (Q := P ++ (A ++ [y])) rfl (by simp)
  have g2 : (P ++ (A ++ [y]) ++ x :: T).getD (P.length + A.length) default = y := nT (Q := P ++ A) (R := x :: T) (by simp) (by simp)
  have hs : ((P ++ (A ++ [y]) ++ x :: T).set (P.length + (A.length + (0 + 1))) y).set (P.length + A.length) x = P ++ A ++ x :: (y :: T) := by
    rw [zF (Q := P ++ (A ++ [y])) (x := x) (R := T) rfl (by simp), zF (Q := P ++ A) (x := y) (R := y :: T) (by simp) (by simp)]
  have b1 : 0 ≤ ((P.length + (A.length + (0 + 1)) : Nat) : Int) ∧ ((P.length + (A.length + (0 + 1)) : Nat) : Int) < ((List.length (P ++ (A ++ [y]) ++ x :: T) : Nat) : Int) := ⟨by omega, by simp only [List.length_append, List.length_cons, List.length_nil]; omega⟩
  have b2 : 0 ≤ ((P.length + A.length : Nat) : Int) ∧ ((P.length + A.length : Nat) : Int) < ((List.length (P ++ (A ++ [y]) ++ x :: T) : Nat) : Int) := ⟨by omega, by simp only [List.length_append, List.length_cons, List.length_nil]; omega⟩
  rw [h, hw, bC (fun _ => b1), bC (fun _ => b2), Int.toNat_natCast, Int.toNat_natCast, g1, g2]
  simp only [eX, cond_true, hc, Option.bind_some, Bool.true_and, decide_eq_true hv]
  rw [bC b2, bC b1, bC b1, bC b2, hs]

theorem SX (C : Cmp ok le cmp) {x : α} (hx : ok x) {a b i : Int} {P : List α} (ha : a = (P.length : Nat)) : ∀ (n : Nat) (A B T : List α), A.length = n → Oks ok A → Oks ok B → Srt le (A ++ B) → (∀ y ∈ B, ¬ le y x) → (P ++ A ++ x :: (B ++ T)).length ≤ 1099511627776 →
    ∃ D, D.Perm (A ++ x :: B) ∧ Srt le D ∧ lp (fun s : List α × Int => kO cmp a b i s.1 s.2) (P ++ A ++ x :: (B ++ T), ((P.length + A.length : Nat) : Int)) = some (P ++ D ++ T) := by
  intro n
  induction n with
  | zero =>
    intro A B T hn _ hB hs hlt hl
    have hA : A = [] := List.length_eq_zero_iff.1 hn
    subst hA
    refine ⟨x :: B, List.Perm.refl _, ?_, ?_⟩
    · refine List.pairwise_cons.2 ⟨fun y hy => ?_, by simpa using hs⟩
      rcases C.total x y hx (hB y hy) with h | h
      · exact h
      · exact absurd h (hlt y hy)
    · rw [cI (BG ha hl (Or.inl rfl))]; simp
  | succ n ih =>
    intro A B T hn hA hB hs hlt hl
    obtain ⟨A', y, rfl⟩ : ∃ A' y, A = A' ++ [y] := by
      rcases List.eq_nil_or_concat A with h | ⟨A', y, h⟩
      · rw [h] at hn; simp at hn
      · exact ⟨A', y, by simpa using h⟩
    have hy : ok y := hA y (by simp)
    obtain ⟨v, hc, hv⟩ := C.ans x y hx hy
    by_cases hneg : v < 0
    · have hb := PF (i := i) (b := b) ha hl hc hneg
      have hl' : (P ++ A' ++ x :: ((y :: B) ++ T)).length ≤ 1099511627776 := by
        simp only [List.length_append, List.length_cons, List.length_nil] at hl ⊢; omega
      obtain ⟨D, d1, d2, d3⟩ := ih A' (y :: B) T (by simpa using hn) (fun z hz => hA z (by simp [hz])) (fun z hz => by rcases List.mem_cons.1 hz with rfl | hz; exact hy; exact hB z hz) (by simpa using hs)
        (fun z hz => by rcases List.mem_cons.1 hz with rfl | hz; exact hv.1 hneg; exact hlt z hz) hl'
      refine ⟨D, d1.trans ?_, d2, ?_⟩
      · simp only [List.append_assoc, List.singleton_append]
        exact List.Perm.append_left _ (List.Perm.swap ..)
      · rw [eT hb]; simpa using d3
    · refine ⟨A' ++ [y] ++ x :: B, List.Perm.refl _, ?_, ?_⟩
      · have hyx : le y x := Classical.byContradiction fun h => hneg (hv.2 h)
        simp only [Srt, List.pairwise_append] at hs ⊢
        obtain ⟨s1, s2, s3⟩ := hs
        refine ⟨s1, List.pairwise_cons.2 ⟨fun z hz => ?_, s2⟩, ?_⟩
        · rcases C.total x z hx (hB z hz) with h | h
          · exact h
          · exact absurd h (hlt z hz)
        · intro z hz w hw
          rcases List.mem_cons.1 hw with rfl | hw
          · rcases List.mem_append.1 hz with hz' | hz'
            · exact C.trans z y w (hA z hz) hy hx (s1.2.2 z hz' y (by simp)) hyx
            · rw [List.mem_singleton] at hz'; subst hz'; exact hyx
          · exact s3 z hz w hw
      · rw [cI (BG ha hl (Or.inr ⟨A', y, v, rfl, hc, hneg⟩))]
        simp

theorem IT (C : Cmp ok le cmp) {a b : Int} {P : List α} (ha : a = (P.length : Nat)) : ∀ (B A T : List α), Oks ok A → Oks ok B → Srt le A → b = ((P.length + A.length + B.length : Nat) : Int) → (P ++ A ++ (B ++ T)).length ≤ 1099511627776 →
    ∃ D, D.Perm (A ++ B) ∧ Srt le D ∧ lp (fun s : List α × Int => iH cmp a b s.1 s.2) (P ++ A ++ (B ++ T), ((P.length + A.length : Nat) : Int)) = some (P ++ D ++ T)
  | [], A, T, _, _, hs, hb, _ => by
    refine ⟨A, by simp, hs, cI ?_⟩
    have : decide (((P.length + A.length : Nat) : Int) < b) = false := by subst hb; simp
    simp only [iH, this, cond_false, List.nil_append]
  | x :: B, A, T, hA, hB, hs, hb, hl => by
    obtain ⟨D, d1, d2, d3⟩ := SX C (hB x (by simp)) (b := b) (i := ((P.length + A.length : Nat) : Int)) ha A.length A [] (B ++ T) rfl hA (by intro z hz; simp at hz) (by simpa using hs) (by simp) (by simpa using hl)
    have hD : D.length = A.length + 1 := by rw [d1.length_eq]; simp
    have hlt : decide (((P.length + A.length : Nat) : Int) < b) = true := by subst hb; simp; omega
    have hbod : (fun s : List α × Int => iH cmp a b s.1 s.2) (P ++ A ++ (x :: B ++ T), ((P.length + A.length : Nat) : Int)) = some (.inl (P ++ D ++ (B ++ T), ((P.length + D.length : Nat) : Int))) := by
      show iH cmp a b _ _ = _
      simp only [iH, hlt, cond_true, wA]
      rw [show P ++ A ++ (x :: B ++ T) = P ++ A ++ x :: ([] ++ (B ++ T)) by simp, d3]
      simp only [Option.bind_some, vZ]
      rw [wr (by omega) (by simp only [List.length_append, List.length_cons] at hl; omega), hD]
      congr 1
    have hl' : (P ++ D ++ (B ++ T)).length ≤ 1099511627776 := by simp only [List.length_append, List.length_cons] at hl ⊢; omega
    obtain ⟨E, e1, e2, e3⟩ := IT C (b := b) ha B D T (fun z hz => by
      have := d1.mem_iff.1 hz
      rcases List.mem_append.1 this with h | h
      · exact hA z h
      · rw [List.mem_singleton] at h; subst h; exact hB z (by simp)) (fun z hz => hB z (by simp [hz])) d2 (by rw [hb]; simp only [List.length_cons]; congr 1; omega) hl'
    refine ⟨E, e1.trans ?_, e2, by rw [eT hbod]; exact e3⟩
    have := d1.append_right B
    simpa using this

theorem TL (C : Cmp ok le cmp) {P A T : List α} {a b : Int} (ha : a = (P.length : Nat)) (hb : b = ((P.length + A.length : Nat) : Int)) (hA : Oks ok A) (hl : (P ++ A ++ T).length ≤ 1099511627776) :
    ∃ D, D.Perm A ∧ Srt le D ∧ lY (P ++ A ++ T) a b cmp = some (P ++ D ++ T) := by
  unfold lY vY
  simp only [List.length_append] at hl
  cases A with
  | nil =>
    refine ⟨[], List.Perm.refl _, List.Pairwise.nil, ?_⟩
    rw [cI (r := P ++ [] ++ T)]
    · rfl
    · have : decide (IntKind.i64.wrap (a + 1) < b) = false := by
        rw [wr (by omega) (by omega)]; subst ha; subst hb; simp; omega
      simp only [iH, this, cond_false]
  | cons x A =>
    simp only [List.length_cons] at hl
    have hw : IntKind.i64.wrap (a + 1) = ((P.length + [x].length : Nat) : Int) := by rw [wr (by omega) (by omega)]; subst ha; simp
    obtain ⟨D, d1, d2, d3⟩ := IT C (b := b) ha A [x] T (fun z hz => by rw [List.mem_singleton] at hz; subst hz; exact hA z (by simp)) (fun z hz => hA z (by simp [hz])) (by simp) (by rw [hb]; simp only [List.length_cons, List.length_nil]; congr 1; omega) (by simp only [List.length_append, List.length_cons, List.length_nil]; omega)
    refine ⟨D, by simpa using d1, d2, ?_⟩
    rw [hw, show P ++ x :: A ++ T = P ++ [x] ++ (A ++ T) by simp, d3]
    rfl

end ins
theorem CO {cmp : α → α → Option Int} {a b n : Int} : ∀ (X Y Q Z R : List α) (i : Nat), X.length = Y.length → a + i = (Q.length : Nat) → b + i = ((Q.length + X.length + Z.length : Nat) : Int) → n = ((i + X.length : Nat) : Int) → 0 ≤ a → 0 ≤ b → (Q ++ X ++ Z ++ Y ++ R).length ≤ 1099511627776 →
    lp (fun s : List α × Int => nD cmp a b n s.1 s.2) (Q ++ X ++ Z ++ Y ++ R, ((i : Nat) : Int)) = some (Q ++ Y ++ Z ++ X ++ R)
  | [], Y, Q, Z, R, i, hxy, ha, hb, hn, _, _, hl => by
    have : Y = [] := List.length_eq_zero_iff.1 hxy.symm
    subst this
    refine cI ?_
    have : decide (((i : Nat) : Int) < n) = false := by subst hn; simp
    simp only [nD, this, cond_false]
  | x :: X, [], Q, Z, R, i, hxy, _, _, _, _, _, _ => by simp at hxy
  | x :: X, y :: Y, Q, Z, R, i, hxy, ha, hb, hn, ha0, hb0, hl => by
    simp only [List.length_append, List.length_cons] at hl hb hn hxy
    have hlt : decide (((i : Nat) : Int) < n) = true := by subst hn; simp; omega
    have wa : IntKind.i64.wrap (a + i) = ((Q.length : Nat) : Int) := by rw [wr (by omega) (by omega)]; exact ha
    have wb : IntKind.i64.wrap (b + i) = ((Q.length + 1 + (X ++ Z).length : Nat) : Int) := by rw [wr (by omega) (by omega), hb]; simp only [List.length_append]; congr 1; omega
    have wi : IntKind.i64.wrap (((i : Nat) : Int) + 1) = ((i + 1 : Nat) : Int) := by rw [wr (by omega) (by omega)]; omega
    have hd : Q ++ x :: X ++ Z ++ y :: Y ++ R = Q ++ x :: ((X ++ Z) ++ y :: (Y ++ R)) := by simp
    have b1 : 0 ≤ ((Q.length : Nat) : Int) ∧ ((Q.length : Nat) : Int) < ((List.length (Q ++ x :: X ++ Z ++ y :: Y ++ R) : Nat) : Int) := ⟨by omega, by simp only [List.length_append, List.length_cons]; omega⟩
    have b2 : 0 ≤ ((Q.length + 1 + (X ++ Z).length : Nat) : Int) ∧ ((Q.length + 1 + (X ++ Z).length : Nat) : Int) < ((List.length (Q ++ x :: X ++ Z ++ y :: Y ++ R) : Nat) : Int) := ⟨by omega, by simp only [List.length_append, List.length_cons]; omega⟩
    have g1 : (Q ++ x :: X ++ Z ++ y :: Y ++ R).getD Q.length default = x := nT hd rfl
    have g2 : (Q ++ x :: X ++ Z ++ y :: Y ++ R).getD (Q.length + 1 + (X ++ Z).length) default = y := nT (Q := Q ++ x :: X ++ Z) (R := Y ++ R) (by simp) (by simp; omega)
    have hbod : (fun s : List α × Int => nD cmp a b n s.1 s.2) (Q ++ x :: X ++ Z ++ y :: Y ++ R, ((i : Nat) : Int)) = some (.inl ((Q ++ [y]) ++ X ++ (Z ++ [x]) ++ Y ++ R, ((i + 1 : Nat) : Int))) := by
      show nD cmp a b n _ _ = _
      simp only [nD, hlt, cond_true, wa, wb, wi, bC b1, bC b2, Int.toNat_natCast, g1, g2]
      rw [LU hd rfl rfl]
      simp
    rw [eT hbod, CO X Y (Q ++ [y]) (Z ++ [x]) R (i + 1) (by omega) (by simp; omega) (by simp; omega) (by rw [hn]; congr 1; omega) ha0 hb0 (by simp only [List.length_append, List.length_cons, List.length_nil]; omega)]
    simp

theorem HP {cmp : α → α → Option Int} {a b n : Int} {X Y Q Z R d : List α} (hd : d = Q ++ X ++ Z ++ Y ++ R) (hxy : X.length = Y.length) (ha : a = (Q.length : Nat)) (hb : b = ((Q.length + X.length + Z.length : Nat) : Int)) (hn : n = (X.length : Nat)) (hl : d.length ≤ 1099511627776) :
    qT d a b n cmp = some (Q ++ Y ++ Z ++ X ++ R) := by
  subst hd
  unfold qT zL
  have := CO (cmp := cmp) (a := a) (b := b) (n := n) X Y Q Z R 0 hxy (by omega) (by omega) (by omega) (by omega) (by omega) hl
  simp only [Int.natCast_zero] at this
  rw [this]; rfl

theorem SZ {cmp : α → α → Option Int} {m : Int} : ∀ (n : Nat) (X Y Q R : List α), X.length + Y.length ≤ n → X ≠ [] → Y ≠ [] → m = ((Q.length + X.length : Nat) : Int) → (Q ++ X ++ Y ++ R).length ≤ 1099511627776 →
    (lp (fun s : List α × Int × Int => kX cmp m s.1 s.2.1 s.2.2) (Q ++ X ++ Y ++ R, ((X.length : Nat) : Int), ((Y.length : Nat) : Int))).bind (fun rr => yN cmp rr.1 m rr.2) = some (Q ++ Y ++ X ++ R) := by
  intro n
  induction n with
  | zero => intro X Y Q R hn hX; exact absurd (List.length_eq_zero_iff.1 (by omega)) hX
  | succ n ih =>
    intro X Y Q R hn hX hY hm hl
    have hX' : 0 < X.length := List.length_pos_iff.2 hX
    have hY' : 0 < Y.length := List.length_pos_iff.2 hY
    simp only [List.length_append] at hl
    rcases Nat.lt_trichotomy X.length Y.length with h | h | h
    · -- the second is longer
      obtain ⟨Y1, Y2, rfl, hY2⟩ : ∃ Y1 Y2, Y = Y1 ++ Y2 ∧ Y2.length = X.length := ⟨Y.take (Y.length - X.length), Y.drop (Y.length - X.length), (List.take_append_drop _ _).symm, by rw [List.length_drop]; omega⟩
      simp only [List.length_append] at hn hl h
      have hne : decide (((X.length : Nat) : Int) = (((Y1 ++ Y2).length : Nat) : Int)) = false := by simp only [List.length_append]; simp; omega
      have hlt : decide ((((Y1 ++ Y2).length : Nat) : Int) < ((X.length : Nat) : Int)) = false := by simp only [List.length_append]; simp; omega
      have e1 : IntKind.i64.wrap (m - ((X.length : Nat) : Int)) = ((Q.length : Nat) : Int) := by rw [wr (by omega) (by omega)]; omega
      have e0 : IntKind.i64.wrap (m + (((Y1 ++ Y2).length : Nat) : Int)) = m + (((Y1 ++ Y2).length : Nat) : Int) := by simp only [List.length_append]; exact wr (by omega) (by omega)
      have e2 : IntKind.i64.wrap (m + (((Y1 ++ Y2).length : Nat) : Int) - ((X.length : Nat) : Int)) = ((Q.length + X.length + Y1.length : Nat) : Int) := by simp only [List.length_append]; rw [wr (by omega) (by omega)]; omega
      have e3 : IntKind.i64.wrap ((((Y1 ++ Y2).length : Nat) : Int) - ((X.length : Nat) : Int)) = ((Y1.length : Nat) : Int) := by simp only [List.length_append]; rw [wr (by omega) (by omega)]; omega
      have hbod : (fun s : List α × Int × Int => kX cmp m s.1 s.2.1 s.2.2) (Q ++ X ++ (Y1 ++ Y2) ++ R, ((X.length : Nat) : Int), (((Y1 ++ Y2).length : Nat) : Int)) = some (.inl (Q ++ Y2 ++ Y1 ++ (X ++ R), ((Y2.length : Nat) : Int), ((Y1.length : Nat) : Int))) := by
        show kX cmp m _ _ _ = _
        simp only [kX, hne, Bool.not_false, cond_true, hlt, cond_false, e0, e1, e2, e3]
        rw [HP (X := X) (Y := Y2) (Q := Q) (Z := Y1) (R := R) (by simp) hY2.symm rfl rfl rfl (by simp only [List.length_append]; omega)]
        simp [hY2]
      rw [eT hbod, ih Y2 Y1 Q (X ++ R) (by omega) (fun h => by rw [h] at hY2; simp at hY2; omega) (fun h' => by rw [h'] at h; simp at h; omega) (by rw [hm]; congr 1; omega) (by simp only [List.length_append]; omega)]
      simp
    · -- alike
      have hne : decide (((X.length : Nat) : Int) = ((Y.length : Nat) : Int)) = true := by simp; omega
      rw [cI (r := (Q ++ X ++ Y ++ R, ((X.length : Nat) : Int))) (by show kX cmp m _ _ _ = _; simp only [kX, hne, Bool.not_true, cond_false])]
      simp only [Option.bind_some, yN]
      have e1 : IntKind.i64.wrap (m - ((X.length : Nat) : Int)) = ((Q.length : Nat) : Int) := by rw [wr (by omega) (by omega)]; omega
      rw [e1, HP (X := X) (Y := Y) (Q := Q) (Z := []) (R := R) (by simp) h rfl (by rw [hm]; simp) rfl (by simp only [List.length_append]; omega)]
      simp
    · -- the first is longer
      obtain ⟨X1, X2, rfl, hX1⟩ : ∃ X1 X2, X = X1 ++ X2 ∧ X1.length = Y.length := ⟨X.take Y.length, X.drop Y.length, (List.take_append_drop _ _).symm, by rw [List.length_take]; omega⟩
      simp only [List.length_append] at hn hl h hm
      have hne : decide ((((X1 ++ X2).length : Nat) : Int) = ((Y.length : Nat) : Int)) = false := by simp only [List.length_append]; simp; omega
      have hlt : decide (((Y.length : Nat) : Int) < (((X1 ++ X2).length : Nat) : Int)) = true := by simp only [List.length_append]; simp; omega
      have e1 : IntKind.i64.wrap (m - (((X1 ++ X2).length : Nat) : Int)) = ((Q.length : Nat) : Int) := by simp only [List.length_append]; rw [wr (by omega) (by omega)]; omega
      have e3 : IntKind.i64.wrap ((((X1 ++ X2).length : Nat) : Int) - ((Y.length : Nat) : Int)) = ((X2.length : Nat) : Int) := by simp only [List.length_append]; rw [wr (by omega) (by omega)]; omega
      have hbod : (fun s : List α × Int × Int => kX cmp m s.1 s.2.1 s.2.2) (Q ++ (X1 ++ X2) ++ Y ++ R, (((X1 ++ X2).length : Nat) : Int), ((Y.length : Nat) : Int)) = some (.inl ((Q ++ Y) ++ X2 ++ X1 ++ R, ((X2.length : Nat) : Int), ((X1.length : Nat) : Int))) := by
        show kX cmp m _ _ _ = _
        simp only [kX, hne, Bool.not_false, cond_true, hlt, e1, e3]
        rw [HP (X := X1) (Y := Y) (Q := Q) (Z := X2) (R := R) (by simp) hX1 rfl (by rw [hm]; congr 1; omega) (by rw [hX1]) (by simp only [List.length_append]; omega)]
        simp [hX1]
      rw [eT hbod, ih X2 X1 (Q ++ Y) R (by omega) (fun h' => by rw [h'] at h; simp at h; omega) (fun h => by rw [h] at hX1; simp at hX1; omega) (by rw [hm]; simp only [List.length_append]; congr 1; omega) (by simp only [List.length_append]; omega)]
      simp

theorem ZJ {cmp : α → α → Option Int} {a m b : Int} {X Y Q R d : List α} (hd : d = Q ++ X ++ Y ++ R) (hX : X ≠ []) (hY : Y ≠ []) (ha : a = (Q.length : Nat)) (hm : m = ((Q.length + X.length : Nat) : Int)) (hb : b = ((Q.length + X.length + Y.length : Nat) : Int)) (hl : d.length ≤ 1099511627776) :
    xV d a m b cmp = some (Q ++ Y ++ X ++ R) := by
  subst hd
  unfold xV DS
  have hl' := hl
  simp only [List.length_append] at hl'
  rw [show IntKind.i64.wrap (m - a) = ((X.length : Nat) : Int) by rw [wr (by omega) (by omega)]; omega, show IntKind.i64.wrap (b - m) = ((Y.length : Nat) : Int) by rw [wr (by omega) (by omega)]; omega]
  exact SZ _ X Y Q R (Nat.le_refl _) hX hY hm hl

end Go.Abs
namespace Go.Abs
open Go
variable {α : Type} [Inhabited α]
theorem half {s : Nat} (h : s ≤ 4398046511104) : IntKind.i64.wrap (Int.fdiv (IntKind.u64.wrap (IntKind.i64.wrap (s : Int))) (2 ^ (min (Int.toNat (1 : Int)) 64))) = ((s / 2 : Nat) : Int) := by
  rw [wr (n := (s : Int)) (by omega) (by omega)]
  have hu : IntKind.u64.wrap (s : Int) = (s : Int) := by
    simp only [IntKind.wrap, IntKind.bits, IntKind.signed]
    simp
    omega
  have hp : (2 : Int) ^ (min (Int.toNat (1 : Int)) 64) = 2 := by decide
  rw [hu, hp, Int.fdiv_eq_ediv_of_nonneg _ (by omega), wr (by omega) (by omega)]
  omega

theorem AU {P B S d : List α} {n k : Nat} (hd : d = P ++ B ++ S) (hn : n = P.length + k) (hk : k < B.length) : d.getD n default = B.getD k default := by
  subst hd; subst hn
  simp only [List.getD_eq_getElem?_getD]
  rw [List.append_assoc, List.getElem?_append_right (by omega), List.getElem?_append_left (by omega)]
  congr 2; omega

theorem AP {l : List α} {t : Nat} {y : α} (h : y ∈ l.take t) : ∃ i, i < t ∧ i < l.length ∧ y = l.getD i default := by
  obtain ⟨i, hi, rfl⟩ := List.mem_iff_getElem.1 h
  rw [List.length_take] at hi
  refine ⟨i, by omega, by omega, ?_⟩
  rw [List.getElem_take, List.getD_eq_getElem?_getD, List.getElem?_eq_getElem (by omega)]; rfl

theorem rN {l : List α} {t : Nat} {y : α} (h : y ∈ l.drop t) : ∃ i, t ≤ i ∧ i < l.length ∧ y = l.getD i default := by
  obtain ⟨i, hi, rfl⟩ := List.mem_iff_getElem.1 h
  rw [List.length_drop] at hi
  refine ⟨t + i, by omega, by omega, ?_⟩
  rw [List.getElem_drop, List.getD_eq_getElem?_getD, List.getElem?_eq_getElem (by omega)]; rfl

theorem cN {l : List α} {i : Nat} (h : i < l.length) : l.getD i default ∈ l := by
  rw [List.getD_eq_getElem?_getD, List.getElem?_eq_getElem h]; exact List.getElem_mem h

section sym
variable {ok : α → Prop} {le : α → α → Prop} {cmp : α → α → Option Int}
theorem Cmp.refl {β : Type} {ok : β → Prop} {le : β → β → Prop} {cmp : β → β → Option Int} (C : Cmp ok le cmp) {x : β} (h : ok x) : le x x := by rcases C.total x x h h with h | h <;> exact h

theorem pS (C : Cmp ok le cmp) {l : List α} (ho : Oks ok l) (hs : Srt le l) {i j : Nat} (hij : i ≤ j) (hj : j < l.length) : le (l.getD i default) (l.getD j default) := by
  rcases Nat.lt_or_eq_of_le hij with h | h
  · have := List.pairwise_iff_getElem.1 hs i j (by omega) hj h
    simpa [List.getD_eq_getElem?_getD, List.getElem?_eq_getElem hj, List.getElem?_eq_getElem (show i < l.length by omega)] using this
  · subst h; exact C.refl (ho _ (cN hj))

theorem OA {β : Type} {le : β → β → Prop} {l : List β} (h : Srt le l) (t : Nat) : Srt le (l.take t) := List.Pairwise.sublist (List.take_sublist t l) h

theorem NS {β : Type} {le : β → β → Prop} {l : List β} (h : Srt le l) (t : Nat) : Srt le (l.drop t) := List.Pairwise.sublist (List.drop_sublist t l) h

theorem LJ {β : Type} {body : (List β × Int × Int) → Option ((List β × Int × Int) ⊕ (List β × Int))} {d : List β} {f : Nat → Prop} {lo hi : Nat}
    (hb : ∀ i j : Nat, lo ≤ i → i < j → j ≤ hi → ∃ t : Bool, (t = true ↔ f ((i + j) / 2)) ∧ body (d, (i : Int), (j : Int)) = some (.inl (if t then (d, (((i + j) / 2 + 1 : Nat) : Int), (j : Int)) else (d, (i : Int), (((i + j) / 2 : Nat) : Int)))))
    (he : ∀ i : Nat, body (d, (i : Int), (i : Int)) = some (.inr (d, (i : Int)))) :
    ∀ (n i j : Nat), j - i ≤ n → lo ≤ i → i ≤ j → j ≤ hi → (i = lo ∨ f (i - 1)) → (j = hi ∨ ¬ f j) → ∃ s, lo ≤ s ∧ s ≤ hi ∧ (s = lo ∨ f (s - 1)) ∧ (s = hi ∨ ¬ f s) ∧ lp body (d, (i : Int), (j : Int)) = some (d, ((s : Nat) : Int)) := by
  intro n
  induction n with
  | zero =>
    intro i j hn h1 h2 h3 h4 h5
    have : i = j := by omega
    subst this
    exact ⟨i, h1, h3, h4, h5, cI (he i)⟩
  | succ n ih =>
    intro i j hn h1 h2 h3 h4 h5
    by_cases hij : i = j
    · subst hij; exact ⟨i, h1, h3, h4, h5, cI (he i)⟩
    · obtain ⟨t, ht, hbt⟩ := hb i j h1 (by omega) h3
      cases t
      · obtain ⟨s, r1, r2, r3, r4, r5⟩ := ih i ((i + j) / 2) (by omega) h1 (by omega) (by omega) h4 (Or.inr (fun h => by have := ht.2 h; cases this))
        refine ⟨s, r1, r2, r3, r4, ?_⟩
        rw [eT hbt]; exact r5
      · obtain ⟨s, r1, r2, r3, r4, r5⟩ := ih ((i + j) / 2 + 1) j (by omega) (by omega) (by omega) h3 (Or.inr (by simpa using ht.1 rfl)) h5
        refine ⟨s, r1, r2, r3, r4, ?_⟩
        rw [eT hbt]; exact r5

def GF (le : α → α → Prop) (P A B S r : List α) : Prop := ∃ D, D.Perm (A ++ B) ∧ Srt le D ∧ r = P ++ D ++ S

theorem WS {cmp : α → α → Option Int} {rec : List α → Int → Int → Int → Option (List α)} {e : Int} {x : α} : ∀ (B Q R : List α) (k : Nat), k = Q.length → e = ((Q.length + B.length + 1 : Nat) : Int) → (Q ++ x :: B ++ R).length ≤ 1099511627776 →
    lp (fun s : List α × Int => mA cmp rec e s.1 s.2) (Q ++ x :: B ++ R, (k : Int)) = some (Q ++ B ++ x :: R)
  | [], Q, R, k, hk, he, hl => by
    simp only [List.length_append, List.length_cons, List.length_nil] at hl he
    refine cI ?_
    show mA cmp rec e _ _ = _
    have : decide ((k : Int) < IntKind.i64.wrap (e - 1)) = false := by rw [wr (by omega) (by omega)]; simp; omega
    simp only [mA, this, cond_false]
    simp
  | y :: B, Q, R, k, hk, he, hl => by
    simp only [List.length_append, List.length_cons] at hl he
    have h1 : decide ((k : Int) < IntKind.i64.wrap (e - 1)) = true := by rw [wr (by omega) (by omega)]; simp; omega
    have hw : IntKind.i64.wrap ((k : Int) + 1) = ((k + 1 : Nat) : Int) := by rw [wr (by omega) (by omega)]; omega
    have b1 : 0 ≤ (k : Int) ∧ (k : Int) < ((List.length (Q ++ x :: y :: B ++ R) : Nat) : Int) := ⟨by omega, by simp only [List.length_append, List.length_cons]; omega⟩
    have b2 : 0 ≤ ((k + 1 : Nat) : Int) ∧ ((k + 1 : Nat) : Int) < ((List.length (Q ++ x :: y :: B ++ R) : Nat) : Int) := ⟨by omega, by simp only [List.length_append, List.length_cons]; omega⟩
    have hd : Q ++ x :: y :: B ++ R = Q ++ x :: ([] ++ y :: (B ++ R)) := by simp
    have g1 : (Q ++ x :: y :: B ++ R).getD k default = x := nT hd hk
    have g2 : (Q ++ x :: y :: B ++ R).getD (k + 1) default = y := nT (Q := Q ++ [x]) (R := B ++ R) (by simp) (by simp; omega)
    have hb : (fun s : List α × Int => mA cmp rec e s.1 s.2) (Q ++ x :: y :: B ++ R, (k : Int)) = some (.inl ((Q ++ [y]) ++ x :: B ++ R, ((k + 1 : Nat) : Int))) := by
      show mA cmp rec e _ _ = _
      simp only [mA, h1, cond_true, hw, bC b1, bC b2, Int.toNat_natCast, g1, g2]
      rw [LU (M := []) hd hk (by simp; omega)]
      simp
    rw [eT hb, WS B (Q ++ [y]) R (k + 1) (by simp; omega) (by rw [he]; simp only [List.length_append, List.length_cons, List.length_nil]; congr 1; omega) (by simp only [List.length_append, List.length_cons, List.length_nil]; omega)]
    simp

theorem XK {cmp : α → α → Option Int} {rec : List α → Int → Int → Int → Option (List α)} {e : Int} {x : α} {Q : List α} (he : e = (Q.length : Nat)) : ∀ (n : Nat) (A R : List α) (k : Nat), A.length = n → k = Q.length + A.length → (Q ++ A ++ x :: R).length ≤ 1099511627776 →
    lp (fun s : List α × Int => lT cmp rec e s.1 s.2) (Q ++ A ++ x :: R, (k : Int)) = some (Q ++ x :: A ++ R) := by
  intro n
  induction n with
  | zero =>
    intro A R k hn hk hl
    have hA : A = [] := List.length_eq_zero_iff.1 hn
    subst hA
    refine cI ?_
    show lT cmp rec e _ _ = _
    have : decide (e < (k : Int)) = false := by simp only [List.length_nil] at hk; simp; omega
    simp only [lT, this, cond_false]
    simp
  | succ n ih =>
    intro A R k hn hk hl
    obtain ⟨A', y, rfl⟩ : ∃ A' y, A = A' ++ [y] := by
      rcases List.eq_nil_or_concat A with h | ⟨A', y, h⟩
      · rw [h] at hn; simp at hn
      · exact ⟨A', y, by simpa using h⟩
    simp only [List.length_append, List.length_cons, List.length_nil] at hl hk hn
    have h1 : decide (e < (k : Int)) = true := by simp; omega
    have hw : IntKind.i64.wrap ((k : Int) - 1) = ((Q.length + A'.length : Nat) : Int) := by rw [wr (by omega) (by omega)]; omega
    have b1 : 0 ≤ (k : Int) ∧ (k : Int) < ((List.length (Q ++ (A' ++ [y]) ++ x :: R) : Nat) : Int) := ⟨by omega, by simp only [List.length_append, List.length_cons, List.length_nil]; omega⟩
    have b2 : 0 ≤ ((Q.length + A'.length : Nat) : Int) ∧ ((Q.length + A'.length : Nat) : Int) < ((List.length (Q ++ (A' ++ [y]) ++ x :: R) : Nat) : Int) := ⟨by omega, by simp only [List.length_append, List.length_cons, List.length_nil]; omega⟩
    have g1 : (Q ++ (A' ++ [y]) ++ x :: R).getD k default = x := nT (Q := Q ++ (A' ++ [y])) rfl (by simp; omega)
    have g2 : (Q ++ (A' ++ [y]) ++ x :: R).getD (Q.length + A'.length) default = y := nT (Q := Q ++ A') (R := x :: R) (by simp) (by simp)
    have hb : (fun s : List α × Int => lT cmp rec e s.1 s.2) (Q ++ (A' ++ [y]) ++ x :: R, (k : Int)) = some (.inl (Q ++ A' ++ x :: (y :: R), ((Q.length + A'.length : Nat) : Int))) := by
      show lT cmp rec e _ _ = _
      simp only [lT, h1, cond_true, hw, bC b1, bC b2, Int.toNat_natCast, g1, g2]
      rw [zF (Q := Q ++ (A' ++ [y])) (x := x) (R := R) rfl (by simp; omega), zF (Q := Q ++ A') (x := y) (R := y :: R) (by simp) (by simp)]
    rw [eT hb, ih A' (y :: R) (Q.length + A'.length) (by omega) rfl (by simp only [List.length_append, List.length_cons]; omega)]
    simp

def QO (cmp : α → α → Option Int) (le : α → α → Prop) (P A B S : List α) (d : List α) (a m b : Int) : Prop :=
  (∃ r, GF le P A B S r ∧ ∀ rec, dG cmp rec d a m b = some r) ∨
  (∃ A1 A2 B1 B2, A = A1 ++ A2 ∧ B = B1 ++ B2 ∧ 0 < A1.length + B1.length ∧ 0 < A2.length + B2.length ∧ (∀ x ∈ A1 ++ B1, ∀ y ∈ A2 ++ B2, le x y) ∧
    ∀ rec, dG cmp rec d a m b = (cond (decide (A1 ≠ [] ∧ B1 ≠ [])) (rec (P ++ A1 ++ B1 ++ A2 ++ B2 ++ S) a (a + (A1.length : Nat)) (a + ((A1.length + B1.length : Nat) : Int))) (some (P ++ A1 ++ B1 ++ A2 ++ B2 ++ S))).bind fun x =>
      cond (decide (A2 ≠ [] ∧ B2 ≠ [])) (rec x (a + ((A1.length + B1.length : Nat) : Int)) (a + ((A1.length + B1.length + A2.length : Nat) : Int)) b) (some x))

theorem TI (C : Cmp ok le cmp) {P B S : List α} {x : α} {a m b : Int} (hx : ok x) (hB : Oks ok B) (hs : Srt le B) (ha : a = (P.length : Nat)) (hm : m = ((P.length + 1 : Nat) : Int)) (hb : b = ((P.length + 1 + B.length : Nat) : Int)) (hl : (P ++ x :: B ++ S).length ≤ 1099511627776) :
    ∃ r, GF le P [x] B S r ∧ ∀ rec, dG cmp rec (P ++ x :: B ++ S) a m b = some r := by
  have hl' := hl
  simp only [List.length_append, List.length_cons] at hl'
  have hgx : (P ++ x :: B ++ S).getD P.length default = x := nT (Q := P) (R := B ++ S) (by simp) rfl
  have hgb : ∀ k, k < B.length → (P ++ x :: B ++ S).getD (P.length + 1 + k) default = B.getD k default := fun k hk => AU (P := P ++ [x]) (B := B) (S := S) (by simp) (by simp) hk
  have hbin : ∀ rec, ∃ s : Nat, P.length + 1 ≤ s ∧ s ≤ P.length + 1 + B.length ∧ (s = P.length + 1 ∨ ¬ le x (B.getD (s - 1 - (P.length + 1)) default)) ∧ (s = P.length + 1 + B.length ∨ ¬ ¬ le x (B.getD (s - (P.length + 1)) default)) ∧
      lp (fun s : List α × Int × Int => lX cmp rec a s.1 s.2.1 s.2.2) (P ++ x :: B ++ S, m, b) = some (P ++ x :: B ++ S, ((s : Nat) : Int)) := by
    intro rec
    rw [hm, hb]
    refine LJ (lo := P.length + 1) (hi := P.length + 1 + B.length) (f := fun k => ¬ le x (B.getD (k - (P.length + 1)) default)) ?_ ?_ _ _ _ (Nat.le_refl _) (Nat.le_refl _) (by omega) (Nat.le_refl _) (Or.inl rfl) (Or.inl rfl)
    · intro i j h1 h2 h3
      have hh : (i + j) / 2 - (P.length + 1) < B.length := by omega
      have e1 : (P ++ x :: B ++ S).getD ((i + j) / 2) default = B.getD ((i + j) / 2 - (P.length + 1)) default := by
        have := hgb ((i + j) / 2 - (P.length + 1)) hh
        rwa [show P.length + 1 + ((i + j) / 2 - (P.length + 1)) = (i + j) / 2 by omega] at this
      obtain ⟨v, hc, hv⟩ := C.ans _ x (hB _ (cN hh)) hx
      refine ⟨decide (v < 0), by simpa using hv, ?_⟩
      show lX cmp rec a _ _ _ = _
      have hlt : decide ((i : Int) < (j : Int)) = true := by simpa using h2
      have hadd : ((i : Int) + (j : Int)) = ((i + j : Nat) : Int) := by omega
      have w1 : IntKind.i64.wrap ((((i + j) / 2 : Nat) : Int) + 1) = (((i + j) / 2 + 1 : Nat) : Int) := by rw [wr (by omega) (by omega)]; omega
      simp only [lX, hlt, cond_true, hadd, half (s := i + j) (by omega), Int.toNat_natCast, ha, e1, hgx, hc, Option.bind_some, w1]
      rw [bC (by omega), bC ⟨by omega, by simp only [List.length_append, List.length_cons]; omega⟩, bC ⟨by omega, by simp only [List.length_append, List.length_cons]; omega⟩]
      by_cases hneg : v < 0 <;> simp [hneg]
    · intro i
      show lX cmp rec a _ _ _ = _
      have hlt : decide ((i : Int) < (i : Int)) = false := by simp
      simp only [lX, hlt, cond_false]
  obtain ⟨s, s1, s2, s3, s4, s5⟩ := hbin (fun _ _ _ _ => none)
  obtain ⟨t, rfl⟩ : ∃ t, s = P.length + 1 + t := ⟨s - (P.length + 1), by omega⟩
  have ht : t ≤ B.length := by omega
  have hx1 : ∀ i, i < t → le (B.getD i default) x := fun i hi => by
    have h3 : ¬ le x (B.getD (t - 1) default) := by
      rcases s3 with h | h
      · omega
      · rwa [show P.length + 1 + t - 1 - (P.length + 1) = t - 1 by omega] at h
    have h4 : le (B.getD (t - 1) default) x := by
      rcases C.total x _ hx (hB _ (cN (show t - 1 < B.length by omega))) with h | h
      · exact absurd h h3
      · exact h
    exact C.trans _ _ _ (hB _ (cN (by omega))) (hB _ (cN (by omega))) hx (pS C hB hs (show i ≤ t - 1 by omega) (by omega)) h4
  have hx2 : ∀ j, t ≤ j → j < B.length → le x (B.getD j default) := fun j hj hj' => by
    have h3 : le x (B.getD t default) := by
      rcases s4 with h | h
      · omega
      · rw [show P.length + 1 + t - (P.length + 1) = t by omega] at h
        exact Classical.not_not.1 h
    exact C.trans _ _ _ hx (hB _ (cN (by omega))) (hB _ (cN hj')) h3 (pS C hB hs hj hj')
  have hBs : B.take t ++ B.drop t = B := List.take_append_drop t B
  have hlt : (B.take t).length = t := by rw [List.length_take]; omega
  refine ⟨P ++ (B.take t ++ x :: B.drop t) ++ S, ⟨_, ?_, ?_, rfl⟩, fun rec => ?_⟩
  · have := List.perm_middle (a := x) (l₁ := B.take t) (l₂ := B.drop t)
    rw [hBs] at this; exact this
  · simp only [Srt, List.pairwise_append, List.pairwise_cons]
    refine ⟨OA hs t, ⟨fun z hz => ?_, NS hs t⟩, fun y hy z hz => ?_⟩
    · obtain ⟨j, j1, j2, rfl⟩ := rN hz
      exact hx2 j j1 j2
    · obtain ⟨i, i1, i2, rfl⟩ := AP hy
      rcases List.mem_cons.1 hz with rfl | hz
      · exact hx1 i i1
      · obtain ⟨j, j1, j2, rfl⟩ := rN hz
        exact pS C hB hs (by omega) j2
  · have h1 : decide (IntKind.i64.wrap (m - a) = 1) = true := by rw [wr (by omega) (by omega)]; simp; omega
    have s5' : lp (fun s : List α × Int × Int => lX cmp rec a s.1 s.2.1 s.2.2) (P ++ x :: B ++ S, m, b) = some (P ++ x :: B ++ S, ((P.length + 1 + t : Nat) : Int)) := s5
    simp only [dG, h1, cond_true, zH, s5', Option.bind_some, yY, yW]
    have hmv := WS (cmp := cmp) (rec := rec) (e := ((P.length + 1 + t : Nat) : Int)) (x := x) (B.take t) P (B.drop t ++ S) P.length rfl (by rw [hlt]; congr 1; omega) (by simp only [List.length_append, List.length_cons, List.length_drop]; omega)
    have hd : P ++ x :: B.take t ++ (B.drop t ++ S) = P ++ x :: B ++ S := by
      have : P ++ x :: B.take t ++ (B.drop t ++ S) = P ++ x :: (B.take t ++ B.drop t) ++ S := by simp only [List.append_assoc, List.cons_append]
      rw [this, hBs]
    rw [hd] at hmv
    rw [ha, hmv]
    simp [yX]

theorem WB (C : Cmp ok le cmp) {P A S : List α} {x : α} {a m b : Int} (hx : ok x) (hA : Oks ok A) (hs : Srt le A) (hA1 : A.length ≠ 1) (ha : a = (P.length : Nat)) (hm : m = ((P.length + A.length : Nat) : Int)) (hb : b = ((P.length + A.length + 1 : Nat) : Int)) (hl : (P ++ A ++ x :: S).length ≤ 1099511627776) :
    ∃ r, GF le P A [x] S r ∧ ∀ rec, dG cmp rec (P ++ A ++ x :: S) a m b = some r := by
  have hl' := hl
  simp only [List.length_append, List.length_cons] at hl'
  have hgx : (P ++ A ++ x :: S).getD (P.length + A.length) default = x := nT (Q := P ++ A) (R := S) rfl (by simp)
  have hga : ∀ k, k < A.length → (P ++ A ++ x :: S).getD (P.length + k) default = A.getD k default := fun k hk => AU (P := P) (B := A) (S := x :: S) rfl rfl hk
  have hbin : ∀ rec, ∃ s : Nat, P.length ≤ s ∧ s ≤ P.length + A.length ∧ (s = P.length ∨ le (A.getD (s - 1 - P.length) default) x) ∧ (s = P.length + A.length ∨ ¬ le (A.getD (s - P.length) default) x) ∧
      lp (fun s : List α × Int × Int => lW cmp rec m s.1 s.2.1 s.2.2) (P ++ A ++ x :: S, a, m) = some (P ++ A ++ x :: S, ((s : Nat) : Int)) := by
    intro rec
    rw [ha, hm]
    refine LJ (lo := P.length) (hi := P.length + A.length) (f := fun k => le (A.getD (k - P.length) default) x) ?_ ?_ _ _ _ (Nat.le_refl _) (Nat.le_refl _) (by omega) (Nat.le_refl _) (Or.inl rfl) (Or.inl rfl)
    · intro i j h1 h2 h3
      have hh : (i + j) / 2 - P.length < A.length := by omega
      have e1 : (P ++ A ++ x :: S).getD ((i + j) / 2) default = A.getD ((i + j) / 2 - P.length) default := by
        have := hga ((i + j) / 2 - P.length) hh
        rwa [show P.length + ((i + j) / 2 - P.length) = (i + j) / 2 by omega] at this
      obtain ⟨v, hc, hv⟩ := C.ans x _ hx (hA _ (cN hh))
      refine ⟨!decide (v < 0), by simp only [Bool.not_eq_true', decide_eq_false_iff_not, hv, Classical.not_not], ?_⟩
      show lW cmp rec _ _ _ _ = _
      have hlt : decide ((i : Int) < (j : Int)) = true := by simpa using h2
      have hadd : ((i : Int) + (j : Int)) = ((i + j : Nat) : Int) := by omega
      have w1 : IntKind.i64.wrap ((((i + j) / 2 : Nat) : Int) + 1) = (((i + j) / 2 + 1 : Nat) : Int) := by rw [wr (by omega) (by omega)]; omega
      simp only [lW, hlt, cond_true, hadd, half (s := i + j) (by omega), Int.toNat_natCast, e1, hgx, hc, Option.bind_some, w1]
      rw [bC (by omega), bC ⟨by omega, by simp only [List.length_append, List.length_cons]; omega⟩, bC ⟨by omega, by simp only [List.length_append, List.length_cons]; omega⟩]
      by_cases hneg : v < 0 <;> simp [hneg]
    · intro i
      show lW cmp rec _ _ _ _ = _
      have hlt : decide ((i : Int) < (i : Int)) = false := by simp
      simp only [lW, hlt, cond_false]
  obtain ⟨s, s1, s2, s3, s4, s5⟩ := hbin (fun _ _ _ _ => none)
  obtain ⟨t, rfl⟩ : ∃ t, s = P.length + t := ⟨s - P.length, by omega⟩
  have ht : t ≤ A.length := by omega
  have hx1 : ∀ i, i < t → le (A.getD i default) x := fun i hi => by
    have h4 : le (A.getD (t - 1) default) x := by
      rcases s3 with h | h
      · omega
      · rwa [show P.length + t - 1 - P.length = t - 1 by omega] at h
    exact C.trans _ _ _ (hA _ (cN (by omega))) (hA _ (cN (by omega))) hx (pS C hA hs (show i ≤ t - 1 by omega) (by omega)) h4
  have hx2 : ∀ j, t ≤ j → j < A.length → le x (A.getD j default) := fun j hj hj' => by
    have h3 : le x (A.getD t default) := by
      rcases s4 with h | h
      · omega
      · rw [show P.length + t - P.length = t by omega] at h
        rcases C.total x _ hx (hA _ (cN (show t < A.length by omega))) with h' | h'
        · exact h'
        · exact absurd h' h
    exact C.trans _ _ _ hx (hA _ (cN (by omega))) (hA _ (cN hj')) h3 (pS C hA hs hj hj')
  have hAs : A.take t ++ A.drop t = A := List.take_append_drop t A
  have hlt : (A.take t).length = t := by rw [List.length_take]; omega
  refine ⟨P ++ (A.take t ++ x :: A.drop t) ++ S, ⟨_, ?_, ?_, rfl⟩, fun rec => ?_⟩
  · have := List.perm_middle (a := x) (l₁ := A.take t) (l₂ := A.drop t)
    rw [hAs] at this
    exact this.trans (by simpa using (List.perm_append_comm (l₁ := [x]) (l₂ := A)))
  · simp only [Srt, List.pairwise_append, List.pairwise_cons]
    refine ⟨OA hs t, ⟨fun z hz => ?_, NS hs t⟩, fun y hy z hz => ?_⟩
    · obtain ⟨j, j1, j2, rfl⟩ := rN hz
      exact hx2 j j1 j2
    · obtain ⟨i, i1, i2, rfl⟩ := AP hy
      rcases List.mem_cons.1 hz with rfl | hz
      · exact hx1 i i1
      · obtain ⟨j, j1, j2, rfl⟩ := rN hz
        exact pS C hA hs (by omega) j2
  · have h1 : decide (IntKind.i64.wrap (m - a) = 1) = false := by rw [wr (by omega) (by omega)]; simp; omega
    have h2 : decide (IntKind.i64.wrap (b - m) = 1) = true := by rw [wr (by omega) (by omega)]; simp; omega
    have s5' : lp (fun s : List α × Int × Int => lW cmp rec m s.1 s.2.1 s.2.2) (P ++ A ++ x :: S, a, m) = some (P ++ A ++ x :: S, ((P.length + t : Nat) : Int)) := s5
    simp only [dG, h1, cond_false, wI, h2, cond_true, zJ, s5', Option.bind_some, BD, zE]
    have hmv := XK (cmp := cmp) (rec := rec) (e := ((P.length + t : Nat) : Int)) (x := x) (Q := P ++ A.take t) (by simp [hlt]) (A.drop t).length (A.drop t) S (P.length + A.length) rfl (by simp only [List.length_append, List.length_drop, hlt]; omega) (by simp only [List.length_append, List.length_cons, List.length_drop, hlt]; omega)
    have hd : P ++ A.take t ++ A.drop t ++ x :: S = P ++ A ++ x :: S := by
      have : P ++ A.take t ++ A.drop t ++ x :: S = P ++ (A.take t ++ A.drop t) ++ x :: S := by simp only [List.append_assoc]
      rw [this, hAs]
    rw [hd] at hmv
    rw [hm, hmv]
    simp [BH]

theorem XU (C : Cmp ok le cmp) {P A B S : List α} {a m b : Int} (hA : Oks ok A) (hB : Oks ok B) (hsA : Srt le A) (hsB : Srt le B) (hA2 : 2 ≤ A.length) (hB2 : 2 ≤ B.length)
    (ha : a = (P.length : Nat)) (hm : m = ((P.length + A.length : Nat) : Int)) (hb : b = ((P.length + A.length + B.length : Nat) : Int)) (hl : (P ++ A ++ B ++ S).length ≤ 1099511627776) :
    QO cmp le P A B S (P ++ A ++ B ++ S) a m b := by
  right
  have hl' := hl
  simp only [List.length_append] at hl'
  -- the middle
  obtain ⟨mid, hmid⟩ : ∃ mid : Nat, mid = (P.length + (P.length + A.length + B.length)) / 2 := ⟨_, rfl⟩
  have hga : ∀ k, P.length ≤ k → k < P.length + A.length → (P ++ A ++ B ++ S).getD k default = A.getD (k - P.length) default := fun k h1 h2 => AU (P := P) (B := A) (S := B ++ S) (by simp) (by omega) (by omega)
  have hgb : ∀ k, P.length + A.length ≤ k → k < P.length + A.length + B.length → (P ++ A ++ B ++ S).getD k default = B.getD (k - (P.length + A.length)) default := fun k h1 h2 => AU (P := P ++ A) (B := B) (S := S) (by simp) (by simp; omega) (by omega)
  -- the search
  obtain ⟨lo, hi, hlo, hhi, hbnd, hlohi, hrange, hinit⟩ : ∃ lo hi : Nat, (lo = P.length ∨ lo + (P.length + A.length + B.length) = mid + (P.length + A.length)) ∧ (hi = P.length + A.length ∨ hi = mid) ∧ (P.length ≤ lo ∧ mid + (P.length + A.length) ≤ lo + (P.length + A.length + B.length) ∧ hi ≤ P.length + A.length ∧ hi ≤ mid) ∧ lo ≤ hi ∧
      (∀ c, lo ≤ c → c < hi → P.length ≤ c ∧ c < P.length + A.length ∧ P.length + A.length ≤ mid + (P.length + A.length) - 1 - c ∧ mid + (P.length + A.length) - 1 - c < P.length + A.length + B.length) ∧
      (∀ rec, sZ cmp rec (P ++ A ++ B ++ S) a m b = tE cmp rec (P ++ A ++ B ++ S) a m b (mid : Int) ((mid + (P.length + A.length) : Nat) : Int) (lo : Int) (hi : Int)) := by
    have hw0 : IntKind.i64.wrap (Int.fdiv (IntKind.u64.wrap (IntKind.i64.wrap (a + b))) (2 ^ (min (Int.toNat (1 : Int)) 64))) = ((mid : Nat) : Int) := by
      rw [show a + b = ((P.length + (P.length + A.length + B.length) : Nat) : Int) by omega, half (by omega), hmid]
    have hw1 : IntKind.i64.wrap ((mid : Int) + m) = ((mid + (P.length + A.length) : Nat) : Int) := by rw [wr (by omega) (by omega)]; omega
    by_cases hc : mid < P.length + A.length
    · refine ⟨mid + (P.length + A.length) - (P.length + A.length + B.length), mid, Or.inr (by omega), Or.inr (by omega), by omega, by omega, fun c h1 h2 => ⟨by omega, by omega, by omega, by omega⟩, fun rec => ?_⟩
      have hlt : decide ((mid : Int) < m) = true := by simp; omega
      simp only [sZ, hw0, hlt, cond_true, hw1]
      rw [bC (by omega), show IntKind.i64.wrap (((mid + (P.length + A.length) : Nat) : Int) - b) = ((mid + (P.length + A.length) - (P.length + A.length + B.length) : Nat) : Int) by rw [wr (by omega) (by omega)]; omega]
    · refine ⟨P.length, P.length + A.length, Or.inl rfl, Or.inl rfl, by omega, by omega, fun c h1 h2 => ⟨by omega, by omega, by omega, by omega⟩, fun rec => ?_⟩
      have hlt : decide ((mid : Int) < m) = false := by simp; omega
      simp only [sZ, hw0, hlt, cond_false, hw1]
      rw [bC (by omega)]
      rw [ha, hm]
  have hbin : ∀ rec, ∃ s : Nat, lo ≤ s ∧ s ≤ hi ∧ (s = lo ∨ le (A.getD (s - 1 - P.length) default) (B.getD (mid + (P.length + A.length) - 1 - (s - 1) - (P.length + A.length)) default)) ∧ (s = hi ∨ ¬ le (A.getD (s - P.length) default) (B.getD (mid + (P.length + A.length) - 1 - s - (P.length + A.length)) default)) ∧
      lp (fun s : List α × Int × Int => mO cmp rec a m b (mid : Int) ((mid + (P.length + A.length) : Nat) : Int) ((mid + (P.length + A.length) - 1 : Nat) : Int) s.1 s.2.1 s.2.2) (P ++ A ++ B ++ S, (lo : Int), (hi : Int)) = some (P ++ A ++ B ++ S, ((s : Nat) : Int)) := by
    intro rec
    refine LJ (lo := lo) (hi := hi) (f := fun k => le (A.getD (k - P.length) default) (B.getD (mid + (P.length + A.length) - 1 - k - (P.length + A.length)) default)) ?_ ?_ _ _ _ (Nat.le_refl _) (Nat.le_refl _) hlohi (Nat.le_refl _) (Or.inl rfl) (Or.inl rfl)
    · intro i j h1 h2 h3
      obtain ⟨r1, r2, r3, r4⟩ := hrange ((i + j) / 2) (by omega) (by omega)
      have e1 := hga ((i + j) / 2) r1 r2
      have e2 := hgb (mid + (P.length + A.length) - 1 - (i + j) / 2) r3 r4
      obtain ⟨v, hc, hv⟩ := C.ans (B.getD (mid + (P.length + A.length) - 1 - (i + j) / 2 - (P.length + A.length)) default) (A.getD ((i + j) / 2 - P.length) default) (hB _ (cN (by omega))) (hA _ (cN (by omega)))
      refine ⟨!decide (v < 0), by simp only [Bool.not_eq_true', decide_eq_false_iff_not, hv, Classical.not_not], ?_⟩
      show mO cmp rec _ _ _ _ _ _ _ _ _ = _
      have hlt : decide ((i : Int) < (j : Int)) = true := by simpa using h2
      have hadd : ((i : Int) + (j : Int)) = ((i + j : Nat) : Int) := by omega
      have w1 : IntKind.i64.wrap ((((i + j) / 2 : Nat) : Int) + 1) = (((i + j) / 2 + 1 : Nat) : Int) := by rw [wr (by omega) (by omega)]; omega
      have w2 : IntKind.i64.wrap (((mid + (P.length + A.length) - 1 : Nat) : Int) - (((i + j) / 2 : Nat) : Int)) = ((mid + (P.length + A.length) - 1 - (i + j) / 2 : Nat) : Int) := by rw [wr (by omega) (by omega)]; omega
      simp only [mO, hlt, cond_true, hadd, half (s := i + j) (by omega), w1, w2, Int.toNat_natCast, e1, e2, hc, Option.bind_some]
      rw [bC (by omega), bC ⟨by omega, by simp only [List.length_append]; omega⟩, bC ⟨by omega, by simp only [List.length_append]; omega⟩]
      by_cases hneg : v < 0 <;> simp [hneg]
    · intro i
      show mO cmp rec _ _ _ _ _ _ _ _ _ = _
      have hlt : decide ((i : Int) < (i : Int)) = false := by simp
      simp only [mO, hlt, cond_false]
  obtain ⟨s, s1, s2, s3, s4, s5⟩ := hbin (fun _ _ _ _ => none)
  have hsA0 : P.length ≤ s ∧ s ≤ P.length + A.length := by
    omega
  have hsB0 : P.length + A.length ≤ mid + (P.length + A.length) - s ∧ mid + (P.length + A.length) - s ≤ P.length + A.length + B.length := by
    omega
  obtain ⟨t, rfl⟩ : ∃ t, s = P.length + t := ⟨s - P.length, by omega⟩
  obtain ⟨u, hu⟩ : ∃ u, mid + (P.length + A.length) - (P.length + t) = P.length + A.length + u := ⟨mid + (P.length + A.length) - (P.length + t) - (P.length + A.length), by omega⟩
  have htA : t ≤ A.length := by omega
  have huB : u ≤ B.length := by omega
  have hmtu : mid = P.length + t + u := by omega
  have hAs : A.take t ++ A.drop t = A := List.take_append_drop t A
  have hBs : B.take u ++ B.drop u = B := List.take_append_drop u B
  have hlA1 : (A.take t).length = t := by rw [List.length_take]; omega
  have hlA2 : (A.drop t).length = A.length - t := by rw [List.length_drop]
  have hlB1 : (B.take u).length = u := by rw [List.length_take]; omega
  have hlB2 : (B.drop u).length = B.length - u := by rw [List.length_drop]
  refine ⟨A.take t, A.drop t, B.take u, B.drop u, hAs.symm, hBs.symm, by rw [hlA1, hlB1]; omega, by rw [hlA2, hlB2]; omega, ?_, fun rec => ?_⟩
  · -- who stands ahead of whom
    intro x hx y hy
    rcases List.mem_append.1 hx with hx | hx
    · obtain ⟨i, i1, i2, rfl⟩ := AP hx
      rcases List.mem_append.1 hy with hy | hy
      · obtain ⟨j, j1, j2, rfl⟩ := rN hy
        exact pS C hA hsA (by omega) j2
      · obtain ⟨j, j1, j2, rfl⟩ := rN hy
        have h3 : le (A.getD (t - 1) default) (B.getD u default) := by
          rcases s3 with h | h
          · rcases hlo with h' | h' <;> omega
          · rwa [show P.length + t - 1 - P.length = t - 1 by omega, show mid + (P.length + A.length) - 1 - (P.length + t - 1) - (P.length + A.length) = u by omega] at h
        exact C.trans _ _ _ (hA _ (cN i2)) (hA _ (cN (by omega))) (hB _ (cN j2)) (pS C hA hsA (show i ≤ t - 1 by omega) (by omega))
          (C.trans _ _ _ (hA _ (cN (by omega))) (hB _ (cN (by omega))) (hB _ (cN j2)) h3 (pS C hB hsB j1 j2))
    · obtain ⟨i, i1, i2, rfl⟩ := AP hx
      rcases List.mem_append.1 hy with hy | hy
      · obtain ⟨j, j1, j2, rfl⟩ := rN hy
        have h3 : le (B.getD (u - 1) default) (A.getD t default) := by
          have h0 : ¬ le (A.getD t default) (B.getD (u - 1) default) := by
            rcases s4 with h | h
            · rcases hhi with h' | h' <;> omega
            · rwa [show P.length + t - P.length = t by omega, show mid + (P.length + A.length) - 1 - (P.length + t) - (P.length + A.length) = u - 1 by omega] at h
          rcases C.total _ _ (hA _ (cN (show t < A.length by omega))) (hB _ (cN (show u - 1 < B.length by omega))) with h | h
          · exact absurd h h0
          · exact h
        exact C.trans _ _ _ (hB _ (cN i2)) (hB _ (cN (by omega))) (hA _ (cN j2)) (pS C hB hsB (show i ≤ u - 1 by omega) (by omega))
          (C.trans _ _ _ (hB _ (cN (by omega))) (hA _ (cN (by omega))) (hA _ (cN j2)) h3 (pS C hA hsA j1 j2))
      · obtain ⟨j, j1, j2, rfl⟩ := rN hy
        exact pS C hB hsB (by omega) j2
  · have h1 : decide (IntKind.i64.wrap (m - a) = 1) = false := by rw [wr (by omega) (by omega)]; simp; omega
    have h2 : decide (IntKind.i64.wrap (b - m) = 1) = false := by rw [wr (by omega) (by omega)]; simp; omega
    have s5' : lp (fun s : List α × Int × Int => mO cmp rec a m b (mid : Int) ((mid + (P.length + A.length) : Nat) : Int) ((mid + (P.length + A.length) - 1 : Nat) : Int) s.1 s.2.1 s.2.2) (P ++ A ++ B ++ S, (lo : Int), (hi : Int)) = some (P ++ A ++ B ++ S, ((P.length + t : Nat) : Int)) := s5
    have hp : IntKind.i64.wrap (((mid + (P.length + A.length) : Nat) : Int) - 1) = ((mid + (P.length + A.length) - 1 : Nat) : Int) := by rw [wr (by omega) (by omega)]; omega
    have he : IntKind.i64.wrap (((mid + (P.length + A.length) : Nat) : Int) - ((P.length + t : Nat) : Int)) = ((P.length + A.length + u : Nat) : Int) := by rw [wr (by omega) (by omega)]; omega
    simp only [dG, h1, cond_false, wI, h2, hinit rec, tE, BB, hp, s5', Option.bind_some, BI, he]
    -- the turn
    have hd : P ++ A ++ B ++ S = (P ++ A.take t) ++ A.drop t ++ B.take u ++ (B.drop u ++ S) := by
      have : (P ++ A.take t) ++ A.drop t ++ B.take u ++ (B.drop u ++ S) = P ++ (A.take t ++ A.drop t) ++ (B.take u ++ B.drop u) ++ S := by simp only [List.append_assoc]
      rw [this, hAs, hBs]
    have hrot : cond (decide (((P.length + t : Nat) : Int) < m) && decide (m < ((P.length + A.length + u : Nat) : Int)))
        ((xV (P ++ A ++ B ++ S) ((P.length + t : Nat) : Int) m ((P.length + A.length + u : Nat) : Int) cmp).bind fun x10 => nS cmp rec x10 a b (mid : Int) ((P.length + t : Nat) : Int) ((P.length + A.length + u : Nat) : Int))
        (nS cmp rec (P ++ A ++ B ++ S) a b (mid : Int) ((P.length + t : Nat) : Int) ((P.length + A.length + u : Nat) : Int))
        = nS cmp rec (P ++ A.take t ++ B.take u ++ A.drop t ++ B.drop u ++ S) a b (mid : Int) ((P.length + t : Nat) : Int) ((P.length + A.length + u : Nat) : Int) := by
      by_cases hc : t < A.length ∧ 0 < u
      · have : (decide (((P.length + t : Nat) : Int) < m) && decide (m < ((P.length + A.length + u : Nat) : Int))) = true := by simp; omega
        rw [this, cond_true, ZJ (Q := P ++ A.take t) (X := A.drop t) (Y := B.take u) (R := B.drop u ++ S) hd (fun h => by rw [h] at hlA2; simp at hlA2; omega) (fun h => by rw [h] at hlB1; simp at hlB1; omega)
          (by simp only [List.length_append, hlA1]) (by simp only [List.length_append, hlA1, hlA2]; rw [hm]; congr 1; omega) (by simp only [List.length_append, hlA1, hlA2, hlB1]; congr 1; omega) hl]
        simp
      · have : (decide (((P.length + t : Nat) : Int) < m) && decide (m < ((P.length + A.length + u : Nat) : Int))) = false := by
          rw [Bool.eq_false_iff]; intro h; simp at h; apply hc; omega
        rw [this, cond_false, hd]
        congr 1
        by_cases h0 : t < A.length
        · have : u = 0 := by omega
          subst this; simp
        · have hz : A.drop t = [] := List.drop_eq_nil_of_le (by omega)
          simp only [hz, List.append_nil, List.append_assoc, List.nil_append]
    rw [hrot]
    have hne1 : decide (A.take t ≠ [] ∧ B.take u ≠ []) = (decide (a < ((P.length + t : Nat) : Int)) && decide (((P.length + t : Nat) : Int) < (mid : Int))) := by
      have q1 : A.take t ≠ [] ↔ 0 < t := by rw [← List.length_pos_iff, hlA1]
      have q2 : B.take u ≠ [] ↔ 0 < u := by rw [← List.length_pos_iff, hlB1]
      rw [Bool.eq_iff_iff]; simp [q1, q2]; omega
    have hne2 : decide (A.drop t ≠ [] ∧ B.drop u ≠ []) = (decide ((mid : Int) < ((P.length + A.length + u : Nat) : Int)) && decide (((P.length + A.length + u : Nat) : Int) < b)) := by
      have q1 : A.drop t ≠ [] ↔ t < A.length := by rw [← List.length_pos_iff, hlA2]; omega
      have q2 : B.drop u ≠ [] ↔ u < B.length := by rw [← List.length_pos_iff, hlB2]; omega
      rw [Bool.eq_iff_iff]; simp [q1, q2]; omega
    rw [hne1, hne2, hlA1, hlB1, hlA2]
    have f1 : a + ((t : Nat) : Int) = ((P.length + t : Nat) : Int) := by omega
    have f2 : a + ((t + u : Nat) : Int) = (mid : Int) := by omega
    have f3 : a + ((t + u + (A.length - t) : Nat) : Int) = ((P.length + A.length + u : Nat) : Int) := by omega
    rw [f1, f2, f3]
    simp only [nS, wH]
    cases (decide (a < ((P.length + t : Nat) : Int)) && decide (((P.length + t : Nat) : Int) < (mid : Int))) <;> simp only [cond_true, cond_false, Option.bind_some, Option.bind_fun_some]

end sym
end Go.Abs
namespace Go.Abs
open Go
variable {α : Type} [Inhabited α] {ok : α → Prop} {le : α → α → Prop} {cmp : α → α → Option Int}
theorem XR (C : Cmp ok le cmp) {P A B S : List α} {a m b : Int} (hA : A ≠ []) (hB : B ≠ []) (oA : Oks ok A) (oB : Oks ok B) (sA : Srt le A) (sB : Srt le B)
    (ha : a = (P.length : Nat)) (hm : m = ((P.length + A.length : Nat) : Int)) (hb : b = ((P.length + A.length + B.length : Nat) : Int)) (hl : (P ++ A ++ B ++ S).length ≤ 1099511627776) : QO cmp le P A B S (P ++ A ++ B ++ S) a m b := by
  by_cases h1 : A.length = 1
  · obtain ⟨x, rfl⟩ := List.length_eq_one_iff.1 h1
    left
    obtain ⟨r, h, h'⟩ := TI C (P := P) (S := S) (x := x) (oA x (by simp)) oB sB ha (by simpa using hm) (by simpa using hb) (by simpa using hl)
    exact ⟨r, h, fun rec => by have := h' rec; simpa using this⟩
  · by_cases h2 : B.length = 1
    · obtain ⟨x, rfl⟩ := List.length_eq_one_iff.1 h2
      left
      obtain ⟨r, h, h'⟩ := WB C (P := P) (S := S) (x := x) (oB x (by simp)) oA sA h1 ha hm (by simpa using hb) (by simpa using hl)
      exact ⟨r, h, fun rec => by have := h' rec; simpa using this⟩
    · have p1 := List.length_pos_iff.2 hA
      have p2 := List.length_pos_iff.2 hB
      exact XU C oA oB sA sB (by omega) (by omega) ha hm hb hl

theorem FD (C : Cmp ok le cmp) : ∀ (k : Nat) (P A B S : List α) (a m b : Int), A ≠ [] → B ≠ [] → Oks ok A → Oks ok B → Srt le A → Srt le B →
    a = (P.length : Nat) → m = ((P.length + A.length : Nat) : Int) → b = ((P.length + A.length + B.length : Nat) : Int) → (P ++ A ++ B ++ S).length ≤ 1099511627776 →
    (∀ r, dI cmp k (P ++ A ++ B ++ S) a m b = some r → GF le P A B S r) ∧ (A.length + B.length ≤ k → ∃ r, dI cmp k (P ++ A ++ B ++ S) a m b = some r)
  | 0, P, A, B, S, a, m, b, hA, hB, oA, oB, sA, sB, ha, hm, hb, hl => by
    refine ⟨fun r h => by simp [dI] at h, fun h => ?_⟩
    exact absurd (List.length_eq_zero_iff.1 (by omega)) hA
  | k + 1, P, A, B, S, a, m, b, hA, hB, oA, oB, sA, sB, ha, hm, hb, hl => by
    have part : ∀ (P' A' B' S' : List α) (a' m' b' : Int), Oks ok A' → Oks ok B' → Srt le A' → Srt le B' → a' = (P'.length : Nat) → m' = ((P'.length + A'.length : Nat) : Int) → b' = ((P'.length + A'.length + B'.length : Nat) : Int) → (P' ++ A' ++ B' ++ S').length ≤ 1099511627776 →
        (∀ r, cond (decide (A' ≠ [] ∧ B' ≠ [])) (dI cmp k (P' ++ A' ++ B' ++ S') a' m' b') (some (P' ++ A' ++ B' ++ S')) = some r → GF le P' A' B' S' r) ∧
        (A'.length + B'.length ≤ k → ∃ r, cond (decide (A' ≠ [] ∧ B' ≠ [])) (dI cmp k (P' ++ A' ++ B' ++ S') a' m' b') (some (P' ++ A' ++ B' ++ S')) = some r) := by
      intro P' A' B' S' a' m' b' oA' oB' sA' sB' ha' hm' hb' hl'
      by_cases h : A' ≠ [] ∧ B' ≠ []
      · rw [decide_eq_true h, cond_true]
        exact FD C k P' A' B' S' a' m' b' h.1 h.2 oA' oB' sA' sB' ha' hm' hb' hl'
      · rw [decide_eq_false h, cond_false]
        refine ⟨fun r hr => ?_, fun _ => ⟨_, rfl⟩⟩
        cases hr
        refine ⟨A' ++ B', List.Perm.refl _, ?_, by simp⟩
        by_cases h1 : A' = []
        · subst h1; simpa using sB'
        · have h2 : B' = [] := Classical.byContradiction fun h2 => h ⟨h1, h2⟩
          subst h2; simpa using sA'
    rcases XR C hA hB oA oB sA sB ha hm hb hl with ⟨r, hr, hs⟩ | ⟨A1, A2, B1, B2, rfl, rfl, p1, p2, hcross, hs⟩
    · have e : dI cmp (k + 1) (P ++ A ++ B ++ S) a m b = some r := hs _
      exact ⟨fun r' h => by rw [e] at h; cases h; exact hr, fun _ => ⟨r, e⟩⟩
    · have e := hs (dI cmp k)
      rw [show dG cmp (dI cmp k) = dI cmp (k + 1) from rfl] at e
      have q1 := part P A1 B1 (A2 ++ B2 ++ S) a (a + (A1.length : Nat)) (a + ((A1.length + B1.length : Nat) : Int)) (fun x hx => oA x (by simp [hx])) (fun x hx => oB x (by simp [hx]))
        (List.pairwise_append.1 sA).1 (List.pairwise_append.1 sB).1 ha (by omega) (by omega) (by simp only [List.length_append] at hl ⊢; omega)
      have hd1 : P ++ A1 ++ B1 ++ A2 ++ B2 ++ S = P ++ A1 ++ B1 ++ (A2 ++ B2 ++ S) := by simp
      rw [hd1] at e
      have q2 : ∀ D1 : List α, D1.Perm (A1 ++ B1) → _ := fun D1 hD1 => part (P ++ D1) A2 B2 S (a + ((A1.length + B1.length : Nat) : Int)) (a + ((A1.length + B1.length + A2.length : Nat) : Int)) b (fun x hx => oA x (by simp [hx])) (fun x hx => oB x (by simp [hx]))
        (List.pairwise_append.1 sA).2.1 (List.pairwise_append.1 sB).2.1 (by have := hD1.length_eq; simp only [List.length_append] at this ⊢; omega) (by have := hD1.length_eq; simp only [List.length_append] at this ⊢; omega)
        (by have := hD1.length_eq; rw [hb]; simp only [List.length_append] at this ⊢; congr 1; omega) (by have := hD1.length_eq; simp only [List.length_append] at hl this ⊢; omega)
      refine ⟨fun r h => ?_, fun hk => ?_⟩
      · rw [e] at h
        obtain ⟨x, h1, h2⟩ := Option.bind_eq_some_iff.1 h
        obtain ⟨D1, d1, d2, rfl⟩ := q1.1 x h1
        have h2' : cond (decide (A2 ≠ [] ∧ B2 ≠ [])) (dI cmp k (P ++ D1 ++ A2 ++ B2 ++ S) (a + ((A1.length + B1.length : Nat) : Int)) (a + ((A1.length + B1.length + A2.length : Nat) : Int)) b) (some (P ++ D1 ++ A2 ++ B2 ++ S)) = some r := by
          have : P ++ D1 ++ (A2 ++ B2 ++ S) = P ++ D1 ++ A2 ++ B2 ++ S := by simp
          rw [this] at h2; exact h2
        obtain ⟨D2, f1, f2, rfl⟩ := (q2 D1 d1).1 r h2'
        refine ⟨D1 ++ D2, ?_, ?_, by simp⟩
        · refine (d1.append f1).trans ?_
          have : (B1 ++ (A2 ++ B2)).Perm (A2 ++ (B1 ++ B2)) := by
            have := (List.perm_append_comm (l₁ := B1) (l₂ := A2)).append_right B2
            simpa using this
          have := this.append_left A1
          simpa using this
        · rw [Srt, List.pairwise_append]
          exact ⟨d2, f2, fun x hx y hy => hcross x (d1.mem_iff.1 hx) y (f1.mem_iff.1 hy)⟩
      · simp only [List.length_append] at hk
        obtain ⟨x, hx⟩ := q1.2 (by omega)
        obtain ⟨D1, d1, d2, rfl⟩ := q1.1 x hx
        obtain ⟨r, hr⟩ := (q2 D1 d1).2 (by omega)
        refine ⟨r, ?_⟩
        rw [e, hx]
        have : P ++ D1 ++ (A2 ++ B2 ++ S) = P ++ D1 ++ A2 ++ B2 ++ S := by simp
        rw [this]; exact hr

theorem RQ {β : Type} {g : Nat → Option β} (h : ∃ k r, g k = some r) : ∃ r, EN g = some r := by
  unfold EN
  rw [dif_pos h]
  exact Classical.choose_spec h

theorem TA (C : Cmp ok le cmp) {P A B S d : List α} {a m b : Int} (hd : d = P ++ A ++ B ++ S) (hA : A ≠ []) (hB : B ≠ []) (oA : Oks ok A) (oB : Oks ok B) (sA : Srt le A) (sB : Srt le B)
    (ha : a = (P.length : Nat)) (hm : m = ((P.length + A.length : Nat) : Int)) (hb : b = ((P.length + A.length + B.length : Nat) : Int)) (hl : d.length ≤ 1099511627776) :
    ∃ D, D.Perm (A ++ B) ∧ Srt le D ∧ mX d a m b cmp = some (P ++ D ++ S) := by
  subst hd
  unfold mX
  obtain ⟨r, hr⟩ := (FD C (A.length + B.length) P A B S a m b hA hB oA oB sA sB ha hm hb hl).2 (Nat.le_refl _)
  obtain ⟨r', hr'⟩ := RQ (g := fun k => dI cmp k (P ++ A ++ B ++ S) a m b) ⟨_, r, hr⟩
  obtain ⟨k, hk⟩ := BL hr'
  obtain ⟨D, d1, d2, rfl⟩ := (FD C k P A B S a m b hA hB oA oB sA sB ha hm hb hl).1 r' hk
  exact ⟨D, d1, d2, hr'⟩

inductive lO {β : Type} (le : β → β → Prop) (n : Nat) : List β → Prop
  | last {l : List β} : l.length ≤ n → Srt le l → lO le n l
  | cons {x l : List β} : x.length = n → Srt le x → lO le n l → lO le n (x ++ l)

theorem lO.srt {β : Type} {le : β → β → Prop} {n : Nat} {l : List β} (h : lO le n l) (hl : l.length ≤ n) : Srt le l := by
  cases h with
  | last _ h => exact h
  | cons hx hs hr =>
    rename_i x r
    have : r = [] := List.length_eq_zero_iff.1 (by simp only [List.length_append] at hl; omega)
    subst this; simpa using hs

theorem lO.split {β : Type} {le : β → β → Prop} {n : Nat} {l : List β} (h : lO le n l) (hl : n < l.length) : ∃ x r, l = x ++ r ∧ x.length = n ∧ Srt le x ∧ lO le n r := by
  cases h with
  | last h' _ => omega
  | cons hx hs hr => exact ⟨_, _, rfl, hx, hs, hr⟩

theorem lO.ZA {β : Type} {le : β → β → Prop} {n : Nat} {l : List β} (hn : 0 < n) (h : lO le n l) (hl : 2 * n ≤ l.length) : ∃ x y r, l = x ++ y ++ r ∧ x.length = n ∧ y.length = n ∧ Srt le x ∧ Srt le y ∧ lO le n r := by
  obtain ⟨x, r, rfl, h1, h2, h3⟩ := h.split (by omega)
  simp only [List.length_append] at hl
  by_cases he : r.length = n
  · exact ⟨x, r, [], by simp, h1, he, h2, h3.srt (by omega), lO.last (by simp) List.Pairwise.nil⟩
  · obtain ⟨y, r', rfl, e1, e2, e3⟩ := h3.split (by omega)
    exact ⟨x, y, r', by simp, h1, e1, h2, e2, e3⟩

theorem Oks.perm {β : Type} {ok : β → Prop} {l l' : List β} (h : Oks ok l) (hp : l'.Perm l) : Oks ok l' := fun x hx => h x (hp.mem_iff.1 hx)

theorem YS (C : Cmp ok le cmp) {n1 : Int} : ∀ (n : Nat) (F G : List α), G.length ≤ n → Oks ok G → n1 = ((F.length + G.length : Nat) : Int) → (F ++ G).length ≤ 1099511627776 →
    ∃ G1 G2, (G1 ++ G2).Perm G ∧ G2.length < 20 ∧ (∀ H, H.length ≤ 20 → Srt le H → lO le 20 (G1 ++ H)) ∧
      lp (fun s : List α × Int × Int => kW cmp n1 20 s.1 s.2.1 s.2.2) (F ++ G, ((F.length : Nat) : Int), ((F.length + 20 : Nat) : Int)) = some (F ++ G1 ++ G2, ((F.length + G1.length : Nat) : Int)) := by
  intro n
  induction n with
  | zero =>
    intro F G hn hG h1 hl
    refine ⟨[], G, by simp, by omega, fun H h2 h3 => lO.last (by simpa using h2) (by simpa using h3), ?_⟩
    rw [cI (r := (F ++ G, ((F.length : Nat) : Int)))]
    · simp
    · have : decide (((F.length + 20 : Nat) : Int) ≤ n1) = false := by subst h1; simp; omega
      simp only [kW, this, cond_false]
  | succ n ih =>
    intro F G hn hG h1 hl
    by_cases hg : G.length < 20
    · refine ⟨[], G, by simp, by omega, fun H h2 h3 => lO.last (by simpa using h2) (by simpa using h3), ?_⟩
      rw [cI (r := (F ++ G, ((F.length : Nat) : Int)))]
      · simp
      · have : decide (((F.length + 20 : Nat) : Int) ≤ n1) = false := by subst h1; simp; omega
        simp only [kW, this, cond_false]
    · obtain ⟨X, R, rfl, hX⟩ : ∃ X R, G = X ++ R ∧ X.length = 20 := ⟨G.take 20, G.drop 20, (List.take_append_drop _ _).symm, by rw [List.length_take]; omega⟩
      simp only [List.length_append] at hn hl h1 hg
      obtain ⟨D, d1, d2, d3⟩ := TL C (P := F) (A := X) (T := R) (a := ((F.length : Nat) : Int)) (b := ((F.length + 20 : Nat) : Int)) rfl (by rw [hX]) (fun x hx => hG x (by simp [hx])) (by simp only [List.length_append]; omega)
      have hD : D.length = 20 := by rw [d1.length_eq, hX]
      obtain ⟨G1, G2, g1, g2, g3, g4⟩ := ih (F ++ D) R (by omega) (fun x hx => hG x (by simp [hx])) (by rw [h1]; simp only [List.length_append]; congr 1; omega) (by simp only [List.length_append]; omega)
      refine ⟨D ++ G1, G2, ?_, g2, fun H h2 h3 => ?_, ?_⟩
      · have := d1.append g1
        simpa using this
      · rw [List.append_assoc]; exact lO.cons hD d2 (g3 H h2 h3)
      · have hb : (fun s : List α × Int × Int => kW cmp n1 20 s.1 s.2.1 s.2.2) (F ++ (X ++ R), ((F.length : Nat) : Int), ((F.length + 20 : Nat) : Int)) = some (.inl (F ++ D ++ R, (((F ++ D).length : Nat) : Int), (((F ++ D).length + 20 : Nat) : Int))) := by
          show kW cmp n1 20 _ _ _ = _
          have : decide (((F.length + 20 : Nat) : Int) ≤ n1) = true := by subst h1; simp; omega
          simp only [kW, this, cond_true]
          rw [show F ++ (X ++ R) = F ++ X ++ R by simp, d3]
          simp only [Option.bind_some, List.length_append, hD]
          rw [wr (by omega) (by omega)]
          congr 1
        rw [eT hb, g4]
        simp only [List.length_append, List.append_assoc]
        congr 2
        congr 1; omega

theorem YP (C : Cmp ok le cmp) {n1 : Int} {bs : Nat} (hbs : 0 < bs) (hbs' : bs ≤ 1099511627776) : ∀ (n : Nat) (F G : List α), G.length ≤ n → Oks ok G → lO le bs G → n1 = ((F.length + G.length : Nat) : Int) → (F ++ G).length ≤ 1099511627776 →
    ∃ G1 G2, (G1 ++ G2).Perm G ∧ G2.length < 2 * bs ∧ lO le bs G2 ∧ (∀ H, H.length ≤ 2 * bs → Srt le H → lO le (2 * bs) (G1 ++ H)) ∧
      lp (fun s : List α × Int × Int => kT cmp n1 (bs : Int) s.1 s.2.1 s.2.2) (F ++ G, ((F.length : Nat) : Int), ((F.length + 2 * bs : Nat) : Int)) = some (F ++ G1 ++ G2, ((F.length + G1.length : Nat) : Int)) := by
  have stop : ∀ (F G : List α), lO le bs G → G.length < 2 * bs → n1 = ((F.length + G.length : Nat) : Int) → ∃ G1 G2, (G1 ++ G2).Perm G ∧ G2.length < 2 * bs ∧ lO le bs G2 ∧ (∀ H, H.length ≤ 2 * bs → Srt le H → lO le (2 * bs) (G1 ++ H)) ∧
      lp (fun s : List α × Int × Int => kT cmp n1 (bs : Int) s.1 s.2.1 s.2.2) (F ++ G, ((F.length : Nat) : Int), ((F.length + 2 * bs : Nat) : Int)) = some (F ++ G1 ++ G2, ((F.length + G1.length : Nat) : Int)) := by
    intro F G hG hg h1
    refine ⟨[], G, by simp, hg, hG, fun H h2 h3 => lO.last (by simpa using h2) (by simpa using h3), ?_⟩
    rw [cI (r := (F ++ G, ((F.length : Nat) : Int)))]
    · simp
    · have : decide (((F.length + 2 * bs : Nat) : Int) ≤ n1) = false := by subst h1; simp; omega
      show kT cmp n1 _ _ _ _ = _
      simp only [kT, this, cond_false]
  intro n
  induction n with
  | zero => intro F G hn _ hB h1 _; exact stop F G hB (by omega) h1
  | succ n ih =>
    intro F G hn hG hB h1 hl
    by_cases hg : G.length < 2 * bs
    · exact stop F G hB hg h1
    · obtain ⟨x, y, R, rfl, x1, y1, sx, sy, hR⟩ := hB.ZA hbs (by omega)
      simp only [List.length_append] at hn hl h1 hg
      obtain ⟨D, d1, d2, d3⟩ := TA C (P := F) (A := x) (B := y) (S := R) (d := F ++ (x ++ y ++ R)) (a := ((F.length : Nat) : Int)) (m := ((F.length + bs : Nat) : Int)) (b := ((F.length + 2 * bs : Nat) : Int)) (by simp) (fun h => by rw [h] at x1; simp at x1; omega) (fun h => by rw [h] at y1; simp at y1; omega)
        (fun z hz => hG z (by simp [hz])) (fun z hz => hG z (by simp [hz])) sx sy rfl (by rw [x1]) (by rw [x1, y1]; congr 1; omega) (by simp only [List.length_append]; omega)
      have hD : D.length = 2 * bs := by rw [d1.length_eq]; simp only [List.length_append]; omega
      obtain ⟨G1, G2, g1, g2, g3, g4, g5⟩ := ih (F ++ D) R (by omega) (fun z hz => hG z (by simp [hz])) hR (by rw [h1]; simp only [List.length_append]; congr 1; omega) (by simp only [List.length_append]; omega)
      refine ⟨D ++ G1, G2, ?_, g2, g3, fun H h2 h3 => ?_, ?_⟩
      · have := d1.append g1
        simpa using this
      · rw [List.append_assoc]; exact lO.cons hD d2 (g4 H h2 h3)
      · have hb : (fun s : List α × Int × Int => kT cmp n1 (bs : Int) s.1 s.2.1 s.2.2) (F ++ (x ++ y ++ R), ((F.length : Nat) : Int), ((F.length + 2 * bs : Nat) : Int)) = some (.inl (F ++ D ++ R, (((F ++ D).length : Nat) : Int), (((F ++ D).length + 2 * bs : Nat) : Int))) := by
          show kT cmp n1 _ _ _ _ = _
          have : decide (((F.length + 2 * bs : Nat) : Int) ≤ n1) = true := by subst h1; simp; omega
          have w1 : IntKind.i64.wrap (((F.length : Nat) : Int) + (bs : Int)) = ((F.length + bs : Nat) : Int) := by rw [wr (by omega) (by omega)]; omega
          have w2 : IntKind.i64.wrap (2 * (bs : Int)) = 2 * (bs : Int) := wr (by omega) (by omega)
          have w3 : IntKind.i64.wrap (((F.length + 2 * bs : Nat) : Int) + 2 * (bs : Int)) = ((F.length + 2 * bs + 2 * bs : Nat) : Int) := by rw [wr (by omega) (by omega)]; omega
          simp only [kT, this, cond_true, w1, w2, w3, d3, Option.bind_some, List.length_append, hD]
        rw [eT hb, g5]
        simp only [List.length_append, List.append_assoc]
        congr 2
        congr 1; omega

theorem RG (C : Cmp ok le cmp) {d : List α} {bs : Nat} (hbs : 0 < bs) (hbs' : bs < d.length) (ho : Oks ok d) (hB : lO le bs d) (hl : d.length ≤ 1099511627776) :
    ∃ r, r.Perm d ∧ lO le (2 * bs) r ∧ iJ cmp ((d.length : Nat) : Int) d (bs : Int) = some (.inl (r, ((2 * bs : Nat) : Int))) := by
  obtain ⟨G1, G2, g1, g2, g3, g4, g5⟩ := YP C (n1 := ((d.length : Nat) : Int)) hbs (by omega) d.length [] d (Nat.le_refl _) ho hB (by simp) (by simpa using hl)
  have hlen := g1.length_eq
  simp only [List.length_append] at hlen
  have w2 : IntKind.i64.wrap (2 * (bs : Int)) = ((2 * bs : Nat) : Int) := by rw [wr (by omega) (by omega)]; omega
  have w4 : IntKind.i64.wrap ((bs : Int) * 2) = ((2 * bs : Nat) : Int) := by rw [wr (by omega) (by omega)]; omega
  have hlt : decide ((bs : Int) < ((d.length : Nat) : Int)) = true := by simp; omega
  simp only [List.nil_append, List.length_nil, Nat.zero_add, Int.natCast_zero] at g5
  have w1 : IntKind.i64.wrap (((G1.length : Nat) : Int) + (bs : Int)) = ((G1.length + bs : Nat) : Int) := by rw [wr (by omega) (by omega)]; omega
  by_cases hg : bs < G2.length
  · obtain ⟨x, y, rfl, x1, sx, hy⟩ := g3.split hg
    simp only [List.length_append] at g2 hg hlen
    have sy : Srt le y := hy.srt (by omega)
    have og : Oks ok (G1 ++ (x ++ y)) := ho.perm g1
    obtain ⟨D, d1, d2, d3⟩ := TA C (P := G1) (A := x) (B := y) (S := []) (d := G1 ++ (x ++ y)) (a := ((G1.length : Nat) : Int)) (m := ((G1.length + bs : Nat) : Int)) (b := ((d.length : Nat) : Int)) (by simp) (fun h => by rw [h] at x1; simp at x1; omega) (fun h => by rw [h] at hg; simp at hg; omega)
      (fun z hz => og z (by simp [hz])) (fun z hz => og z (by simp [hz])) sx sy rfl (by rw [x1]) (by congr 1; omega) (by simp only [List.length_append]; omega)
    refine ⟨G1 ++ D, ?_, ?_, ?_⟩
    · exact (d1.append_left G1).trans g1
    · exact g4 D (by rw [d1.length_eq]; simp only [List.length_append]; omega) d2
    · have hc : decide (((G1.length + bs : Nat) : Int) < ((d.length : Nat) : Int)) = true := by simp; omega
      simp only [iJ, hlt, cond_true, w2, sH, g5, Option.bind_some, sU, w1, hc, d3, vM, w4]
      simp
  · refine ⟨G1 ++ G2, g1, g4 G2 (by omega) (g3.srt (by omega)), ?_⟩
    have hc : decide (((G1.length + bs : Nat) : Int) < ((d.length : Nat) : Int)) = false := by simp; omega
    simp only [iJ, hlt, cond_true, w2, sH, g5, Option.bind_some, sU, w1, hc, cond_false, vM, w4]

theorem SV (C : Cmp ok le cmp) : ∀ (n : Nat) (d : List α) (bs : Nat), d.length - bs ≤ n → 0 < bs → Oks ok d → lO le bs d → d.length ≤ 1099511627776 →
    ∃ r, r.Perm d ∧ Srt le r ∧ lp (fun s : List α × Int => iJ cmp ((d.length : Nat) : Int) s.1 s.2) (d, (bs : Int)) = some r := by
  have stop : ∀ (d : List α) (bs : Nat), d.length ≤ bs → lO le bs d → ∃ r, r.Perm d ∧ Srt le r ∧ lp (fun s : List α × Int => iJ cmp ((d.length : Nat) : Int) s.1 s.2) (d, (bs : Int)) = some r := by
    intro d bs h hB
    refine ⟨d, List.Perm.refl _, hB.srt h, cI ?_⟩
    show iJ cmp _ _ _ = _
    have : decide ((bs : Int) < ((d.length : Nat) : Int)) = false := by simp; omega
    simp only [iJ, this, cond_false]
  intro n
  induction n with
  | zero => intro d bs hn _ _ hB _; exact stop d bs (by omega) hB
  | succ n ih =>
    intro d bs hn hbs ho hB hl
    by_cases h : d.length ≤ bs
    · exact stop d bs h hB
    · obtain ⟨r, r1, r2, r3⟩ := RG C hbs (by omega) ho hB hl
      obtain ⟨r', e1, e2, e3⟩ := ih r (2 * bs) (by rw [r1.length_eq]; omega) (by omega) (ho.perm r1) r2 (by rw [r1.length_eq]; exact hl)
      rw [r1.length_eq] at e3
      refine ⟨r', e1.trans r1, e2, ?_⟩
      rw [eT (show (fun s : List α × Int => iJ cmp ((d.length : Nat) : Int) s.1 s.2) (d, (bs : Int)) = _ from r3)]
      exact e3

theorem IL (C : Cmp ok le cmp) {d : List α} (ho : Oks ok d) (hl : d.length ≤ 1099511627776) : ∃ r, r.Perm d ∧ Srt le r ∧ tS d ((d.length : Nat) : Int) cmp = some r := by
  obtain ⟨G1, G2, g1, g2, g3, g4⟩ := YS C (n1 := ((d.length : Nat) : Int)) d.length [] d (Nat.le_refl _) ho (by simp) (by simpa using hl)
  have hlen := g1.length_eq
  simp only [List.length_append] at hlen
  have og := ho.perm g1
  obtain ⟨D, d1, d2, d3⟩ := TL C (P := G1) (A := G2) (T := []) (a := ((G1.length : Nat) : Int)) (b := ((d.length : Nat) : Int)) rfl (by congr 1; omega) (fun z hz => og z (by simp [hz])) (by simp only [List.length_append, List.length_nil]; omega)
  have hp : (G1 ++ D).Perm d := (d1.append_left G1).trans g1
  obtain ⟨r, r1, r2, r3⟩ := SV C (G1 ++ D).length (G1 ++ D) 20 (by omega) (by omega) (ho.perm hp) (g3 D (by rw [d1.length_eq]; omega) d2) (by rw [hp.length_eq]; exact hl)
  refine ⟨r, r1.trans hp, r2, ?_⟩
  simp only [List.nil_append, List.length_nil, Nat.zero_add, Int.natCast_zero] at g4
  unfold tS vU
  have g4' : lp (fun s : List α × Int × Int => kW cmp ((d.length : Nat) : Int) 20 s.1 s.2.1 s.2.2) (d, (0 : Int), (20 : Int)) = some (G1 ++ G2, ((G1.length : Nat) : Int)) := g4
  rw [g4']
  simp only [Option.bind_some, vI]
  rw [show G1 ++ G2 = G1 ++ G2 ++ [] by simp, d3]
  simp only [Option.bind_some, vT, List.append_nil]
  rw [hp.length_eq] at r3
  have r3' : lp (fun s : List α × Int => iJ cmp ((d.length : Nat) : Int) s.1 s.2) (G1 ++ D, (20 : Int)) = some r := r3
  rw [r3']; rfl

end Go.Abs
namespace Go.Abs
open Go
def DM (n : Int) : Bool := decide (n ≤ 1048576) && decide (-1048576 ≤ n)

theorem PL (n : Int) : sM n = some (DM n) := rfl

def FL (last : Int) (j : aB) : Bool := decide (j.At ≤ last) || decide (1125899906842624 ≤ j.At) || decide (j.Net = 0) || !DM j.Net

def chk (last : Int) : List aB → Bool
  | [] => true
  | j :: r => !FL last j && chk j.At r

def eB (f : List aB) : Bool := decide (f.length ≤ 1024) && chk (-2) f

theorem LK {f : List aB} {i : Nat} {a : aB} {last : Int} (ha : f[i]? = some a) (hl : f.length < 4611686018427387904) :
    kU f (f.length : Nat) last i = some (if FL last a then .inr (.inr false) else .inl (a.At, ((i + 1 : Nat) : Int))) := by
  obtain ⟨d1, d2, d3, d4⟩ := idx ha hl
  simp only [kU, d1, cond_true, bC d2, d3, d4, PL]
  unfold FL
  cases h : (decide (a.At ≤ last) || decide (1125899906842624 ≤ a.At) || decide (a.Net = 0)) <;> cases h2 : DM a.Net <;> simp [eX]

theorem LQ : ∀ (f : List aB) (last : Int), mM (fun last (j : aB) => some (if FL last j then .inr (.inr false) else .inl j.At)) (fun _ => (.inl () : Unit ⊕ Bool)) last f = some (if chk last f then .inl () else .inr false)
  | [], last => by simp [mM, chk]
  | j :: r, last => by
    cases h : FL last j
    · rw [AH (s' := j.At) (by simp [h])]
      rw [LQ r j.At]
      simp [chk, h]
    · rw [AI (x := .inr false) (by simp [h])]
      simp [chk, h]

theorem zC (f : List aB) : kZ f = some (eB f) := by
  unfold kZ eB
  by_cases hl : f.length ≤ 1024
  · have h1 : decide ((1024 : Int) < ((f.length : Nat) : Int)) = false := by simp; omega
    rw [h1, cond_false]
    unfold vO
    have key := VC (l := f) (body := fun s : Int × Int => kU f (f.length : Nat) s.1 s.2) (fun last i => (last, i)) _ _
      (fun i a s ha => by
        constructor
        · intro s' hs
          show kU f (f.length : Nat) s i = _
          rw [LK ha (by omega)]
          split at hs <;> simp_all
        · intro x hs
          show kU f (f.length : Nat) s i = _
          rw [LK ha (by omega)]
          split at hs <;> simp_all)
      (fun s => by show kU f (f.length : Nat) s (f.length : Nat) = _; simp only [kU, lZ, cond_false]) (LQ f (-2))
    rw [key]
    cases h : chk (-2) f <;> simp [sI, hl]
  · have h1 : decide ((1024 : Int) < ((f.length : Nat) : Int)) = true := by simp; omega
    rw [h1, cond_true]
    simp [hl]

theorem RE {last : Int} {j : aB} : FL last j = false ↔ last < j.At ∧ j.At < 1125899906842624 ∧ j.Net ≠ 0 ∧ j.Net ≤ 1048576 ∧ -1048576 ≤ j.Net := by
  simp [FL, DM]
  omega

def mH (last : Int) : List aB → Prop
  | [] => True
  | j :: r => (last < j.At ∧ j.At < 1125899906842624 ∧ j.Net ≠ 0 ∧ j.Net ≤ 1048576 ∧ -1048576 ≤ j.Net) ∧ mH j.At r

theorem PY : ∀ {f : List aB} {last : Int}, chk last f = true ↔ mH last f
  | [], last => by simp [chk, mH]
  | j :: r, last => by simp [chk, mH, RE, PY]

theorem iP {f : List aB} : eB f = true ↔ f.length ≤ 1024 ∧ mH (-2) f := by simp [eB, PY]

theorem mH.above : ∀ {f : List aB} {last : Int}, mH last f → ∀ j ∈ f, last < j.At ∧ j.At < 1125899906842624 ∧ j.Net ≠ 0 ∧ j.Net ≤ 1048576 ∧ -1048576 ≤ j.Net
  | [], _, _, j, hj => by simp at hj
  | a :: r, last, h, j, hj => by
    rcases List.mem_cons.1 hj with rfl | hj
    · exact h.1
    · have := h.2.above j hj
      have h1 := h.1.1
      exact ⟨by omega, this.2⟩

def val (f : List aB) (t : Int) : Int := (f.map fun j => if j.At ≤ t then j.Net else 0).sum

theorem nF (t : Int) : val [] t = 0 := rfl

theorem cC (j : aB) (r : List aB) (t : Int) : val (j :: r) t = (if j.At ≤ t then j.Net else 0) + val r t := by simp [val]

theorem oH (f g : List aB) (t : Int) : val (f ++ g) t = val f t + val g t := by simp [val]

theorem IV : ∀ {f : List aB} {b : Int} (t : Int), 0 ≤ b → (∀ j ∈ f, j.Net ≤ b ∧ -b ≤ j.Net) → val f t ≤ b * f.length ∧ -(b * f.length) ≤ val f t
  | [], b, t, _, _ => by simp [val]
  | j :: r, b, t, hb, h => by
    obtain ⟨h1, h2⟩ := IV t hb (fun k hk => h k (List.mem_cons_of_mem _ hk))
    have h3 := h j (List.mem_cons_self ..)
    rw [cC]
    simp only [List.length_cons, Int.natCast_add, Int.natCast_one, Int.mul_add, Int.mul_one]
    split <;> omega

theorem rK {f : List aB} {t : Int} (h : ∀ j ∈ f, t < j.At) : val f t = 0 := by
  induction f with
  | nil => rfl
  | cons j r ih =>
    rw [cC, ih (fun k hk => h k (List.mem_cons_of_mem _ hk))]
    have := h j (List.mem_cons_self ..)
    rw [if_neg (by omega)]; rfl

theorem XM (f : List aB) : nB f = some (if eB f then (f, 0) else ([], 7)) := by
  unfold nB
  rw [zC]
  cases h : eB f <;> simp

end Go.Abs
namespace Go.Abs
open Go
section both
variable {op : Int → Int → Option Int} {f g r : List aB} {out : List aB} {a b was t : Int} {j : aB}
end both
def emit (p v was : Int) : List aB := if v = was then [] else [⟨p, v - was⟩]

def vJ (was : Int) : List (Int × Int) → List aB
  | [] => []
  | x :: r => emit x.1 x.2 was ++ vJ x.2 r

def merge (f g : List aB) (a b : Int) : List (Int × Int × Int) :=
  match f, g with
  | [], [] => []
  | j :: f, [] => (j.At, a + j.Net, b) :: merge f [] (a + j.Net) b
  | [], k :: g => (k.At, a, b + k.Net) :: merge [] g a (b + k.Net)
  | j :: f, k :: g =>
    if j.At < k.At then (j.At, a + j.Net, b) :: merge f (k :: g) (a + j.Net) b
    else if k.At < j.At then (k.At, a, b + k.Net) :: merge (j :: f) g a (b + k.Net)
    else (j.At, a + j.Net, b + k.Net) :: merge f g (a + j.Net) (b + k.Net)

termination_by f.length + g.length
end Go.Abs
namespace Go.Abs
open Go
def comb (OP : Int → Int → Int) (f g : List aB) : List aB := vJ 0 ((merge f g 0 0).map fun x => (x.1, OP x.2.1 x.2.2))

def told (f : List aB) : List aB × Int := if eB f then (f, 0) else ([], 7)

theorem FG (f : List aB) : nB f = some (told f) := XM f

def two (OP : Int → Int → Int) (f g : List aB) : List aB × Int := if eB f && eB g then told (comb OP f g) else ([], 2)

end Go.Abs
namespace Go.Abs
open Go
theorem WK (p v was t : Int) : val (emit p v was) t = if p ≤ t then v - was else 0 := by
  unfold emit
  by_cases h : v = was
  · rw [if_pos h, nF, h]; split <;> omega
  · rw [if_neg h, cC, nF]; simp

theorem mH.uZ {l t : Int} {f : List aB} (h : mH l f) (ht : t ≤ l) : val f t = 0 := rK fun j hj => by have := (h.above j hj).1; omega

theorem KC {f : List aB} (hf : eB f = true) (t : Int) : val f t ≤ 1073741824 ∧ -1073741824 ≤ val f t := by
  obtain ⟨h1, h2⟩ := iP.1 hf
  have := IV t (b := 1048576) (by omega) (fun j hj => by have := h2.above j hj; omega) (f := f)
  omega

end Go.Abs
namespace Go.Abs
open Go
def lV (f : List aB) : Int := (f.map aB.Net).sum

theorem BQ (j : aB) (f : List aB) : lV (j :: f) = j.Net + lV f := by simp [lV]

def cW (t : Int) : List aB → List aB
  | [] => []
  | j :: r => if t ≤ j.At then [] else j :: cW t r

def aft (t : Int) : List aB → List aB
  | [] => []
  | j :: r => if t ≤ j.At then j :: r else aft t r

theorem xP (t : Int) : ∀ f : List aB, cW t f ++ aft t f = f
  | [] => rfl
  | j :: r => by
    unfold cW aft
    split
    · rfl
    · simp [xP t r]

theorem zK {t : Int} : ∀ {f : List aB}, ∀ j ∈ cW t f, j.At < t
  | [], j, h => by simp [cW] at h
  | k :: r, j, h => by
    unfold cW at h
    split at h
    · simp at h
    · rcases List.mem_cons.1 h with rfl | h
      · omega
      · exact zK j h

theorem LH {t l : Int} : ∀ {f : List aB}, mH l f → ∀ j ∈ aft t f, t ≤ j.At
  | [], _, j, h => by simp [aft] at h
  | k :: r, hr, j, h => by
    unfold aft at h
    split at h
    · rcases List.mem_cons.1 h with rfl | h
      · assumption
      · have := (hr.2.above j h).1; omega
    · exact LH hr.2 j h

theorem HE {f : List aB} {t : Int} (h : ∀ j ∈ f, j.At ≤ t) : val f t = lV f := by
  induction f with
  | nil => rfl
  | cons j r ih => rw [cC, BQ, if_pos (h j (List.mem_cons_self ..)), ih fun k hk => h k (List.mem_cons_of_mem _ hk)]

theorem EV (t : Int) : ∀ f : List aB, (cW t f).length ≤ f.length
  | [] => by simp [cW]
  | j :: r => by
    unfold cW
    split
    · simp
    · simpa using EV t r

theorem NZ {l t p : Int} {f : List aB} (hf : mH l f) (hp : p < t) : val f p = val (cW t f) p := by
  conv => lhs; rw [← xP t f]
  rw [oH, rK (f := aft t f) (fun j hj => by have := LH hf j hj; omega)]
  omega

theorem XS {l t p : Int} {f : List aB} (hf : mH l f) (hp : t ≤ p) : val f p = lV (cW t f) + val (aft t f) p := by
  conv => lhs; rw [← xP t f]
  rw [oH, HE (fun j hj => by have := zK j hj; omega)]

theorem JE {l t : Int} {f : List aB} (hf : mH l f) : lV (cW t f) = val f (t - 1) := by
  rw [NZ hf (p := t - 1) (t := t) (by omega), HE (fun j hj => by have := zK j hj; omega)]

theorem RC {t : Int} (f : List aB) : ∀ (l v : Int) (out : List aB), mH l f → v ≤ 1048576 * (2048 - f.length) → -(1048576 * (2048 - f.length)) ≤ v → f.length ≤ 1024 →
    mM (fun (s : List aB × Int) (j : aB) => some (if t ≤ j.At then .inr s else .inl (s.1 ++ [j], IntKind.i64.wrap (s.2 + j.Net)))) (fun s => s) (out, v) f = some (out ++ cW t f, v + lV (cW t f)) := by
  induction f with
  | nil => intro l v out _ _ _ _; simp [mM, cW, lV]
  | cons j r ih =>
    intro l v out h h1 h2 hl
    simp only [List.length_cons] at h1 h2 hl
    have hj1 := h.1
    by_cases hj : t ≤ j.At
    · rw [AI (x := (out, v)) (by simp [hj])]
      simp [cW, hj, lV]
    · have hw : IntKind.i64.wrap (v + j.Net) = v + j.Net := iN (by omega) (by omega)
      rw [AH (s' := (out ++ [j], v + j.Net)) (by simp [hj, hw])]
      rw [ih j.At (v + j.Net) (out ++ [j]) h.2 (by omega) (by omega) (by omega)]
      have : cW t (j :: r) = j :: cW t r := by simp [cW, hj]
      rw [this, BQ]
      simp [Int.add_assoc]

def vW (t : Int) (f : List aB) : List aB := cW t f ++ (if lV (cW t f) = 0 then [] else [⟨t, -lV (cW t f)⟩])

def ahead (f : List aB) (t : Int) : List aB × Int :=
  if eB f then (if 1125899906842624 ≤ t then (f, 0) else told (vW t f)) else ([], 2)

theorem NX {f : List aB} (hl : f.length ≤ 1024) : bY f = some f := by
  unfold bY
  exact bC ⟨by omega, by omega⟩

theorem QW {f : List aB} (hf : eB f = true) (t : Int) : lV (cW t f) ≤ 1073741824 ∧ -1073741824 ≤ lV (cW t f) := by
  rw [JE (iP.1 hf).2]
  exact KC hf _

theorem VO (f : List aB) (t : Int) : rI f t = some (ahead f t) := by
  unfold rI ahead
  rw [zC]
  simp only [Option.bind_some]
  cases h : eB f
  · simp
  · obtain ⟨hl, hr⟩ := iP.1 h
    simp only [Bool.not_true, cond_false, if_true]
    by_cases ht : 1125899906842624 ≤ t
    · simp [ht, NX hl]
    · rw [decide_eq_false ht, cond_false, if_neg ht]
      unfold tA
      have key := IW (l := f) (body := fun s : List aB × Int × Int => iI t f (f.length : Nat) s.1 s.2.1 s.2.2) (fun (s : List aB × Int) i => (s.1, s.2, i)) _ _ (fun i s => s.1.length = i)
        (fun i a s hi ha => by
          obtain ⟨d1, d2, d3, d4⟩ := idx ha (by omega)
          have hlt : i < f.length := (List.getElem?_eq_some_iff.1 ha).1
          have hb : iI t f (f.length : Nat) s.1 s.2 i = some (if t ≤ a.At then .inr s else .inl (s.1 ++ [a], IntKind.i64.wrap (s.2 + a.Net), ((i + 1 : Nat) : Int))) := by
            simp only [iI, d1, cond_true, bC d2, d3, d4]
            rw [bC (by simp only [List.length_cons, List.length_nil]; omega)]
            by_cases h : t ≤ a.At <;> simp [h]
          by_cases hh : t ≤ a.At
          · refine ⟨fun s' hs => by simp [hh] at hs, fun x hs => ?_⟩
            simp [hh] at hs; subst hs
            show iI t f (f.length : Nat) s.1 s.2 i = _
            rw [hb, if_pos hh]
          · refine ⟨fun s' hs => ?_, fun x hs => by simp [hh] at hs⟩
            simp [hh] at hs; subst hs
            refine ⟨by simp [hi], ?_⟩
            show iI t f (f.length : Nat) s.1 s.2 i = _
            rw [hb, if_neg hh])
        (fun s _ => by show iI t f (f.length : Nat) s.1 s.2 (f.length : Nat) = _; simp only [iI, lZ, cond_false]) (s := ([], 0)) rfl (RC (t := t) f (-2) 0 [] hr (by omega) (by omega) hl)
      rw [key]
      have hb := QW h t
      have hlen := EV t f
      have hw : IntKind.i64.wrap (0 - lV (cW t f)) = -lV (cW t f) := by rw [iN (by omega) (by omega)]; omega
      simp only [Option.bind_some, List.nil_append, Int.zero_add, oC, pO, vW, hw, FG]
      by_cases hv : lV (cW t f) = 0
      · simp [hv]
      · rw [bC (by simp only [List.length_cons, List.length_nil]; omega)]
        simp [hv]

end Go.Abs
namespace Go.Abs
open Go
theorem UI {t : Int} (f : List aB) : ∀ (l v : Int) (k : Nat), mH l f → v ≤ 1048576 * (2048 - f.length) → -(1048576 * (2048 - f.length)) ≤ v → f.length ≤ 1024 →
    mM (fun (s : Int × Nat) (j : aB) => some (if t ≤ j.At then .inr (s.1, ((s.2 : Nat) : Int)) else .inl (IntKind.i64.wrap (s.1 + j.Net), s.2 + 1))) (fun s => (s.1, ((s.2 : Nat) : Int))) (v, k) f = some (v + lV (cW t f), ((k + (cW t f).length : Nat) : Int)) := by
  induction f with
  | nil => intro l v k _ _ _ _; simp [mM, cW, lV]
  | cons j r ih =>
    intro l v k h h1 h2 hl
    simp only [List.length_cons] at h1 h2 hl
    have hj1 := h.1
    by_cases hj : t ≤ j.At
    · rw [AI (x := (v, ((k : Nat) : Int))) (by simp [hj])]
      simp [cW, hj, lV]
    · have hw : IntKind.i64.wrap (v + j.Net) = v + j.Net := iN (by omega) (by omega)
      rw [AH (s' := (v + j.Net, k + 1)) (by simp [hj, hw])]
      rw [ih j.At (v + j.Net) (k + 1) h.2 (by omega) (by omega) (by omega)]
      have : cW t (j :: r) = j :: cW t r := by simp [cW, hj]
      rw [this, BQ, List.length_cons]
      congr 2
      · omega
      · congr 1; omega

def vQ (t : Int) (f : List aB) : List aB := (if lV (cW t f) = 0 then [] else [⟨-1, lV (cW t f)⟩]) ++ aft t f

def rest (f : List aB) (t : Int) : List aB × Int :=
  if eB f then (if 1125899906842624 ≤ t then ([], 0) else if t ≤ -1 then (f, 0) else told (vQ t f)) else ([], 2)

theorem US (t : Int) (f : List aB) : List.drop (cW t f).length f = aft t f := by
  rw [show List.drop (cW t f).length f = List.drop (cW t f).length (cW t f ++ aft t f) by rw [xP]]
  exact List.drop_left

theorem XP (f : List aB) (t : Int) : sO f t = some (rest f t) := by
  unfold sO rest
  rw [zC]
  simp only [Option.bind_some]
  cases h : eB f
  · simp
  · obtain ⟨hl, hr⟩ := iP.1 h
    simp only [Bool.not_true, cond_false, if_true]
    by_cases ht : 1125899906842624 ≤ t
    · simp [ht]
    · rw [decide_eq_false ht, cond_false, if_neg ht]
      by_cases ht' : t ≤ -1
      · simp [ht', NX hl]
      · rw [decide_eq_false ht', cond_false, if_neg ht']
        unfold uE
        have key := IW (l := f) (body := fun s : Int × Int => kD f t s.1 s.2) (fun (s : Int × Nat) i => (s.1, i)) _ _ (fun i s => s.2 = i)
          (fun i a s hi ha => by
            obtain ⟨d1, d2, d3, d4⟩ := idx ha (by omega)
            have hb : kD f t s.1 i = some (if t ≤ a.At then .inr (s.1, ((s.2 : Nat) : Int)) else .inl (IntKind.i64.wrap (s.1 + a.Net), ((i + 1 : Nat) : Int))) := by
              simp only [kD, d1, Bool.true_and, d3, d4]
              rw [bC (fun _ => d2), bC d2, hi]
              by_cases h : t ≤ a.At
              · have : decide (a.At < t) = false := by simp; omega
                simp [h, this]
              · have : decide (a.At < t) = true := by simp; omega
                simp [h, this]
            by_cases hh : t ≤ a.At
            · refine ⟨fun s' hs => by simp [hh] at hs, fun x hs => ?_⟩
              simp [hh] at hs; subst hs
              show kD f t s.1 i = _
              rw [hb, if_pos hh]
            · refine ⟨fun s' hs => ?_, fun x hs => by simp [hh] at hs⟩
              simp [hh] at hs; subst hs
              refine ⟨by simp [hi], ?_⟩
              show kD f t s.1 i = _
              rw [hb, if_neg hh])
          (fun s hi => by
            show kD f t s.1 (f.length : Nat) = _
            simp only [kD, lZ, Bool.false_and, cond_false]
            rw [bC (fun h => by cases h), hi]) (s := (0, 0)) rfl (UI (t := t) f (-2) 0 0 hr (by omega) (by omega) hl)
        rw [key]
        have hlen := EV t f
        have hal : (aft t f).length ≤ f.length := by
          have := congrArg List.length (xP t f)
          simp only [List.length_append] at this
          omega
        have hto : ∀ n : Nat, Int.toNat (n : Int) = n := fun n => Int.toNat_natCast n
        simp only [Option.bind_some, Nat.zero_add, Int.zero_add, rJ, rH, vQ, hto, US, FG]
        by_cases hv : lV (cW t f) = 0
        · simp only [hv, decide_true, Bool.not_true, cond_false, if_true, List.nil_append]
          rw [bC ⟨by omega, by omega⟩, bC (by simp only [List.length_nil]; omega)]
        · simp only [hv, decide_false, Bool.not_false, cond_true, if_false]
          rw [bC (by simp), bC ⟨by omega, by omega⟩, bC (by simp only [List.length_cons, List.length_nil]; omega)]

end Go.Abs
namespace Go.Abs
open Go
def Up (last : Int) : List aB → Prop
  | [] => True
  | j :: r => (last < j.At ∧ j.At < 1125899906842624 ∧ j.Net ≠ 0) ∧ Up j.At r

theorem Up.above : ∀ {f : List aB} {last : Int}, Up last f → ∀ j ∈ f, last < j.At ∧ j.At < 1125899906842624 ∧ j.Net ≠ 0
  | [], _, _, j, hj => by simp at hj
  | a :: r, last, h, j, hj => by
    rcases List.mem_cons.1 hj with rfl | hj
    · exact h.1
    · have := h.2.above j hj
      have h1 := h.1.1
      exact ⟨by omega, this.2⟩

theorem Up.uZ {l t : Int} {f : List aB} (h : Up l f) (ht : t ≤ l) : val f t = 0 := rK fun j hj => by have := (h.above j hj).1; omega

theorem Up.weaken {a b : Int} {f : List aB} (h : Up b f) (hab : a ≤ b) : Up a f := by
  cases f with
  | nil => trivial
  | cons j r => exact ⟨⟨by have := h.1.1; omega, h.1.2⟩, h.2⟩

theorem mH.up : ∀ {f : List aB} {last : Int}, mH last f → Up last f
  | [], _, _ => trivial
  | _ :: _, _, h => ⟨⟨h.1.1, h.1.2.1, h.1.2.2.1⟩, h.2.up⟩

theorem Up.ext : ∀ {f g : List aB} {last : Int}, Up last f → Up last g → (∀ t, last < t → t < 1125899906842624 → val f t = val g t) → f = g
  | [], [], _, _, _, _ => rfl
  | j :: r, [], last, hf, _, h => by
    have := h j.At hf.1.1 hf.1.2.1
    rw [cC, if_pos (Int.le_refl _), hf.2.uZ (Int.le_refl _), nF] at this
    exact absurd (by omega) hf.1.2.2
  | [], k :: s, last, _, hg, h => by
    have := h k.At hg.1.1 hg.1.2.1
    rw [cC, if_pos (Int.le_refl _), hg.2.uZ (Int.le_refl _), nF] at this
    exact absurd (by omega) hg.1.2.2
  | j :: r, k :: s, last, hf, hg, h => by
    have h1 := h j.At hf.1.1 hf.1.2.1
    have h2 := h k.At hg.1.1 hg.1.2.1
    rw [cC, if_pos (Int.le_refl _), hf.2.uZ (Int.le_refl _), cC] at h1
    rw [cC, cC k, if_pos (Int.le_refl _), hg.2.uZ (Int.le_refl _)] at h2
    have n1 := hf.1.2.2
    have n2 := hg.1.2.2
    have he : j.At = k.At := by
      rcases Int.lt_trichotomy j.At k.At with h3 | h3 | h3
      · rw [if_neg (by omega), hg.2.uZ (by omega)] at h1; omega
      · exact h3
      · rw [if_neg (by omega), hf.2.uZ (by omega)] at h2; omega
    rw [if_pos (by omega), hg.2.uZ (by omega)] at h1
    have hj : j = k := by
      obtain ⟨a, b⟩ := j; obtain ⟨c, d⟩ := k
      simp only at he h1
      simp only [Int.add_zero] at h1
      rw [he, h1]
    subst hj
    rw [hf.2.ext hg.2 (fun t ht ht' => by
      have := h t (by have := hf.1.1; omega) ht'
      rw [cC, cC] at this; omega)]

def Inc (last : Int) : List Int → Prop
  | [] => True
  | p :: r => (last < p ∧ p < 1125899906842624) ∧ Inc p r

theorem Inc.above : ∀ {ps : List Int} {last : Int}, Inc last ps → ∀ p ∈ ps, last < p ∧ p < 1125899906842624
  | [], _, _, j, hj => by simp at hj
  | a :: r, last, h, j, hj => by
    rcases List.mem_cons.1 hj with rfl | hj
    · exact h.1
    · have := h.2.above j hj
      have h1 := h.1.1
      exact ⟨by omega, this.2⟩

theorem zS : ∀ {l : List (Int × Int)} {last was : Int}, Inc last (l.map Prod.fst) → Up last (vJ was l)
  | [], _, _, _ => trivial
  | x :: r, last, was, h => by
    simp only [vJ]
    have ih : Up x.1 (vJ x.2 r) := zS h.2
    have h1 : last < x.1 ∧ x.1 < 1125899906842624 := h.1
    unfold emit
    split
    · exact ih.weaken (by omega)
    · exact ⟨⟨h1.1, h1.2, by simp only; omega⟩, ih⟩

theorem CA {F : Int → Int} : ∀ {ps : List Int} {last : Int}, Inc last ps → (∀ s t, last ≤ s → s ≤ t → t < 1125899906842624 → (∀ p ∈ ps, ¬ (s < p ∧ p ≤ t)) → F s = F t) →
    ∀ t, last ≤ t → t < 1125899906842624 → val (vJ (F last) (ps.map fun p => (p, F p))) t = F t - F last
  | [], last, _, hF, t, h1, h2 => by
    have := hF last t (Int.le_refl _) h1 h2 (by simp)
    simp [vJ, val, this]
  | p :: r, last, hi, hF, t, h1, h2 => by
    simp only [List.map_cons, vJ]
    rw [oH, WK]
    by_cases hp : p ≤ t
    · rw [if_pos hp, CA (F := F) hi.2 (fun s t' hs hst ht' hn => hF s t' (by have := hi.1.1; omega) hst ht' (fun q hq => by
        rcases List.mem_cons.1 hq with rfl | hq
        · omega
        · exact hn q hq)) t hp h2]
      omega
    · have := hF last t (Int.le_refl _) h1 h2 (fun q hq => by
        rcases List.mem_cons.1 hq with rfl | hq
        · omega
        · have := (hi.2.above q hq).1; omega)
      rw [if_neg hp, Up.uZ (zS (last := p) (by rw [List.map_map]; simpa [Function.comp_def] using hi.2)) (by omega)]
      omega

theorem mH.restrict {l m : Int} {k : aB} {g : List aB} (h : mH l (k :: g)) (hm : m < k.At) : mH m (k :: g) := ⟨⟨hm, h.1.2⟩, h.2⟩

theorem SL {f : List aB} (h : eB f = true) : Up (-2) f := (iP.1 h).2.up

theorem VE {F : Int → Int} (h2 : F (-2) = 0) {ps : List Int} (hi : Inc (-2) ps) (hF : ∀ s t, -2 ≤ s → s ≤ t → t < 1125899906842624 → (∀ p ∈ ps, ¬ (s < p ∧ p ≤ t)) → F s = F t) {h : List aB} (hh : Up (-2) h) (hv : ∀ t, -2 < t → t < 1125899906842624 → val h t = F t) :
    vJ 0 (ps.map fun p => (p, F p)) = h := by
  refine (zS (by rw [List.map_map]; simpa [Function.comp_def] using hi)).ext hh fun t h3 h4 => ?_
  have := CA hi hF t (by omega) h4
  rw [h2] at this
  rw [this, hv t h3 h4]; omega

end Go.Abs
namespace Go.Abs
open Go
theorem VD {f : List aB} (h : eB f = true) : ∀ j ∈ f, j.Net ≤ 1048576 ∧ -1048576 ≤ j.Net := fun j hj => by have := (iP.1 h).2.above j hj; omega

def yF (t : Int) : List Int → List Int
  | [] => [t]
  | p :: r => if p = t then p :: r else if t < p then t :: p :: r else p :: yF t r

theorem ID {t x : Int} : ∀ {ps : List Int}, x ∈ yF t ps ↔ x = t ∨ x ∈ ps
  | [] => by simp [yF]
  | p :: r => by
    unfold yF
    split
    · rename_i h; subst h; simp
    · split
      · simp
      · simp only [List.mem_cons, ID (ps := r)]; constructor <;> (intro h; rcases h with h | h | h <;> simp [h])

theorem IK {t : Int} : ∀ {ps : List Int} {last : Int}, Inc last ps → last < t → t < 1125899906842624 → Inc last (yF t ps)
  | [], last, _, h1, h2 => ⟨⟨h1, h2⟩, trivial⟩
  | p :: r, last, h, h1, h2 => by
    unfold yF
    split
    · exact h
    · split
      · rename_i h3 h4
        exact ⟨⟨h1, h2⟩, ⟨h4, h.1.2⟩, h.2⟩
      · exact ⟨h.1, IK h.2 (by omega) h2⟩

def HD (ps : List Int) (f : List aB) : List Int := f.foldl (fun ps j => yF j.At ps) ps

theorem EP {x : Int} : ∀ {f : List aB} {ps : List Int}, x ∈ HD ps f ↔ x ∈ ps ∨ ∃ j ∈ f, j.At = x
  | [], ps => by simp [HD]
  | k :: r, ps => by
    have := EP (x := x) (f := r) (ps := yF k.At ps)
    unfold HD at this ⊢
    rw [List.foldl_cons, this, ID]
    constructor
    · rintro ((h | h) | ⟨j, h, h'⟩)
      · exact Or.inr ⟨k, List.mem_cons_self .., h.symm⟩
      · exact Or.inl h
      · exact Or.inr ⟨j, List.mem_cons_of_mem _ h, h'⟩
    · rintro (h | ⟨j, h, h'⟩)
      · exact Or.inl (Or.inr h)
      · rcases List.mem_cons.1 h with rfl | h
        · exact Or.inl (Or.inl h'.symm)
        · exact Or.inr ⟨j, h, h'⟩

theorem LW : ∀ {f : List aB} {ps : List Int} {last : Int}, Inc last ps → (∀ j ∈ f, last < j.At ∧ j.At < 1125899906842624) → Inc last (HD ps f)
  | [], _, _, h, _ => h
  | k :: r, ps, last, h, hf => by
    have hk := hf k (List.mem_cons_self ..)
    exact LW (f := r) (IK h hk.1 hk.2) fun j hj => hf j (List.mem_cons_of_mem _ hj)

end Go.Abs
namespace Go.Abs
open Go
def mn (a b : Int) : Int := if b < a then b else a

def parts (v : Int) : List aB → List Int
  | [] => []
  | j :: r => (v + j.Net) :: parts (v + j.Net) r

def zB (f : List aB) : Int := (f.map fun j => val f j.At).foldl mn (val f (-1))

theorem parts_eq : ∀ {f : List aB} {l v : Int}, mH l f → parts v f = f.map fun j => v + val f j.At
  | [], _, _, _ => rfl
  | j :: r, l, v, h => by
    simp only [parts, List.map_cons]
    rw [parts_eq h.2, cC, if_pos (Int.le_refl _), h.2.uZ (Int.le_refl _), Int.add_zero]
    congr 1
    apply List.map_congr_left
    intro k hk
    have := (h.2.above k hk).1
    rw [cC, if_pos (by omega)]; omega

theorem TU {j : aB} {r : List aB} (h : mH (-2) (j :: r)) : val (j :: r) (-1) = if j.At = -1 then j.Net else 0 := by
  have := h.1.1
  by_cases e : j.At = -1
  · rw [if_pos e, cC, if_pos (by omega), h.2.uZ (by omega)]; omega
  · rw [if_neg e, rK]
    intro k hk
    rcases List.mem_cons.1 hk with rfl | hk
    · omega
    · have := (h.2.above k hk).1; omega

theorem GL {f : List aB} (hf : eB f = true) (m : Int) (hm : -1125899906842624 ≤ m ∧ m ≤ 1125899906842624) : qC 0 m f (f.length : Nat) 0 = some ((f.map fun j => val f j.At).foldl mn m) := by
  obtain ⟨hl, hr⟩ := iP.1 hf
  unfold qC
  rw [HM (l := f) (body := fun s : Int × Int × Int => lK f (f.length : Nat) s.1 s.2.1 s.2.2) (fun (s : Int × Int) i => (s.1, s.2, i)) (fun s r => (parts s.1 r).foldl mn s.2)
    (fun s r => (∀ j ∈ r, j.Net ≤ 1048576 ∧ -1048576 ≤ j.Net) ∧ r.length ≤ 1024 ∧ s.1 ≤ 1048576 * (1024 - r.length) ∧ -(1048576 * (1024 - r.length)) ≤ s.1) (0, m) ?_ ?_ ?_]
  · simp only [Option.bind_some, qB, parts_eq hr, Int.zero_add]
  · rintro i a r ⟨v, m⟩ ha ⟨h1, h2, h3, h4⟩
    obtain ⟨d1, d2, d3, d4⟩ := idx ha (by omega)
    have hj := h1 a (List.mem_cons_self ..)
    simp only [List.length_cons] at h2 h3 h4
    have hw : IntKind.i64.wrap (v + a.Net) = v + a.Net := iN (by omega) (by omega)
    left
    refine ⟨(v + a.Net, mn m (v + a.Net)), ?_, ⟨fun j hj => h1 j (List.mem_cons_of_mem _ hj), by omega, by simp only; omega, by simp only; omega⟩, rfl⟩
    show lK f (f.length : Nat) v m i = _
    simp only [lK, d1, cond_true, bC d2, d3, d4, hw, mn]
  · rintro ⟨v, m⟩ _
    show lK f (f.length : Nat) v m (f.length : Nat) = _
    simp only [lK, lZ, cond_false, parts, List.foldl_nil]
  · exact ⟨VD hf, hl, by simp only; omega, by simp only; omega⟩

theorem VL (f : List aB) : rM f = some (if eB f then zB f else 0) := by
  unfold rM
  rw [zC]
  cases h : eB f
  · simp
  · cases f with
    | nil => simp [zB, val]
    | cons j r =>
      obtain ⟨hl, hr⟩ := iP.1 h
      have hne : decide (((List.length (j :: r) : Nat) : Int) = 0) = false := by simp; omega
      simp only [Option.bind_some, Bool.not_true, Bool.false_or, hne, cond_false, bC aAb, ZM, if_true]
      have hj := hr.1
      unfold zB
      rw [TU hr]
      by_cases e : j.At = -1
      · simp only [e, decide_true, cond_true, if_true, nR]
        exact GL h j.Net (by omega)
      · simp only [e, decide_false, cond_false, if_false, nR]
        exact GL h 0 (by omega)

theorem xT {s t : Int} (hst : s ≤ t) : ∀ {f : List aB}, (∀ j ∈ f, ¬ (s < j.At ∧ j.At ≤ t)) → val f s = val f t
  | [], _ => rfl
  | j :: r, h => by
    have hj := h j (List.mem_cons_self ..)
    rw [cC, cC, xT hst (fun k hk => h k (List.mem_cons_of_mem _ hk))]
    by_cases e : j.At ≤ s
    · rw [if_pos e, if_pos (by omega)]
    · rw [if_neg e, if_neg (by omega)]

theorem DI : eB [] = true := by decide

theorem MU {t l' : Int} (hl : l' < t) : ∀ {f : List aB} {l : Int}, mH l f → Up l' (aft t f)
  | [], _, _ => trivial
  | j :: r, l, h => by
    unfold aft
    split
    · exact (h.restrict (m := l') (by omega)).up
    · exact MU hl h.2

theorem GR {f : List aB} {t : Int} (hf : eB f = true) (p : Int) : val (vW t f) p = if p < t then val f p else 0 := by
  unfold vW
  by_cases hp : p < t
  · rw [if_pos hp, NZ (iP.1 hf).2 hp, oH]
    split
    · simp [val]
    · rw [cC, nF]; simp; omega
  · rw [if_neg hp, oH, HE (fun j hj => by have := zK j hj; omega)]
    split
    · rename_i h0; rw [h0]; simp [val]
    · rw [cC, nF, if_pos (show (⟨t, -lV (cW t f)⟩ : aB).At ≤ p by show t ≤ p; omega)]; simp; omega

theorem VI {f : List aB} {t : Int} (hf : eB f = true) (ht : -1 < t) : Up (-2) (vQ t f) := by
  have hr := (iP.1 hf).2
  unfold vQ
  split
  · simpa using MU (l' := -2) (by omega) hr
  · rename_i hn
    exact ⟨⟨by show (-2 : Int) < -1; omega, by show (-1 : Int) < _; omega, hn⟩, MU (l' := -1) ht hr⟩

theorem TV {f : List aB} {t : Int} (hf : eB f = true) (p : Int) (hp : -1 ≤ p) : val (vQ t f) p = val f (if p < t then t - 1 else p) := by
  have hr := (iP.1 hf).2
  unfold vQ
  rw [oH]
  have e1 : val (if lV (cW t f) = 0 then [] else [⟨-1, lV (cW t f)⟩]) p = lV (cW t f) := by
    split
    · rename_i h0; rw [h0]; rfl
    · rw [cC, nF, if_pos (show (⟨-1, lV (cW t f)⟩ : aB).At ≤ p from hp)]; simp
  rw [e1]
  by_cases h : p < t
  · rw [if_pos h, rK (f := aft t f) (fun j hj => by have := LH hr j hj; omega), ← JE hr]; omega
  · rw [if_neg h, XS hr (t := t) (by omega)]

end Go.Abs
namespace Go.Abs
open Go
theorem w1 : IntKind.i64.wrap (0 + 1) = 1 := by rw [iN] <;> omega

theorem w2 : IntKind.i64.wrap (1 + 1) = 2 := by rw [iN] <;> omega

theorem w3 : IntKind.i64.wrap (1 - 1) = 0 := by rw [iN] <;> omega

theorem v0 : IntKind.i64.wrap 0 = 0 := by rw [iN] <;> omega

theorem v1 : IntKind.i64.wrap 1 = 1 := by rw [iN] <;> omega

theorem v2 : IntKind.i64.wrap 2 = 2 := by rw [iN] <;> omega

theorem v3 : IntKind.i64.wrap (-1) = -1 := by rw [iN] <;> omega

end Go.Abs
namespace Go.Abs
open Go
theorem ET (f : List aB) : (told f).1.length ≤ 1024 := by
  unfold told
  cases h : eB f
  · simp
  · simpa using (iP.1 h).1

theorem UQ (f : List aB) (t : Int) : (ahead f t).1.length ≤ 1024 := by
  unfold ahead
  split
  · split
    · exact (iP.1 (by assumption)).1
    · exact ET _
  · simp

theorem WI (f : List aB) (t : Int) : (rest f t).1.length ≤ 1024 := by
  unfold rest
  split
  · split
    · simp
    · split
      · exact (iP.1 (by assumption)).1
      · exact ET _
  · simp

end Go.Abs
namespace Go.Abs
theorem VB : @cS = @lY aB _ := rfl

theorem TZ : @dB = @dG aB _ := rfl

theorem QF (cmp) : ∀ k, @fI cmp k = @dI aB _ cmp k
  | 0 => rfl
  | k + 1 => by
    show dB cmp _ = dG cmp _
    rw [QF cmp k, TZ]

theorem WA : @dN = @mX aB _ := by
  funext d a m b cmp
  unfold dN mX
  simp only [QF]

theorem OW : @eC = @tS aB _ := by
  funext d n cmp
  unfold eC tS fT vU
  unfold gC kW dY vI
  unfold gL vT gM iJ
  unfold gK sH fW kT
  unfold dV sU
  rw [WA, VB]
  rfl

end Go.Abs
namespace Go.Abs
open Go
variable {α : Type} [Inhabited α]
noncomputable def nE (f1 : α → Option Bool) (s0 : (List α)) (t7 : Int) (t8 : Int) : Option ((Int) ⊕ (Unit ⊕ Int)) :=
  cond (decide (t8 < t7))
  (bE (0 ≤ t8 ∧ t8 < ((List.length s0 : Nat) : Int)) <|
  (f1 (List.getD s0 (Int.toNat t8) default)).bind fun x2 =>
  cond x2
  (some (.inr (.inr t8)))
  (some (.inl (IntKind.i64.wrap (t8 + (1 : Int))))))
  (some (.inr (.inl ())))

theorem BA {l : List α} {f : α → Option Bool} {g : α → Bool} (hl : l.length ≤ 1099511627776) (hf : ∀ x ∈ l, f x = some (g x)) : ∀ (r : List α) (k : Nat), l.drop k = r → k ≤ l.length →
    ∃ x, lp (fun s => nE f l (l.length : Nat) s) (k : Int) = some x ∧ ((x = .inl () ∧ r.any g = false) ∨ (∃ i : Nat, x = .inr (i : Int) ∧ k ≤ i ∧ i < l.length ∧ r.any g = true ∧ g (l.getD i default) = true ∧ ∀ j, k ≤ j → j < i → g (l.getD j default) = false))
  | [], k, hd, hk => by
    have : k = l.length := by
      have := congrArg List.length hd
      simp only [List.length_drop, List.length_nil] at this; omega
    subst this
    refine ⟨.inl (), cI ?_, Or.inl ⟨rfl, rfl⟩⟩
    show nE f l _ _ = _
    simp only [nE, lZ, cond_false]
  | a :: r, k, hd, hk => by
    obtain ⟨h1, h2⟩ := drop_cons hd
    have hlt : k < l.length := (List.getElem?_eq_some_iff.1 h1).1
    obtain ⟨d1, d2, d3, d4⟩ := idx h1 (by omega)
    have hga : l.getD k default = a := by rw [Int.toNat_natCast] at d3; exact d3
    have hb : (fun s => nE f l (l.length : Nat) s) (k : Int) = some (if g a then .inr (.inr (k : Int)) else .inl ((k + 1 : Nat) : Int)) := by
      show nE f l _ _ = _
      simp only [nE, d1, cond_true, bC d2, d3, d4, hf a (List.mem_of_getElem? h1), Option.bind_some]
      cases g a <;> simp
    cases hg : g a
    · rw [hg] at hb
      obtain ⟨x, e, hx⟩ := BA hl hf r (k + 1) h2 (by omega)
      refine ⟨x, by rw [eT hb]; exact e, ?_⟩
      rcases hx with ⟨rfl, h⟩ | ⟨i, rfl, h3, h4, h5, h6, h7⟩
      · exact Or.inl ⟨rfl, by simp [hg, h]⟩
      · refine Or.inr ⟨i, rfl, by omega, h4, by simp [h5], h6, fun j hj hj' => ?_⟩
        by_cases e : j = k
        · subst e; rw [hga, hg]
        · exact h7 j (by omega) hj'
    · rw [hg] at hb
      exact ⟨.inr (k : Int), cI hb, Or.inr ⟨k, rfl, Nat.le_refl _, hlt, by simp [hg], by rw [hga, hg], fun j h h' => by omega⟩⟩

end Go.Abs
namespace Go.Abs
open Go
theorem CX {l : List aB} {f : aB → Option Bool} {g : aB → Bool} (hl : l.length ≤ 1099511627776) (hf : ∀ x ∈ l, f x = some (g x)) : cF l f = some (l.any g) := by
  unfold cF eO eJ
  obtain ⟨x, e, hx⟩ := BA hl hf l 0 rfl (Nat.zero_le _)
  have e' : lp (fun s => eG f l (l.length : Nat) s) 0 = some x := e
  rw [e']
  rcases hx with ⟨rfl, h⟩ | ⟨i, rfl, _, _, h, _⟩
  · simp [cY, h]
  · simp [h]

def uA (j : aB) : Bool := !DM j.Net

def yJ (j : aB) : Bool := decide (j.At < -1) || decide (1125899906842624 < j.At)

def uO (l : List aB) : List aB := vJ 0 ((HD [] (l.filter fun j => decide (j.At < 1125899906842624))).map fun p => (p, val l p))

def jW (l : List aB) : List aB × Int := if l.any uA then ([], 2) else if l.any yJ then ([], 13) else told (uO l)

def wG (p n : Int) : List aB := if n ≠ 0 ∧ p < 1125899906842624 then [⟨p, n⟩] else []

def sF (p n : Int) : List aB → List aB
  | [] => wG p n
  | j :: r => if j.At = p then sF p (n + j.Net) r else wG p n ++ sF j.At j.Net r

def grp : List aB → List aB
  | [] => []
  | j :: r => sF j.At j.Net r

abbrev LS (a b : aB) : Prop := a.At ≤ b.At

theorem FA {t : Int} (ht : t < 1125899906842624) : ∀ {r : List aB} {p n : Int}, val (sF p n r) t = (if p ≤ t then n else 0) + val r t
  | [], p, n => by
    unfold sF wG
    split
    · rw [cC, nF]
    · rw [nF]; split <;> omega
  | j :: r, p, n => by
    unfold sF
    split
    · rename_i h
      rw [FA ht, cC, h]; split <;> omega
    · rw [oH, FA ht, cC]
      have : val (wG p n) t = if p ≤ t then n else 0 := by
        unfold wG
        split
        · rw [cC, nF]; simp
        · rw [nF]; split <;> omega
      rw [this]

theorem YB {t : Int} (ht : t < 1125899906842624) : ∀ {r : List aB}, val (grp r) t = val r t
  | [] => rfl
  | j :: r => by unfold grp; rw [FA ht, cC]

theorem HF : ∀ {r : List aB} {p n last : Int}, last < p → (∀ j ∈ r, p ≤ j.At) → Srt LS r → Up last (sF p n r)
  | [], p, n, last, h, _, _ => by
    unfold sF wG
    split
    · rename_i h'; exact ⟨⟨h, h'.2, h'.1⟩, trivial⟩
    · trivial
  | j :: r, p, n, last, h, hp, hs => by
    have hj := hp j (by simp)
    have hs' := List.pairwise_cons.1 hs
    unfold sF
    split
    · exact HF h (fun k hk => hp k (by simp [hk])) hs'.2
    · have ih : Up p (sF j.At j.Net r) := HF (by omega) (fun k hk => hs'.1 k hk) hs'.2
      unfold wG
      split
      · rename_i h'; exact ⟨⟨h, h'.2, h'.1⟩, ih⟩
      · exact ih.weaken (by omega)

theorem ZG {r : List aB} (h : ∀ j ∈ r, -2 < j.At) (hs : Srt LS r) : Up (-2) (grp r) := by
  cases r with
  | nil => trivial
  | cons j r =>
    have hs' := List.pairwise_cons.1 hs
    exact HF (h j (by simp)) (fun k hk => hs'.1 k hk) hs'.2

theorem NO {l out : List aB} (hl : l.length ≤ 1099511627776) (hb : ∀ j ∈ l, j.Net ≤ 1048576 ∧ -1048576 ≤ j.Net) : ∀ (r : List aB) (k : Nat) (p n : Int), l.drop k = r → k ≤ l.length → n ≤ 1048576 * k → -(1048576 * k) ≤ n →
    ∃ n' k', k ≤ k' ∧ k' ≤ l.length ∧ sF p n r = wG p n' ++ grp (l.drop k') ∧ lp (fun s : List aB × List aB × Int × aB => iF s.1 s.2.1 s.2.2.1 s.2.2.2) (l, out, (k : Int), ⟨p, n⟩) = some (l, out, ((k' : Nat) : Int), ⟨p, n'⟩) ∧ (∀ j r', r = j :: r' → j.At = p → k < k')
  | [], k, p, n, hd, hk, _, _ => by
    have : k = l.length := by
      have := congrArg List.length hd
      simp only [List.length_drop, List.length_nil] at this; omega
    subst this
    refine ⟨n, l.length, Nat.le_refl _, Nat.le_refl _, by simp [sF, grp], cI ?_, fun j r' h => by cases h⟩
    show iF _ _ _ _ = _
    simp only [iF, lZ, Bool.false_and, cond_false]
    exact bC (fun h => by cases h)
  | a :: r, k, p, n, hd, hk, h1, h2 => by
    obtain ⟨e1, e2⟩ := drop_cons hd
    have hlt : k < l.length := (List.getElem?_eq_some_iff.1 e1).1
    obtain ⟨d1, d2, d3, d4⟩ := idx e1 (by omega)
    have ha := hb a (List.mem_of_getElem? e1)
    by_cases h : a.At = p
    · have hw : IntKind.i64.wrap (n + a.Net) = n + a.Net := iN (by omega) (by omega)
      obtain ⟨n', k', k1, k2, k3, k4, _⟩ := NO hl hb r (k + 1) p (n + a.Net) e2 (by omega) (by omega) (by omega) (out := out)
      refine ⟨n', k', by omega, k2, by simp [sF, h, k3], ?_, fun _ _ _ _ => by omega⟩
      have hb : (fun s : List aB × List aB × Int × aB => iF s.1 s.2.1 s.2.2.1 s.2.2.2) (l, out, (k : Int), ⟨p, n⟩) = some (.inl (l, out, ((k + 1 : Nat) : Int), ⟨p, n + a.Net⟩)) := by
        show iF _ _ _ _ = _
        simp only [iF, d1, Bool.true_and, d3, d4, h, decide_true, cond_true, hw]
        rw [bC (fun _ => d2), bC d2]
      rw [eT hb, k4]
    · refine ⟨n, k, Nat.le_refl _, hk, ?_, cI ?_, fun j r' he hp => ?_⟩
      · rw [hd]; simp [sF, h, grp]
      · show iF _ _ _ _ = _
        simp only [iF, d1, Bool.true_and, d3, h, decide_false, cond_false]
        exact bC (fun _ => d2)
      · cases he; exact absurd hp h

theorem WO {l : List aB} (hl : l.length ≤ 1099511627776) (hb : ∀ j ∈ l, j.Net ≤ 1048576 ∧ -1048576 ≤ j.Net) : ∀ (m k : Nat) (out : List aB), l.length - k ≤ m → k ≤ l.length → out.length ≤ k →
    lp (fun s : List aB × List aB × Int => kB s.1 s.2.1 s.2.2) (l, out, (k : Int)) = some (out ++ grp (l.drop k)) := by
  have stop : ∀ out, lp (fun s : List aB × List aB × Int => kB s.1 s.2.1 s.2.2) (l, out, ((l.length : Nat) : Int)) = some (out ++ grp (l.drop l.length)) := by
    intro out
    refine cI ?_
    show kB _ _ _ = _
    simp only [kB, lZ, cond_false]
    simp [grp]
  intro m
  induction m with
  | zero =>
    intro k out hm hk _
    have : k = l.length := by omega
    subst this; exact stop out
  | succ m ih =>
    intro k out hm hk ho
    by_cases he : k = l.length
    · subst he; exact stop out
    · have hlt : k < l.length := by omega
      have hd : l.drop k = l[k] :: l.drop (k + 1) := List.drop_eq_getElem_cons hlt
      obtain ⟨d1, d2, d3, d4⟩ := idx (List.getElem?_eq_getElem hlt) (by omega)
      obtain ⟨n', k', k1, k2, k3, k4, k5⟩ := NO hl hb (l.drop k) k l[k].At 0 rfl hk (by omega) (by omega) (out := out)
      have hk' := k5 _ _ hd rfl
      have hbod : (fun s : List aB × List aB × Int => kB s.1 s.2.1 s.2.2) (l, out, (k : Int)) = some (.inl (l, out ++ wG l[k].At n', ((k' : Nat) : Int))) := by
        show kB _ _ _ = _
        simp only [kB, d1, cond_true, bC d2, d3, uQ, k4, Option.bind_some, rA]
        unfold wG
        by_cases c : n' ≠ 0 ∧ l[k].At < 1125899906842624
        · have hc : (!decide (n' = 0) && decide (l[k].At < 1125899906842624)) = true := by simp [c]
          rw [hc, cond_true, if_pos c, bC (by simp only [List.length_cons, List.length_nil]; omega)]
        · have hc : (!decide (n' = 0) && decide (l[k].At < 1125899906842624)) = false := by
            rw [Bool.eq_false_iff]; intro h; apply c; simpa using h
          rw [hc, cond_false, if_neg c]; simp
      have hfl : (wG l[k].At n').length ≤ 1 := by unfold wG; split <;> simp
      rw [eT hbod, ih k' _ (by omega) k2 (by simp only [List.length_append]; omega)]
      have hg : grp (l.drop k) = sF l[k].At 0 (l.drop k) := by rw [hd]; simp [grp, sF]
      rw [hg, k3]; simp

theorem XZ (a b : aB) : lM a b = some (if a.At < b.At then -1 else if b.At < a.At then 1 else 0) := by
  unfold lM hM mK
  by_cases h1 : a.At < b.At
  · simp [h1]
  · by_cases h2 : b.At < a.At <;> simp [h1, h2]

theorem aAe : Cmp (fun _ => True) LS (fun y0 y1 => lM y0 y1) where
  ans x y _ _ := ⟨_, XZ x y, by unfold LS; split <;> (try split) <;> omega⟩
  trans x y z _ _ _ h1 h2 := Int.le_trans h1 h2
  total x y _ _ := Int.le_total x.At y.At

theorem ZZ {l : List aB} (hl : l.length ≤ 1099511627776) : ∃ r, r.Perm l ∧ Srt LS r ∧ cK l (fun y0 y1 => lM y0 y1) = some r := by
  obtain ⟨r, r1, r2, r3⟩ := IL aAe (d := l) (fun _ _ => trivial) hl
  refine ⟨r, r1, r2, ?_⟩
  unfold cK
  rw [OW, r3]; rfl

theorem OD {f g : List aB} (h : f.Perm g) (t : Int) : val f t = val g t := by
  induction h with
  | nil => rfl
  | cons x _ ih => rw [cC, cC, ih]
  | swap x y l => rw [cC, cC, cC, cC]; omega
  | trans _ _ ih1 ih2 => rw [ih1, ih2]

theorem RX {l : List aB} (h : l.any uA = false) : ∀ j ∈ l, j.Net ≤ 1048576 ∧ -1048576 ≤ j.Net := by
  intro j hj
  have := List.any_eq_false.1 h j hj
  simp [uA, DM] at this
  omega

theorem xF {l : List aB} (h : l.any yJ = false) : ∀ j ∈ l, -2 < j.At ∧ j.At ≤ 1125899906842624 := by
  intro j hj
  have := List.any_eq_false.1 h j hj
  simp [yJ] at this
  omega

theorem CE {l : List aB} (ht : ∀ j ∈ l, -2 < j.At) : Inc (-2) (HD [] (l.filter fun j => decide (j.At < 1125899906842624))) :=
  LW (ps := []) (show Inc (-2) [] from trivial) fun j hj => by
    obtain ⟨h1, h2⟩ := List.mem_filter.1 hj
    exact ⟨ht j h1, by simpa using h2⟩

theorem NK {l h : List aB} (ht : ∀ j ∈ l, -2 < j.At) (hh : Up (-2) h) (hv : ∀ t, -2 < t → t < 1125899906842624 → val h t = val l t) : uO l = h := by
  refine VE (F := val l) (rK fun j hj => ht j hj) (CE ht) ?_ hh hv
  intro s t _ hst h2 hn
  exact xT hst fun j hj hc => hn j.At (EP.2 (Or.inr ⟨j, List.mem_filter.2 ⟨hj, by simp; omega⟩, rfl⟩)) hc

theorem norm_eq {l : List aB} (hl : l.length ≤ 1099511627776) : sR l = some (jW l) := by
  unfold sR jW
  rw [CX (g := uA) hl (fun x _ => by simp [pY, PL, uA])]
  simp only [Option.bind_some]
  cases h1 : l.any uA
  · rw [CX (f := fun y0 => pV y0) (g := yJ) hl (fun x _ => rfl)]
    simp only [cond_false, Option.bind_some, Bool.false_eq_true, if_false]
    cases h2 : l.any yJ
    · simp only [cond_false, Bool.false_eq_true, if_false]
      have hc : bY l = some l := by unfold bY; exact bC ⟨by omega, by omega⟩
      obtain ⟨r, r1, r2, r3⟩ := ZZ hl
      rw [hc]
      simp only [Option.bind_some]
      rw [r3]
      simp only [Option.bind_some, uF]
      have hlr : r.length ≤ 1099511627776 := by rw [r1.length_eq]; exact hl
      have := WO hlr (fun j hj => RX h1 j (r1.mem_iff.1 hj)) r.length 0 [] (by omega) (by omega) (by simp)
      simp only [Int.natCast_zero, List.drop_zero, List.nil_append] at this
      rw [this]
      simp only [Option.bind_some, rL, FG]
      rw [NK (fun j hj => (xF h2 j hj).1) (ZG (fun j hj => (xF h2 j (r1.mem_iff.1 hj)).1) r2) (fun t _ ht => by rw [YB ht, OD r1])]
    · simp
  · simp

end Go.Abs
namespace Go.Abs
open Go
theorem IX (x y : ByteArray) : mR x y = decide (x = y) := by
  unfold mR
  rw [ByteArray.toList_eq, ByteArray.toList_eq]
  by_cases h : x = y
  · simp [h]
  · have : x.data.toList ≠ y.data.toList := by
      intro he
      apply h
      cases x; cases y
      congr 1
      exact Array.toList_inj.1 he
    have h2 : (x.data.toList == y.data.toList) = false := by simpa using this
    rw [h2]; simp [h]

theorem veq (a b : aF) : ((decide (a.Kind = b.Kind)) && ((decide (a.Num = b.Num)) && ((mR a.Text b.Text) && true))) = decide (a = b) := by
  rw [IX]
  obtain ⟨a1, a2, a3⟩ := a
  obtain ⟨b1, b2, b3⟩ := b
  by_cases h1 : a1 = b1 <;> by_cases h2 : a2 = b2 <;> by_cases h3 : a3 = b3 <;> simp [h1, h2, h3]

def AQ (v : aF) : Bool := decide (v.Kind = 1) && mR v.Text (⟨#[]⟩ : ByteArray)

def AR (v : aF) : Bool := ((decide (v.Kind = 2)) && (decide (v.Num = 0))) && (decide (((ByteArray.size v.Text : Nat) : Int) ≤ 64))

def AX (v : aF) : Bool := AQ v || AR v

def oN (r : List aF) : Bool := decide (r.length ≤ 8) && r.all AX

theorem of_eq (v : aF) : kF v = some (if AQ v then (.k_number v.Num, true) else if AR v then (.k_words v.Text, true) else (.none_, false)) := by
  unfold kF AQ AR
  cases (decide (v.Kind = 1) && mR v.Text (⟨#[]⟩ : ByteArray)) <;> cases (((decide (v.Kind = 2)) && (decide (v.Num = 0))) && (decide (((ByteArray.size v.Text : Nat) : Int) ≤ 64))) <;> rfl

theorem XT (v : aF) : sP v = some (AX v) := by
  unfold sP AX
  rw [of_eq]
  cases AQ v <;> cases AR v <;> rfl

theorem LX {l : List aF} {f : aF → Option Bool} {g : aF → Bool} (hl : l.length ≤ 1099511627776) (hf : ∀ x ∈ l, f x = some (g x)) : cO l f = some (l.any g) := by
  unfold cO eP eK
  obtain ⟨x, e, hx⟩ := BA hl hf l 0 rfl (Nat.zero_le _)
  have e' : lp (fun s => eF f l (l.length : Nat) s) 0 = some x := e
  rw [e']
  rcases hx with ⟨rfl, h⟩ | ⟨i, rfl, _, _, h, _⟩
  · simp [cX, h]
  · simp [h]

theorem DN (r : List aF) : oY r = some (oN r) := by
  unfold oY oN
  by_cases h : r.length ≤ 8
  · have h1 : decide ((8 : Int) < ((r.length : Nat) : Int)) = false := by simp; omega
    rw [h1, cond_false, LX (g := fun v => !AX v) (by omega) (fun x _ => by simp [sK, XT])]
    simp only [Option.bind_some, h, decide_true, Bool.true_and]
    congr 1
    rw [List.all_eq_not_any_not]
  · have h1 : decide ((8 : Int) < ((r.length : Nat) : Int)) = true := by simp; omega
    rw [h1, cond_true]
    simp [h]

theorem KK {α : Type} [DecidableEq α] {f g : List α} {body : Int → Option (Int ⊕ (Unit ⊕ Bool))} (he : f.length = g.length)
    (hb : ∀ (i : Nat) a b, f[i]? = some a → g[i]? = some b → body i = some (if a = b then .inl ((i + 1 : Nat) : Int) else .inr (.inr false)))
    (hend : body (f.length : Nat) = some (.inr (.inl ()))) : ∀ (m k : Nat), f.length - k = m → k ≤ f.length → lp body (k : Int) = some (if f.drop k = g.drop k then .inl () else .inr false)
  | 0, k, hm, hk => by
    have : k = f.length := by omega
    subst this
    rw [List.drop_length, he, List.drop_length, if_pos rfl]
    rw [← he]
    exact cI hend
  | m + 1, k, hm, hk => by
    have h1 : k < f.length := by omega
    have h2 : k < g.length := by omega
    have hbk := hb k _ _ (List.getElem?_eq_getElem h1) (List.getElem?_eq_getElem h2)
    have e1 : f.drop k = f[k] :: f.drop (k + 1) := List.drop_eq_getElem_cons h1
    have e2 : g.drop k = g[k] :: g.drop (k + 1) := List.drop_eq_getElem_cons h2
    have hiff : (f.drop k = g.drop k) ↔ (f[k] = g[k] ∧ f.drop (k + 1) = g.drop (k + 1)) := by rw [e1, e2, List.cons.injEq]
    by_cases h : f[k] = g[k]
    · rw [if_pos h] at hbk
      rw [eT hbk, KK he hb hend m (k + 1) (by omega) (by omega)]
      simp only [hiff, h, true_and]
    · rw [if_neg h] at hbk
      rw [cI hbk]
      simp only [hiff, h, false_and, if_false]

theorem NV {α : Type} {f g : List α} (h : f.length ≠ g.length) : (!decide (((f.length : Nat) : Int) = ((g.length : Nat) : Int))) = true := by simp; omega

theorem LZ {α : Type} {f g : List α} (h : f.length = g.length) : (!decide (((f.length : Nat) : Int) = ((g.length : Nat) : Int))) = false := by simp [h]

theorem RJ (a b : List aF) (hl : a.length ≤ 17592186044416) : uP a b = some (decide (a = b)) := by
  unfold uP gN
  by_cases he : a.length = b.length
  · rw [LZ he, cond_false]
    unfold fQ
    have := KK (f := a) (g := b) (body := fun s => cR a b (a.length : Nat) s) he ?_ ?_ a.length 0 rfl (Nat.zero_le _)
    · simp only [Int.natCast_zero, List.drop_zero] at this
      rw [this]
      by_cases h : a = b <;> simp [h, dM]
    · intro i x y hx hy
      obtain ⟨d1, d2, d3, d4⟩ := idx hx (by omega)
      obtain ⟨_, e2, e3, _⟩ := idx hy (by omega)
      simp only [cR, d1, cond_true, bC d2, bC e2, d3, e3, d4, veq]
      by_cases h : x = y <;> simp [h]
    · simp only [cR, lZ, cond_false]
  · rw [NV he, cond_true]
    have : a ≠ b := fun h => he (by rw [h])
    simp [this]

theorem KB (a b : List aF) (hl : a.length ≤ 17592186044416) : rF a b = some (decide (a = b)) := by
  unfold rF
  by_cases he : a.length = b.length
  · rw [LZ he, cond_false]
    unfold tC
    have := KK (f := a) (g := b) (body := fun s => nW a b s) he ?_ ?_ a.length 0 rfl (Nat.zero_le _)
    · simp only [Int.natCast_zero, List.drop_zero] at this
      rw [this]
      by_cases h : a = b <;> simp [h, pU]
    · intro i x y hx hy
      obtain ⟨d1, d2, d3, d4⟩ := idx hx (by omega)
      obtain ⟨_, e2, e3, _⟩ := idx hy (by omega)
      simp only [nW, d1, cond_true, bC d2, bC e2, d3, e3, d4, veq]
      by_cases h : x = y <;> simp [h]
    · simp only [nW, lZ, cond_false]
  · rw [NV he, cond_true]
    have : a ≠ b := fun h => he (by rw [h])
    simp [this]

structure CI {α : Type} (c : α → α → Int) : Prop where
  eq : ∀ a b, c a b = 0 ↔ a = b
  anti : ∀ a b, c a b < 0 ↔ 0 < c b a
  trans : ∀ a b d, c a b < 0 → c b d < 0 → c a d < 0

def oK (x y : Int) : Int := if x < y then -1 else if y < x then 1 else 0

theorem wY : CI oK where
  eq a b := by unfold oK; (repeat' split) <;> omega
  anti a b := by unfold oK; (repeat' split) <;> omega
  trans a b d := by unfold oK; (repeat' split) <;> omega

def jZ {α : Type} [DecidableEq α] (c : α → α → Int) : List α → List α → Int
  | [], [] => 0
  | [], _ :: _ => -1
  | _ :: _, [] => 1
  | a :: r, b :: s => if a = b then jZ c r s else c a b

theorem CI.list {α : Type} [DecidableEq α] {c : α → α → Int} (h : CI c) : CI (jZ c) where
  eq := by
    intro a
    induction a with
    | nil => intro b; cases b <;> simp [jZ]
    | cons x r ih =>
      intro b
      cases b with
      | nil => simp [jZ]
      | cons y s =>
        unfold jZ
        split
        · rename_i e; subst e; rw [ih]; simp
        · rename_i e
          have := h.eq x y
          constructor
          · intro h0; exact absurd (this.1 h0) e
          · intro h0; cases h0; exact absurd rfl e
  anti := by
    intro a
    induction a with
    | nil => intro b; cases b <;> simp [jZ]
    | cons x r ih =>
      intro b
      cases b with
      | nil => simp [jZ]
      | cons y s =>
        unfold jZ
        by_cases e : x = y
        · subst e; simp only [if_true]; exact ih s
        · rw [if_neg e, if_neg (fun e' => e e'.symm)]; exact h.anti x y
  trans := by
    intro a
    induction a with
    | nil =>
      intro b d
      cases b <;> cases d <;> simp [jZ]
    | cons x r ih =>
      intro b d
      cases b with
      | nil => simp [jZ]
      | cons y s =>
        cases d with
        | nil => simp [jZ]
        | cons z t =>
          unfold jZ
          by_cases e1 : x = y
          · subst e1
            rw [if_pos rfl]
            by_cases e2 : x = z
            · subst e2; rw [if_pos rfl, if_pos rfl]; exact ih s t
            · rw [if_neg e2, if_neg e2]; exact fun _ h => h
          · rw [if_neg e1]
            by_cases e2 : y = z
            · have hz : ¬ x = z := fun e => e1 (e.trans e2.symm)
              intro h _
              rw [if_neg hz, ← e2]; exact h
            · rw [if_neg e2]
              intro h1 h2
              by_cases e3 : x = z
              · subst e3
                have h3 := (h.anti x y).1 h1
                omega
              · rw [if_neg e3]; exact h.trans x y z h1 h2

def EU (a b : UInt8) : Int := if a < b then -1 else if b < a then 1 else 0

theorem FH : CI EU where
  eq a b := by
    unfold EU
    constructor
    · intro h
      split at h
      · cases h
      · split at h
        · cases h
        · rename_i h1 h2
          rw [UInt8.lt_iff_toNat_lt] at h1 h2
          exact UInt8.toNat_inj.1 (by omega)
    · rintro rfl
      have : ¬ a < a := by rw [UInt8.lt_iff_toNat_lt]; omega
      simp [this]
  anti a b := by
    unfold EU
    simp only [UInt8.lt_iff_toNat_lt]
    (repeat' split) <;> omega
  trans a b d := by
    unfold EU
    simp only [UInt8.lt_iff_toNat_lt]
    (repeat' split) <;> omega

theorem xW : ∀ (a b : List UInt8), Go.Lib.compareBytes a b = jZ EU a b
  | [], [] => rfl
  | [], _ :: _ => rfl
  | _ :: _, [] => rfl
  | a :: r, b :: s => by
    unfold Go.Lib.compareBytes jZ
    rw [xW r s]
    by_cases e : a = b
    · subst e
      have : ¬ a < a := by rw [UInt8.lt_iff_toNat_lt]; omega
      simp [this]
    · rw [if_neg e]
      unfold EU
      have : ¬ (¬ a < b ∧ ¬ b < a) := by
        rintro ⟨h1, h2⟩
        rw [UInt8.lt_iff_toNat_lt] at h1 h2
        exact e (UInt8.toNat_inj.1 (by omega))
      by_cases h1 : a < b
      · simp [h1]
      · have h2 : b < a := Classical.byContradiction fun h2 => this ⟨h1, h2⟩
        simp [h1, h2]

def OB (a b : ByteArray) : Int := jZ EU a.data.toList b.data.toList

theorem XF (a b : ByteArray) : HJ a b = OB a b := xW _ _

theorem data_inj {x y : ByteArray} (h : x.data.toList = y.data.toList) : x = y := by
  cases x; cases y
  congr 1
  exact Array.toList_inj.1 h

theorem AV : CI OB where
  eq a b := by unfold OB; rw [(FH.list).eq]; exact ⟨data_inj, fun h => by rw [h]⟩
  anti a b := (FH.list).anti _ _
  trans a b d := (FH.list).trans _ _ _

def xG (a b : aF) : Int := if a.Kind = b.Kind then (if a.Num = b.Num then OB a.Text b.Text else oK a.Num b.Num) else oK a.Kind b.Kind

theorem WG : CI xG where
  eq a b := by
    obtain ⟨a1, a2, a3⟩ := a
    obtain ⟨b1, b2, b3⟩ := b
    unfold xG
    simp only [aF.mk.injEq]
    by_cases h1 : a1 = b1
    · by_cases h2 : a2 = b2
      · simp [h1, h2, AV.eq]
      · simp [h1, h2, wY.eq]
    · simp [h1, wY.eq]
  anti a b := by
    unfold xG
    by_cases h1 : a.Kind = b.Kind
    · rw [if_pos h1, if_pos h1.symm]
      by_cases h2 : a.Num = b.Num
      · rw [if_pos h2, if_pos h2.symm]; exact AV.anti _ _
      · rw [if_neg h2, if_neg (fun h => h2 h.symm)]; exact wY.anti _ _
    · rw [if_neg h1, if_neg (fun h => h1 h.symm)]; exact wY.anti _ _
  trans a b d := by
    unfold xG
    intro h1 h2
    have lt : ∀ {x y : Int}, oK x y < 0 → x < y := fun {x y} h => by unfold oK at h; split at h <;> (try split at h) <;> omega
    have mk : ∀ {x y : Int}, x < y → oK x y < 0 := fun {x y} h => by unfold oK; rw [if_pos h]; omega
    by_cases e1 : a.Kind = b.Kind
    · rw [if_pos e1] at h1
      by_cases e2 : b.Kind = d.Kind
      · rw [if_pos e2] at h2
        rw [if_pos (e1.trans e2)]
        by_cases f1 : a.Num = b.Num
        · rw [if_pos f1] at h1
          by_cases f2 : b.Num = d.Num
          · rw [if_pos f2] at h2
            rw [if_pos (f1.trans f2)]
            exact AV.trans _ _ _ h1 h2
          · rw [if_neg f2] at h2
            rw [f1, if_neg f2]; exact h2
        · rw [if_neg f1] at h1
          have g1 := lt h1
          by_cases f2 : b.Num = d.Num
          · rw [← f2, if_neg f1]; exact h1
          · rw [if_neg f2] at h2
            have g2 := lt h2
            rw [if_neg (by omega)]
            exact mk (by omega)
      · rw [if_neg e2] at h2
        rw [e1, if_neg e2]; exact h2
    · rw [if_neg e1] at h1
      have g1 := lt h1
      by_cases e2 : b.Kind = d.Kind
      · rw [← e2, if_neg e1]; exact h1
      · rw [if_neg e2] at h2
        have g2 := lt h2
        rw [if_neg (by omega)]
        exact mk (by omega)

def iD (a b : List aF) : Int := jZ xG a b

theorem iE : CI iD := WG.list

end Go.Abs
namespace Go.Abs
open Go
theorem IG (x y : Int) : hM x y = some (oK x y) := by
  unfold hM mK oK
  by_cases h1 : x < y
  · simp [h1]
  · by_cases h2 : y < x <;> simp [h1, h2]

theorem TX (x y : Int) : dH x y = some (oK x y) := by
  unfold dH iG oK
  by_cases h1 : x < y
  · simp [h1]
  · by_cases h2 : y < x <;> simp [h1, h2]

theorem DH {v : aF} (h : AQ v = true) : v.Kind = 1 ∧ v.Text = (⟨#[]⟩ : ByteArray) := by
  simp only [AQ, IX, Bool.and_eq_true, decide_eq_true_eq] at h; exact h

theorem zT {v : aF} (h : AR v = true) : v.Kind = 2 ∧ v.Num = 0 ∧ v.Text.size ≤ 64 := by
  simp only [AR, Bool.and_eq_true, decide_eq_true_eq] at h; exact ⟨h.1.1, h.1.2, by omega⟩

theorem PZ {v : aF} (h : AX v = true) : AQ v = true ∨ (AQ v = false ∧ AR v = true) := by
  unfold AX at h
  cases hn : AQ v
  · rw [hn] at h; exact .inr ⟨rfl, by simpa using h⟩
  · exact .inl rfl

theorem TP (a : ByteArray) : OB a a = 0 := (AV.eq a a).2 rfl

theorem CR (a : Int) : oK a a = 0 := (wY.eq a a).2 rfl

theorem UB {a b : aF} (ha : AX a = true) (hb : AX b = true) : oF a b = some (xG a b) := by
  unfold oF
  simp only [of_eq, Option.bind_some]
  rcases PZ ha with h1 | ⟨h1, h1'⟩ <;> rcases PZ hb with h2 | ⟨h2, h2'⟩
  · obtain ⟨k1, t1⟩ := DH h1
    obtain ⟨k2, t2⟩ := DH h2
    simp only [h1, h2, if_true, Bool.not_true, Bool.or_self, cond_false, TX, Option.bind_some]
    unfold xG
    rw [k1, k2, t1, t2, if_pos rfl, TP]
    by_cases hn : a.Num = b.Num
    · rw [if_pos hn, hn, CR]
    · rw [if_neg hn]
  · obtain ⟨k1, t1⟩ := DH h1
    obtain ⟨k2, n2, _⟩ := zT h2'
    simp only [h1, h2, h2', if_true, Bool.false_eq_true, if_false, Bool.not_true, Bool.or_self, cond_false]
    unfold xG
    rw [k1, k2]; rfl
  · obtain ⟨k1, n1, _⟩ := zT h1'
    obtain ⟨k2, t2⟩ := DH h2
    simp only [h1, h1', h2, if_true, Bool.false_eq_true, if_false, Bool.not_true, Bool.or_self, cond_false]
    unfold xG
    rw [k1, k2]; rfl
  · obtain ⟨k1, n1, _⟩ := zT h1'
    obtain ⟨k2, n2, _⟩ := zT h2'
    simp only [h1, h1', h2, h2', if_true, Bool.false_eq_true, if_false, Bool.not_true, Bool.or_self, cond_false]
    unfold xG lF fY
    rw [k1, k2, n1, n2, if_pos rfl, if_pos rfl]
    simp [XF]

theorem QL {r : List aF} (h : oN r = true) : r.length ≤ 8 ∧ ∀ v ∈ r, AX v = true := by
  simp only [oN, Bool.and_eq_true, decide_eq_true_eq, List.all_eq_true] at h; exact h

theorem UZ {a b : List aF} {k : Nat} (hk : k = a.length ∨ k = b.length) (h1 : k ≤ a.length) (h2 : k ≤ b.length) : iD (a.drop k) (b.drop k) = oK a.length b.length := by
  rcases hk with rfl | rfl
  · rw [List.drop_length]
    by_cases h : a.length = b.length
    · rw [h, List.drop_length, CR]; rfl
    · rw [List.drop_eq_getElem_cons (by omega)]
      show (-1 : Int) = _
      unfold oK; rw [if_pos (by omega)]
  · rw [List.drop_length]
    by_cases h : a.length = b.length
    · rw [← h, List.drop_length, CR]; rfl
    · rw [List.drop_eq_getElem_cons (by omega)]
      show (1 : Int) = _
      unfold oK; rw [if_neg (by omega), if_pos (by omega)]

theorem QG {a b : List aF} (hl : a.length ≤ 8) (hlb : b.length ≤ 8) (n : Nat) (hn : n = min a.length b.length) : ∀ (m k : Nat), n - k = m → k ≤ n →
    ∃ x, lp (fun s : Int × Int => bP (fun st y0 => (gZ y0 st b).bind fun o => some (o.2, o.1)) (a.take n) (n : Nat) s.1 s.2) ((k : Int) - 1, (k : Int)) = some x ∧
      ((∃ sg, x = .inl sg ∧ iD (a.drop k) (b.drop k) = oK a.length b.length) ∨
        (∃ i : Nat, x = .inr ((i : Int), (i : Int)) ∧ i < a.length ∧ i < b.length ∧ iD (a.drop k) (b.drop k) = xG (a.getD i default) (b.getD i default)))
  | 0, k, hm, hk => by
    have : k = n := by omega
    subst this
    refine ⟨.inl ((k : Int) - 1), cI ?_, .inl ⟨_, rfl, UZ (by omega) (by omega) (by omega)⟩⟩
    show bP _ _ _ _ _ = _
    simp only [bP, lZ, cond_false]
  | m + 1, k, hm, hk => by
    have h1 : k < a.length := by omega
    have h2 : k < b.length := by omega
    have ht : (a.take n)[k]? = some a[k] := by
      rw [List.getElem?_take_of_lt (by omega)]; exact List.getElem?_eq_getElem h1
    obtain ⟨d1, d2, d3, d4⟩ := idx ht (by simp; omega)
    have hlt : (a.take n).length = n := by simp; omega
    rw [hlt] at d1 d2
    obtain ⟨_, e2, e3, _⟩ := idx (List.getElem?_eq_getElem h2) (by omega)
    have hw : IntKind.i64.wrap ((k : Int) - 1 + 1) = (k : Int) := by rw [iN (by omega) (by omega)]; omega
    have hb : (fun s : Int × Int => bP (fun st y0 => (gZ y0 st b).bind fun o => some (o.2, o.1)) (a.take n) (n : Nat) s.1 s.2) ((k : Int) - 1, (k : Int)) =
        some (if a[k] = b[k] then .inl ((k : Int), ((k + 1 : Nat) : Int)) else .inr (.inr ((k : Int), (k : Int)))) := by
      show bP _ _ _ _ _ = _
      simp only [bP, d1, cond_true, hlt, bC d2, d3, d4, gZ, hw, bC e2, e3, veq, Option.bind_some]
      by_cases h : a[k] = b[k] <;> simp [h]
    have ea : a.drop k = a[k] :: a.drop (k + 1) := List.drop_eq_getElem_cons h1
    have eb : b.drop k = b[k] :: b.drop (k + 1) := List.drop_eq_getElem_cons h2
    by_cases h : a[k] = b[k]
    · rw [if_pos h] at hb
      obtain ⟨x, e, hx⟩ := QG hl hlb n hn m (k + 1) (by omega) (by omega)
      have hc : iD (a.drop k) (b.drop k) = iD (a.drop (k + 1)) (b.drop (k + 1)) := by
        rw [ea, eb]; unfold iD; rw [jZ, if_pos h]
      refine ⟨x, ?_, by rw [hc]; exact hx⟩
      rw [eT hb]
      rw [show ((k + 1 : Nat) : Int) - 1 = (k : Int) by omega] at e
      exact e
    · rw [if_neg h] at hb
      refine ⟨_, cI hb, .inr ⟨k, rfl, h1, h2, ?_⟩⟩
      rw [ea, eb]; unfold iD; rw [jZ, if_neg h]
      simp [List.getD_eq_getElem?_getD, h1, h2]

theorem IP (a b : List aF) : nV a b = some (if oN a && oN b then iD a b else 0) := by
  unfold nV
  rw [DN]
  simp only [Option.bind_some]
  cases ha : oN a
  · simp [eX]
  · simp only [Bool.not_true, Bool.not_false, eX, cond_true, DN, Option.bind_some, Bool.false_or]
    cases hb : oN b
    · simp
    · obtain ⟨la, ma⟩ := QL ha
      obtain ⟨lb, mb⟩ := QL hb
      have hif : (if ((List.length b : Nat) : Int) < ((List.length a : Nat) : Int) then ((List.length b : Nat) : Int) else ((List.length a : Nat) : Int)) = ((min a.length b.length : Nat) : Int) := by split <;> omega
      have hlt : (a.take (min a.length b.length)).length = min a.length b.length := by rw [List.length_take]; omega
      simp only [Bool.not_true, cond_false, hif, Int.toNat_natCast, qO, Option.bind_some, eA, dS, hlt, Bool.and_self, if_true]
      rw [bC ⟨by omega, by omega⟩]
      obtain ⟨x, e, hx⟩ := QG (a := a) (b := b) la lb _ rfl _ 0 rfl (Nat.zero_le _)
      have e' : lp (fun s : Int × Int => bP (fun st y0 => (gZ y0 st b).bind fun o => some (o.2, o.1)) (a.take (min a.length b.length)) (min a.length b.length : Nat) s.1 s.2) ((-1 : Int), (0 : Int)) = some x := e
      rw [e']
      simp only [List.drop_zero] at hx
      rcases hx with ⟨sg, rfl, h⟩ | ⟨i, rfl, h1, h2, h⟩
      · simp [cP, IG, h]
      · have hi : decide ((i : Int) < 0) = false := by simp
        simp only [Option.bind_some, Sum.elim_inr, hi, cond_false, Int.toNat_natCast]
        rw [bC ⟨by omega, by omega⟩, bC ⟨by omega, by omega⟩]
        have g1 : a.getD i default ∈ a := by simp [List.getD_eq_getElem?_getD, h1]
        have g2 : b.getD i default ∈ b := by simp [List.getD_eq_getElem?_getD, h2]
        rw [UB (ma _ g1) (mb _ g2), h]
        simp only [Option.bind_some]

end Go.Abs
namespace Go.Abs
open Go
def jE (e : aC) : aB := ⟨e.At, e.Net⟩

def gA (r : List aF) (f : List aB) : List aC → List (List aF × List aB)
  | [] => [(r, f)]
  | e :: l => if e.Row = r then gA r (f ++ [jE e]) l else (r, f) :: gA e.Row [jE e] l

def groups : List aC → List (List aF × List aB)
  | [] => []
  | e :: l => gA e.Row [jE e] l

def itG {σ : Type} (y : σ → List aF → List aB → Option (σ × Bool)) : List (List aF × List aB) → σ → Option σ
  | [], s => some s
  | g :: gs, s => (y s g.1 g.2).bind fun x => if x.2 then itG y gs x.1 else some x.1

def okL (l : List aC) : Prop := l.length ≤ 3518437208783 ∧ ∀ e ∈ l, e.Row.length ≤ 4398046510976

theorem FZ {r : List aF} (h : r.length ≤ 4398046510976) : rS r = some r := by
  unfold rS
  rw [bC ⟨by omega, by omega, by omega⟩, bC (by simp only [List.length_nil, Nat.zero_add]; omega)]
  rfl

theorem HC {σ : Type} {y : σ → List aF → List aB → Option (σ × Bool)} {l : List aC} (hl : okL l) (row : List aF) (sg : σ) : ∀ (r : List aC) (k : Nat) (f : List aB), l.drop k = r → k ≤ l.length → f.length ≤ k →
    ∃ k' f', k ≤ k' ∧ k' ≤ l.length ∧ f'.length ≤ k' ∧ lp (fun s : σ × Int × List aB => gO y l row s.1 s.2.1 s.2.2) (sg, (k : Int), f) = some (sg, ((k' : Nat) : Int), f') ∧
      gA row f r = (row, f') :: groups (l.drop k') ∧ (∀ e r', r = e :: r' → e.Row = row → k < k')
  | [], k, f, hd, hk, hf => by
    have : k = l.length := by
      have := congrArg List.length hd
      simp only [List.length_drop, List.length_nil] at this; omega
    subst this
    refine ⟨l.length, f, Nat.le_refl _, Nat.le_refl _, hf, cI ?_, by simp [gA, groups], fun e r' h => by cases h⟩
    show gO _ _ _ _ _ _ = _
    simp only [gO, lZ, eX, cond_false, Option.bind_some, Bool.false_and]
    exact bC (fun h => by cases h)
  | a :: r, k, f, hd, hk, hf => by
    obtain ⟨h1, h2⟩ := drop_cons hd
    have hlt : k < l.length := (List.getElem?_eq_some_iff.1 h1).1
    obtain ⟨hll, hlr⟩ := hl
    obtain ⟨d1, d2, d3, d4⟩ := idx h1 (by omega)
    have har := hlr a (List.mem_of_getElem? h1)
    have hb : (fun s : σ × Int × List aB => gO y l row s.1 s.2.1 s.2.2) (sg, (k : Int), f) = some (if a.Row = row then .inl (sg, ((k + 1 : Nat) : Int), f ++ [jE a]) else .inr (sg, (k : Int), f)) := by
      show gO _ _ _ _ _ _ = _
      simp only [gO, d1, d3, d4, eX, cond_true, RJ a.Row row (by omega), Option.bind_some, Bool.true_and]
      rw [bC (fun _ => d2)]
      by_cases e : a.Row = row
      · simp only [e, decide_true, cond_true, if_true]
        rw [bC d2, bC d2, bC (by simp only [List.length_cons, List.length_nil]; omega)]
        rfl
      · simp [e]
    by_cases e : a.Row = row
    · rw [if_pos e] at hb
      obtain ⟨k', f', g1, g2, g3, g4, g5, _⟩ := HC ⟨hll, hlr⟩ row sg r (k + 1) (f ++ [jE a]) h2 (by omega) (by simp; omega) (y := y)
      refine ⟨k', f', by omega, g2, g3, by rw [eT hb]; exact g4, by simp [gA, e, g5], fun _ _ _ _ => by omega⟩
    · rw [if_neg e] at hb
      refine ⟨k, f, Nat.le_refl _, hk, hf, cI hb, ?_, fun b r' h hr => by cases h; exact absurd hr e⟩
      rw [hd]; simp [gA, e, groups]

theorem RP {σ : Type} {y : σ → List aF → List aB → Option (σ × Bool)} {l : List aC} (hl : okL l) : ∀ (m k : Nat) (sg s' : σ), l.length - k ≤ m → k ≤ l.length → itG y (groups (l.drop k)) sg = some s' →
    ∃ x, lp (fun s : σ × Int => eS y l s.1 s.2) (sg, (k : Int)) = some x ∧ Sum.elim id id x = s' := by
  have stop : ∀ (sg s' : σ), itG y (groups (l.drop l.length)) sg = some s' → ∃ x, lp (fun s : σ × Int => eS y l s.1 s.2) (sg, ((l.length : Nat) : Int)) = some x ∧ Sum.elim id id x = s' := by
    intro sg s' h
    rw [List.drop_length] at h
    simp only [groups, itG, Option.some.injEq] at h
    refine ⟨.inl sg, cI ?_, h⟩
    show eS _ _ _ _ = _
    simp only [eS, lZ, cond_false]
  intro m
  induction m with
  | zero =>
    intro k sg s' hm hk h
    have : k = l.length := by omega
    subst this; exact stop sg s' h
  | succ m ih =>
    intro k sg s' hm hk h
    by_cases he : k = l.length
    · subst he; exact stop sg s' h
    · have hlt : k < l.length := by omega
      have hd : l.drop k = l[k] :: l.drop (k + 1) := List.drop_eq_getElem_cons hlt
      obtain ⟨d1, d2, d3, d4⟩ := idx (List.getElem?_eq_getElem hlt) (by have := hl.1; omega)
      obtain ⟨k', f', g1, g2, g3, g4, g5, g6⟩ := HC hl l[k].Row sg (l.drop k) k [] rfl hk (by simp) (y := y)
      have hk' := g6 _ _ hd rfl
      have hg : groups (l.drop k) = (l[k].Row, f') :: groups (l.drop k') := by
        rw [← g5, hd]; simp [groups, gA]
      rw [hg] at h
      simp only [itG] at h
      obtain ⟨x, hx, h⟩ := aV h
      have hrow := hl.2 _ (List.getElem_mem hlt)
      have hb : (fun s : σ × Int => eS y l s.1 s.2) (sg, (k : Int)) = some (if x.2 then .inl (x.1, ((k' : Nat) : Int)) else .inr (.inr x.1)) := by
        show eS _ _ _ _ = _
        simp only [eS, d1, cond_true, bC d2, d3, pI, g4, Option.bind_some, nI, FZ hrow, hx]
        cases x.2 <;> simp
      cases hx2 : x.2
      · rw [hx2] at hb h
        simp only [Bool.false_eq_true, if_false, Option.some.injEq] at hb h
        exact ⟨_, cI hb, h⟩
      · rw [hx2] at hb h
        simp only [if_true] at hb h
        obtain ⟨z, hz1, hz2⟩ := ih k' x.1 s' (by omega) g2 h
        exact ⟨z, by rw [eT hb]; exact hz1, hz2⟩

theorem PT {σ : Type} {y : σ → List aF → List aB → Option (σ × Bool)} {l : List aC} (hl : okL l) {s s' : σ} (h : itG y (groups l) s = some s') : mN y l s = some s' := by
  unfold mN pE
  obtain ⟨x, h1, h2⟩ := RP hl l.length 0 s s' (by omega) (Nat.zero_le _) (by simpa using h)
  simp only [Int.natCast_zero] at h1
  rw [h1]
  cases x <;> simpa using h2

def ahd (last : Option (List aF)) (r : List aF) : Bool := match last with
  | none => true
  | some q => decide (iD q r < 0)

def tF (p : List aB → Bool) : Option (List aF) → List (List aF × List aB) → Bool
  | _, [] => true
  | last, g :: gs => (oN g.1 && ahd last g.1 && p g.2) && tF p (some g.1) gs

theorem QN {holds : List aB → Option Bool} {p : List aB → Bool} (hp : ∀ f, holds f = some (p f)) (c : List aC) (t : Bool) : ∀ (gs : List (List aF × List aB)) (last : List aF) (b : Bool), (b = true → oN last = true) →
    ∃ x, itG (fun st r f => rnd (fun (s : Bool × (List aF) × Bool) => nG holds c s.1 s.2.1 s.2.2 r f) st) gs (.inl (t, last, b)) = some x ∧
      (if tF p (if b then some last else none) gs then ∃ u, x = .inl (t, u) else ∃ u, x = .inr (false, u))
  | [], last, b, _ => ⟨_, rfl, by simp [tF]⟩
  | g :: gs, last, b, hb => by
    have hy : nG holds c t last b g.1 g.2 = some (if oN g.1 && ahd (if b then some last else none) g.1 && p g.2 then .inl (t, g.1, true) else .inr (false, last, b)) := by
      unfold nG
      simp only [DN, Option.bind_some, IP, hp]
      cases hm : oN g.1
      · simp [eX]
      · cases b
        · cases h2 : p g.2 <;> simp [eX, ahd, h2]
        · have hl := hb rfl
          by_cases h1 : iD last g.1 < 0
          · have h1' : ¬ (0 ≤ iD last g.1) := by omega
            cases h2 : p g.2 <;> simp [eX, ahd, h2, hl, h1, h1']
          · have h1' : 0 ≤ iD last g.1 := by omega
            simp [eX, ahd, hl, h1, h1']
    cases hc : (oN g.1 && ahd (if b then some last else none) g.1 && p g.2)
    · rw [hc] at hy
      simp only [itG, rnd, hy, Option.bind_some, tF, hc]
      exact ⟨.inr (false, last, b), by simp, by simp⟩
    · rw [hc] at hy
      simp only [itG, rnd, hy, Option.bind_some, tF, hc]
      have hm : oN g.1 = true := by simp only [Bool.and_eq_true] at hc; exact hc.1.1
      obtain ⟨x, h1, h2⟩ := QN hp c t gs g.1 true (fun _ => hm)
      refine ⟨x, ?_, ?_⟩
      · simpa [rnd] using h1
      · simpa using h2

theorem PN {l : List aC} (hl : okL l) {holds : List aB → Option Bool} {p : List aB → Bool} (hp : ∀ f, holds f = some (p f)) : qH l holds = some (decide (l.length ≤ 4096) && tF p none (groups l)) := by
  unfold qH
  by_cases h : l.length ≤ 4096
  · have h1 : decide ((4096 : Int) < ((l.length : Nat) : Int)) = false := by simp; omega
    rw [h1, cond_false]
    simp only [qF, Option.bind_some, uR]
    obtain ⟨x, e1, e2⟩ := QN hp l false (groups l) [] false (fun h => by cases h)
    rw [PT hl e1]
    simp only [Bool.false_eq_true, if_false] at e2
    simp only [h, decide_true, Bool.true_and]
    cases hc : tF p none (groups l)
    · rw [hc] at e2
      simp only [Bool.false_eq_true, if_false] at e2
      obtain ⟨u, rfl⟩ := e2
      rfl
    · rw [hc] at e2
      simp only [if_true] at e2
      obtain ⟨u, rfl⟩ := e2
      rfl
  · have h1 : decide ((4096 : Int) < ((l.length : Nat) : Int)) = true := by simp; omega
    rw [h1, cond_true]
    simp [h]

def kQ (l : List aC) : Bool := decide (l.length ≤ 4096) && tF eB none (groups l)

theorem QA {l : List aC} (hl : okL l) : rU l = some (kQ l) := by
  unfold rU
  rw [PN hl (p := eB) (fun f => zC f)]; rfl

def IC (f : List aB) : Bool := eB f && decide (0 ≤ zB f)

def rE (l : List aC) : Bool := decide (l.length ≤ 4096) && tF IC none (groups l)

theorem TQ {l : List aC} (hl : okL l) : rD l = some (rE l) := by
  unfold rD
  rw [PN hl (p := IC) (fun f => by
    unfold oS IC
    rw [zC]
    cases h : eB f <;> simp [eX, VL, h])]
  rfl

def fR (r : List aF) (f : List aB) : List aC := f.map fun j => ⟨r, j.At, j.Net⟩

theorem put_eq {out : List aC} {r : List aF} {f : List aB} (hr : r.length ≤ 4398046510976) (hl : out.length + f.length ≤ 1099511627776) : uX out r f = some (out ++ fR r f) := by
  unfold uX vP
  rw [HM (l := f) (body := fun s : List aC × Int => mV r f (f.length : Nat) s.1 s.2) (fun o i => (o, i)) (fun o t => o ++ fR r t) (fun o t => o.length + t.length ≤ 1099511627776) out ?_ ?_ hl]
  · rfl
  · intro i a t o ha hi
    left
    obtain ⟨d1, d2, d3, d4⟩ := idx ha (by have := (List.getElem?_eq_some_iff.1 ha).1; omega)
    simp only [List.length_cons] at hi
    refine ⟨o ++ [⟨r, a.At, a.Net⟩], ?_, by simp; omega, by simp [fR]⟩
    show mV _ _ _ _ _ = _
    simp only [mV, d1, cond_true, bC d2, d3, d4, FZ hr, Option.bind_some]
    exact bC (by simp only [List.length_cons, List.length_nil]; omega)
  · intro o _
    show mV _ _ _ _ _ = _
    simp only [mV, lZ, cond_false]
    simp [fR]

def lP (by1 : List aB → List aB × Int) : List (List aF × List aB) → List aC → List aC × Int
  | [], out => (out, 0)
  | g :: gs, out => if (by1 g.2).2 ≠ 0 then ([], (by1 g.2).2) else if 4096 < (out ++ fR g.1 (by1 g.2).1).length then ([], 7) else lP by1 gs (out ++ fR g.1 (by1 g.2).1)

end Go.Abs
