/- What the law PackCuts stands on: the framework, the given functions as plain functions, their walks, and the plain laws; part 4. -/
import Derived.Test.YtfepdngmgjmniaaPackCutsZ3
set_option linter.unusedSimpArgs false
set_option linter.unusedVariables false
namespace Go.Abs
open Go Go.RowKit Go.Proofs
theorem vV (lo0p : Nat) (aA : (List aB)) (n1 : Int) (cmp2_f : Nat) (cmp2_a cmp2_c : List V) (cmp2 : aB → aB → Option Int) (cmp2_h : ∀ a0 a1 r, cmp2 a0 a1 = some r → bS Try.prog cmp2_f (cmp2_a ++ [(aD a0), (aD a1)] ++ cmp2_c) (eI r)) (r : List aB) (h0 : eZ aA n1 cmp2 = some r) : kQ Try.prog 133 lo0p 2 (List.map aD aA) (List.map aD r) [(.msl 2 lo0p 0 (List.length aA)), (eI n1), (.fn (.func cmp2_f) cmp2_a cmp2_c)] (.tup []) := by
  intro H0 hl0
  refine cG Try.func133 ?_
  have hO := aO.pE hl0
  clear hl0
  obtain ⟨N0, hN0⟩ : ∃ n, n = List.length aA := ⟨_, rfl⟩
  have hN : List.length aA = N0 := hN0.symm
  unfold eZ at h0
  refine aZ aH 1 [] [(6, (eI (20 : Int)))] ?_
  refine aZ aH 3 [] [(7, (eI (0 : Int))), (8, (eI (20 : Int)))] ?_
  refine cT (fun T H => ∃ aA : List aB, ∃ aP : Int, ∃ a7 : Int, Has T [(0, (.msl 2 lo0p 0 (List.length aA))), (1, (eI n1)), (2, (.fn (.func cmp2_f) cmp2_a cmp2_c)), (6, (eI aP)), (7, (eI a7))] ∧ aO ⟨H0, [lo0p], []⟩ H [(lo0p, 2, List.map aD aA)] ∧ List.length aA = N0 ∧ eP cmp2 aA n1 aP a7 = some r) ?_ ?_
  · clear hO hN h0
    rintro T H ⟨aA, aP, a7, hT, hO, hN, h0⟩
    refine bB hT ?_
    clear hT
    unfold eP at h0
    refine aR ?_
    refine aT aH 5 ?_
    refine bK 4 ?_
    obtain ⟨x1, hx2, h0⟩ := aW h0
    refine nN [(lo0p, 2, List.map aD x1)] 0 (mO lo0p aA a7 n1 cmp2_f cmp2_a cmp2_c cmp2 cmp2_h _ hx2) hO ?_
    intro H hO hl3
    simp only [List.length_map] at hl3
    replace hN := hl3.trans hN
    refine cF ?_
    refine cS (l := [(0, (.msl 2 lo0p 0 (List.length x1))), (1, (eI n1)), (2, (.fn (.func cmp2_f) cmp2_a cmp2_c)), (6, (eI aP))]) ⟨[(0, (.msl 2 lo0p 0 (List.length aA))), (1, (eI n1)), (2, (.fn (.func cmp2_f) cmp2_a cmp2_c)), (6, (eI aP))], by kernel_rfl, rfl, ⟨aX.eq (by simp [hl3]), aX.refl _, aX.refl _, aX.refl _, trivial⟩⟩ ?_
    refine aK (aI (?_))
    refine bQ 2 ?_
    refine cO [(0, (.msl 2 lo0p 0 (List.length x1))), (1, (eI n1)), (2, (.fn (.func cmp2_f) cmp2_a cmp2_c)), (6, (eI aP))] ?_
    refine cK (fun T H => ∃ aA : List aB, ∃ aP : Int, Has T [(0, (.msl 2 lo0p 0 (List.length aA))), (1, (eI n1)), (2, (.fn (.func cmp2_f) cmp2_a cmp2_c)), (6, (eI aP))] ∧ aO ⟨H0, [lo0p], []⟩ H [(lo0p, 2, List.map aD aA)] ∧ List.length aA = N0 ∧ gU cmp2 aA n1 aP = some r) ?_ ⟨x1, aP, .eq (by kernel_rfl), hO, hN, h0⟩
    clear hO hN h0
    rintro T H ⟨aA, aP, hT, hO, hN, h0⟩
    refine bB hT ?_
    clear hT
    unfold gU at h0
    obtain ⟨rr0, hl0, h0⟩ := aW h0
    refine cA (by kernel_rfl) (fun (s : List aB × Int) T H => Has T [(0, (.msl 2 lo0p 0 (List.length s.1))), (1, (eI n1)), (2, (.fn (.func cmp2_f) cmp2_a cmp2_c)), (6, (eI s.2))] ∧ aO ⟨H0, [lo0p], []⟩ H [(lo0p, 2, List.map aD s.1)] ∧ List.length s.1 = N0) hl0 ⟨.eq (by kernel_rfl), hO, hN⟩ ?_
    clear hO hN
    rintro k0 s out1 T H ⟨hT, hO, hN⟩ h1 ho0
    obtain ⟨aA, aP⟩ := s
    replace h1 : gS cmp2 n1 aA aP = some out1 := h1
    try dsimp only at hT
    refine bB hT ?_
    clear hT
    unfold gS at h1
    refine aR ?_
    refine aZ aH 3 [] [(30, (aL (decide (aP < n1))))] ?_
    refine bM h1 (fun h1 => ?_) (fun h1 => ?_)
    · refine bN ?_
      refine bH [(0, (.msl 2 lo0p 0 (List.length aA))), (1, (eI n1)), (2, (.fn (.func cmp2_f) cmp2_a cmp2_c)), (6, (eI aP))] ?_
      refine bQ 3 ?_
      refine aZ aH 4 [] [(7, (eI (0 : Int))), (8, (eI (wR ((2 : Int) * aP))))] ?_
      refine cT (fun T H => ∃ aA : List aB, ∃ a7 : Int, Has T [(0, (.msl 2 lo0p 0 (List.length aA))), (1, (eI n1)), (2, (.fn (.func cmp2_f) cmp2_a cmp2_c)), (6, (eI aP)), (7, (eI a7))] ∧ aO ⟨H0, [lo0p], []⟩ H [(lo0p, 2, List.map aD aA)] ∧ List.length aA = N0 ∧ eR cmp2 aA n1 aP a7 = some out1) ?_ ?_
      · clear hO hN h1
        rintro T H ⟨aA, a7, hT, hO, hN, h1⟩
        refine bB hT ?_
        clear hT
        unfold eR at h1
        refine cT (fun T H => ∃ aA : List aB, Has T [(0, (.msl 2 lo0p 0 (List.length aA))), (1, (eI n1)), (2, (.fn (.func cmp2_f) cmp2_a cmp2_c)), (6, (eI aP))] ∧ aO ⟨H0, [lo0p], []⟩ H [(lo0p, 2, List.map aD aA)] ∧ List.length aA = N0 ∧ iE cmp2 aA n1 aP = some out1) ?_ ?_
        · clear hO hN h1
          rintro T H ⟨aA, hT, hO, hN, h1⟩
          refine bB hT ?_
          clear hT
          unfold iE at h1
          refine aT aH 3 ?_
          refine bD ?_
          exact aK (aV (aI (⟨rfl, _, (oI h1).symm, .eq (by kernel_rfl), hO, hN⟩)))
        refine aZ aH 4 [] [(9, (eI (wR (a7 + aP))))] ?_
        refine aZ aH 3 [] [(54, (aL (decide ((wR (a7 + aP)) < n1))))] ?_
        refine bM h1 (fun h1 => ?_) (fun h1 => ?_)
        · refine aT aH 6 ?_
          refine bK 5 ?_
          obtain ⟨x6, hx7, h1⟩ := aW h1
          refine nN [(lo0p, 2, List.map aD x6)] 0 (nU lo0p aA a7 (wR (a7 + aP)) n1 cmp2_f cmp2_a cmp2_c cmp2 cmp2_h _ hx7) hO ?_
          intro H hO hl8
          simp only [List.length_map] at hl8
          replace hN := hl8.trans hN
          refine cF ?_
          refine cS (l := [(0, (.msl 2 lo0p 0 (List.length x6))), (1, (eI n1)), (2, (.fn (.func cmp2_f) cmp2_a cmp2_c)), (6, (eI aP))]) ⟨[(0, (.msl 2 lo0p 0 (List.length aA))), (1, (eI n1)), (2, (.fn (.func cmp2_f) cmp2_a cmp2_c)), (6, (eI aP))], by kernel_rfl, rfl, ⟨aX.eq (by simp [hl8]), aX.refl _, aX.refl _, aX.refl _, trivial⟩⟩ ?_
          exact aK (aI (⟨rfl, _, .eq (by kernel_rfl), hO, hN, h1⟩))
        refine bN ?_
        exact aK (aI (⟨rfl, _, .eq (by kernel_rfl), hO, hN, h1⟩))
      refine bQ 4 ?_
      refine cO [(0, (.msl 2 lo0p 0 (List.length aA))), (1, (eI n1)), (2, (.fn (.func cmp2_f) cmp2_a cmp2_c)), (6, (eI aP)), (7, (eI (0 : Int))), (8, (eI (wR ((2 : Int) * aP))))] ?_
      refine cK (fun T H => ∃ aA : List aB, ∃ a7 : Int, ∃ b8 : Int, Has T [(0, (.msl 2 lo0p 0 (List.length aA))), (1, (eI n1)), (2, (.fn (.func cmp2_f) cmp2_a cmp2_c)), (6, (eI aP)), (7, (eI a7)), (8, (eI b8))] ∧ aO ⟨H0, [lo0p], []⟩ H [(lo0p, 2, List.map aD aA)] ∧ List.length aA = N0 ∧ iF cmp2 aA n1 aP a7 b8 = some out1) ?_ ⟨aA, (0 : Int), wR ((2 : Int) * aP), .eq (by kernel_rfl), hO, hN, h1⟩
      clear hO hN h1
      rintro T H ⟨aA, a7, b8, hT, hO, hN, h1⟩
      refine bB hT ?_
      clear hT
      unfold iF at h1
      obtain ⟨rr1, hl1, h1⟩ := aW h1
      refine cA (by kernel_rfl) (fun (s : List aB × Int × Int) T H => Has T [(0, (.msl 2 lo0p 0 (List.length s.1))), (1, (eI n1)), (2, (.fn (.func cmp2_f) cmp2_a cmp2_c)), (6, (eI aP)), (7, (eI s.2.1)), (8, (eI s.2.2))] ∧ aO ⟨H0, [lo0p], []⟩ H [(lo0p, 2, List.map aD s.1)] ∧ List.length s.1 = N0) hl1 ⟨.eq (by kernel_rfl), hO, hN⟩ ?_
      clear hO hN
      rintro k1 s out2 T H ⟨hT, hO, hN⟩ h2 ho1
      obtain ⟨aA, a7, b8⟩ := s
      replace h2 : iC cmp2 n1 aP aA a7 b8 = some out2 := h2
      try dsimp only at hT
      refine bB hT ?_
      clear hT
      unfold iC at h2
      refine aR ?_
      refine aZ aH 3 [] [(35, (aL (decide (b8 ≤ n1))))] ?_
      refine bM h2 (fun h2 => ?_) (fun h2 => ?_)
      · refine bN ?_
        refine bH [(0, (.msl 2 lo0p 0 (List.length aA))), (1, (eI n1)), (2, (.fn (.func cmp2_f) cmp2_a cmp2_c)), (6, (eI aP)), (7, (eI a7)), (8, (eI b8))] ?_
        refine bQ 5 ?_
        refine aR ?_
        refine aT aH 8 ?_
        refine bK 7 ?_
        obtain ⟨x10, hx11, h2⟩ := aW h2
        refine nN [(lo0p, 2, List.map aD x10)] 0 (nU lo0p aA a7 (wR (a7 + aP)) b8 cmp2_f cmp2_a cmp2_c cmp2 cmp2_h _ hx11) hO ?_
        intro H hO hl12
        simp only [List.length_map] at hl12
        replace hN := hl12.trans hN
        refine cF ?_
        refine cS (l := [(0, (.msl 2 lo0p 0 (List.length x10))), (1, (eI n1)), (2, (.fn (.func cmp2_f) cmp2_a cmp2_c)), (6, (eI aP)), (8, (eI b8))]) ⟨[(0, (.msl 2 lo0p 0 (List.length aA))), (1, (eI n1)), (2, (.fn (.func cmp2_f) cmp2_a cmp2_c)), (6, (eI aP)), (8, (eI b8))], by kernel_rfl, rfl, ⟨aX.eq (by simp [hl12]), aX.refl _, aX.refl _, aX.refl _, aX.refl _, trivial⟩⟩ ?_
        refine aK (aI (?_))
        refine aZ aH 2 [] [(7, (eI b8))] ?_
        refine aT aH 5 ?_
        refine bD ?_
        exact aK (aV (aI (⟨rfl, _, (oI h2).symm, .eq (by kernel_rfl), hO, hN⟩)))
      refine dS 4 ?_
      obtain rfl := oI h2
      obtain rfl : _ = rr1 := ho1
      replace h1 : eR cmp2 aA n1 aP a7 = some out1 := h1
      exact aK (aY (aY (bO (aI (⟨rfl, _, _, .eq (by kernel_rfl), hO, hN, h1⟩)))))
    refine dS 2 ?_
    obtain rfl := oI h1
    obtain rfl : _ = rr0 := ho0
    replace h0 : some aA = some r := h0
    obtain rfl := oI h0
    exact aK (aY (aY (bO (pT (x := (.tup [])) (by kernel_rfl) (aX.refl _) ⟨rfl, hO.ext, hO.at 0 (by kernel_rfl), by simp only [List.length_map]; exact hN.trans hN0⟩))))
  refine bQ 0 ?_
  refine cO [(0, (.msl 2 lo0p 0 (List.length aA))), (1, (eI n1)), (2, (.fn (.func cmp2_f) cmp2_a cmp2_c)), (6, (eI (20 : Int))), (7, (eI (0 : Int))), (8, (eI (20 : Int)))] ?_
  refine cK (fun T H => ∃ aA : List aB, ∃ aP : Int, ∃ a7 : Int, ∃ b8 : Int, Has T [(0, (.msl 2 lo0p 0 (List.length aA))), (1, (eI n1)), (2, (.fn (.func cmp2_f) cmp2_a cmp2_c)), (6, (eI aP)), (7, (eI a7)), (8, (eI b8))] ∧ aO ⟨H0, [lo0p], []⟩ H [(lo0p, 2, List.map aD aA)] ∧ List.length aA = N0 ∧ gR cmp2 aA n1 aP a7 b8 = some r) ?_ ⟨aA, (20 : Int), (0 : Int), (20 : Int), .eq (by kernel_rfl), hO, hN, h0⟩
  clear hO hN h0
  rintro T H ⟨aA, aP, a7, b8, hT, hO, hN, h0⟩
  refine bB hT ?_
  clear hT
  unfold gR at h0
  obtain ⟨rr0, hl0, h0⟩ := aW h0
  refine cA (by kernel_rfl) (fun (s : List aB × Int × Int) T H => Has T [(0, (.msl 2 lo0p 0 (List.length s.1))), (1, (eI n1)), (2, (.fn (.func cmp2_f) cmp2_a cmp2_c)), (6, (eI aP)), (7, (eI s.2.1)), (8, (eI s.2.2))] ∧ aO ⟨H0, [lo0p], []⟩ H [(lo0p, 2, List.map aD s.1)] ∧ List.length s.1 = N0) hl0 ⟨.eq (by kernel_rfl), hO, hN⟩ ?_
  clear hO hN
  rintro k0 s out1 T H ⟨hT, hO, hN⟩ h1 ho0
  obtain ⟨aA, a7, b8⟩ := s
  replace h1 : gP cmp2 n1 aP aA a7 b8 = some out1 := h1
  try dsimp only at hT
  refine bB hT ?_
  clear hT
  unfold gP at h1
  refine aR ?_
  refine aZ aH 3 [] [(13, (aL (decide (b8 ≤ n1))))] ?_
  refine bM h1 (fun h1 => ?_) (fun h1 => ?_)
  · refine bN ?_
    refine bH [(0, (.msl 2 lo0p 0 (List.length aA))), (1, (eI n1)), (2, (.fn (.func cmp2_f) cmp2_a cmp2_c)), (6, (eI aP)), (7, (eI a7)), (8, (eI b8))] ?_
    refine bQ 1 ?_
    refine aR ?_
    refine aT aH 5 ?_
    refine bK 4 ?_
    obtain ⟨x14, hx15, h1⟩ := aW h1
    refine nN [(lo0p, 2, List.map aD x14)] 0 (mO lo0p aA a7 b8 cmp2_f cmp2_a cmp2_c cmp2 cmp2_h _ hx15) hO ?_
    intro H hO hl16
    simp only [List.length_map] at hl16
    replace hN := hl16.trans hN
    refine cF ?_
    refine cS (l := [(0, (.msl 2 lo0p 0 (List.length x14))), (1, (eI n1)), (2, (.fn (.func cmp2_f) cmp2_a cmp2_c)), (6, (eI aP)), (8, (eI b8))]) ⟨[(0, (.msl 2 lo0p 0 (List.length aA))), (1, (eI n1)), (2, (.fn (.func cmp2_f) cmp2_a cmp2_c)), (6, (eI aP)), (8, (eI b8))], by kernel_rfl, rfl, ⟨aX.eq (by simp [hl16]), aX.refl _, aX.refl _, aX.refl _, aX.refl _, trivial⟩⟩ ?_
    refine aK (aI (?_))
    refine aZ aH 2 [] [(7, (eI b8))] ?_
    refine aT aH 4 ?_
    refine bD ?_
    exact aK (aV (aI (⟨rfl, _, (oI h1).symm, .eq (by kernel_rfl), hO, hN⟩)))
  refine dS 0 ?_
  obtain rfl := oI h1
  obtain rfl : _ = rr0 := ho0
  replace h0 : eP cmp2 aA n1 aP a7 = some r := h0
  exact aK (aY (aY (bO (aI (⟨rfl, _, _, _, .eq (by kernel_rfl), hO, hN, h0⟩)))))

theorem qE (lo0p : Nat) (x0 : (List aB)) (cmp1_f : Nat) (cmp1_a cmp1_c : List V) (cmp1 : aB → aB → Option Int) (cmp1_h : ∀ a0 a1 r, cmp1 a0 a1 = some r → bS Try.prog cmp1_f (cmp1_a ++ [(aD a0), (aD a1)] ++ cmp1_c) (eI r)) (r : List aB) (h0 : cX x0 cmp1 = some r) : kQ Try.prog 112 lo0p 2 (List.map aD x0) (List.map aD r) [(.msl 2 lo0p 0 (List.length x0)), (.fn (.func cmp1_f) cmp1_a cmp1_c)] (.tup []) := by
  intro H0 hl0
  refine cG Try.func112 ?_
  have hO := aO.pE hl0
  clear hl0
  obtain ⟨N0, hN0⟩ : ∃ n, n = List.length x0 := ⟨_, rfl⟩
  have hN : List.length x0 = N0 := hN0.symm
  unfold cX at h0
  refine aT aH 5 ?_
  refine bK 4 ?_
  obtain ⟨x1, hx2, h0⟩ := aW h0
  refine nN [(lo0p, 2, List.map aD x1)] 0 (vV lo0p x0 (lN x0) cmp1_f cmp1_a cmp1_c cmp1 cmp1_h _ hx2) hO ?_
  intro H hO hl3
  simp only [List.length_map] at hl3
  replace hN := hl3.trans hN
  refine cF ?_
  refine cS (l := [(0, (.msl 2 lo0p 0 (List.length x1)))]) ⟨[(0, (.msl 2 lo0p 0 (List.length x0)))], by kernel_rfl, rfl, ⟨aX.eq (by simp [hl3]), trivial⟩⟩ ?_
  obtain rfl := oI h0
  exact aK (pT (x := (.tup [])) (by kernel_rfl) (aX.refl _) ⟨rfl, hO.ext, hO.at 0 (by kernel_rfl), by simp only [List.length_map]; exact hN.trans hN0⟩)

theorem LR (a0 : aB) (b1 : aB) (r : Int) (h0 : mH a0 b1 = some r) : bS Try.prog 113 [(aD a0), (aD b1)] (eI r) := by
  intro H0
  refine cG Try.func113 ?_
  have hO := aO.start H0
  unfold mH at h0
  refine aR ?_
  refine aT aH 3 ?_
  refine gN 2 (aD a0) (by kernel_rfl) (by kernel_rfl) ?_
  refine gN 2 (aD b1) (by kernel_rfl) (by kernel_rfl) ?_
  refine bD ?_
  refine bH [(2, (.rp (aD a0))), (3, (.rp (aD b1)))] ?_
  refine aR ?_
  refine aT aH 6 ?_
  refine bK 4 ?_
  obtain ⟨x1, hx2, h0⟩ := aW h0
  refine cM (tU a0.At b1.At _ hx2) hO ?_
  intro H hO
  refine bD ?_
  refine bH [(4, (eI x1))] ?_
  refine bL ?_
  obtain rfl := oI h0
  exact aK (Q_r hO)

theorem zB (f0 : (List aB)) (r : Bool) (h0 : nP f0 = some r) : bS Try.prog 68 [(eL aD f0)] (aL r) := by
  intro H0
  refine cG Try.func68 ?_
  have hO := aO.start H0
  unfold nP at h0
  refine aZ aH 1 [] [] ?_
  refine aR ?_
  refine aZ aH 3 [] [(8, (aL (decide ((1024 : Int) < (lN f0)))))] ?_
  refine bM h0 (fun h0 => ?_) (fun h0 => ?_)
  · refine bW aH 1 [(2, (aL false))] ?_
    refine bL ?_
    obtain rfl := oI h0
    exact aK (bC (Q_r hO))
  refine bN ?_
  refine bH [(0, (eL aD f0))] ?_
  refine aZ aH 1 [] [(3, (eI (-2 : Int)))] ?_
  refine cT (fun T H => Has T [] ∧ aO ⟨H0, [], []⟩ H [] ∧ uM  = some r) ?_ ?_
  · clear hO h0
    rintro T H ⟨hT, hO, h0⟩
    refine bB hT ?_
    clear hT
    unfold uM at h0
    refine bW aH 1 [(2, (aL true))] ?_
    refine bL ?_
    obtain rfl := oI h0
    exact aK (Q_r hO)
  refine aZ aH 3 [0] [(9, (eL aD f0)), (10, (eI (lN f0))), (11, (eI (0 : Int)))] ?_
  refine bQ 0 ?_
  refine cO [(3, (eI (-2 : Int))), (9, (eL aD f0)), (10, (eI (lN f0))), (11, (eI (0 : Int)))] ?_
  refine cK (fun T H => ∃ pU : Int, ∃ t9 : (List aB), ∃ t10 : Int, ∃ t11 : Int, Has T [(3, (eI pU)), (9, (eL aD t9)), (10, (eI t10)), (11, (eI t11))] ∧ aO ⟨H0, [], []⟩ H [] ∧ xH pU t9 t10 t11 = some r) ?_ ⟨(-2 : Int), f0, (lN f0), (0 : Int), .eq (by kernel_rfl), hO, h0⟩
  clear hO h0
  rintro T H ⟨pU, t9, t10, t11, hT, hO, h0⟩
  refine bB hT ?_
  clear hT
  unfold xH at h0
  obtain ⟨rr0, hl0, h0⟩ := aW h0
  refine cA (by kernel_rfl) (fun (s : Int × Int) T H => Has T [(3, (eI s.1)), (9, (eL aD t9)), (10, (eI t10)), (11, (eI s.2))] ∧ aO ⟨H0, [], []⟩ H []) hl0 ⟨.eq (by kernel_rfl), hO⟩ ?_
  clear hO
  rintro k0 s out1 T H ⟨hT, hO⟩ h1 ho0
  obtain ⟨pU, t11⟩ := s
  replace h1 : lR t9 t10 pU t11 = some out1 := h1
  try dsimp only at hT
  refine bB hT ?_
  clear hT
  unfold lR at h1
  refine aZ aH 1 [] [(12, (aL (decide (t11 < t10))))] ?_
  refine aR ?_
  refine bM h1 (fun h1 => ?_) (fun h1 => ?_)
  · refine bN ?_
    refine bH [(3, (eI pU)), (9, (eL aD t9)), (10, (eI t10)), (11, (eI t11))] ?_
    refine aR ?_
    refine bQ 1 ?_
    refine aR ?_
    refine aT aH 4 ?_
    obtain ⟨c3, h1⟩ := bJ h1
    refine pS 2 [0 ≤ t11 ∧ t11 < (lN t9)] ⟨c3, trivial⟩ ?_
    refine kZ 2 (aD (aB.mk 0 0)) (by kernel_rfl) (by kernel_rfl) hO ?_
    intro lo4 H hO
    refine gM 0 lo4 2 0 (aD (aB.mk 0 0)) (aD (gD t9 t11)) [(aD (aB.mk 0 0))] [(lo4, 2, [(aD (gD t9 t11))])] hO rfl (by kernel_rfl) ?_
    intro H hO
    refine cF ?_
    refine bR [] [(5, (.lp lo4 0 0))] ?_
    refine aR ?_
    refine aR ?_
    refine aT aH 20 ?_
    refine bK 1 ?_
    refine jB 0 lo4 2 0 (aD (gD t9 t11)) (eI ((gD t9 t11).At)) [(aD (gD t9 t11))] hO rfl ?_
    refine bK 6 ?_
    refine xD [(19, false)] 0 lo4 2 0 (aD (gD t9 t11)) (eI ((gD t9 t11).At)) [(aD (gD t9 t11))] (by kernel_rfl) (by kernel_rfl) hO (by kernel_rfl) (!(decide (((gD t9 t11).At) ≤ pU))) (by kernel_rfl) (fun hb5 => rfl) ?_
    refine bK 11 ?_
    refine xD [(24, false)] 0 lo4 2 0 (aD (gD t9 t11)) (eI ((gD t9 t11).Net)) [(aD (gD t9 t11))] (by kernel_rfl) (by kernel_rfl) hO (by kernel_rfl) (!((decide (((gD t9 t11).At) ≤ pU)) || (decide ((1125899906842624 : Int) ≤ ((gD t9 t11).At))))) (by kernel_rfl) (fun hb6 => rfl) ?_
    refine bK 16 ?_
    refine xD [(29, false)] 0 lo4 2 0 (aD (gD t9 t11)) (eI ((gD t9 t11).Net)) [(aD (gD t9 t11))] (by kernel_rfl) (by kernel_rfl) hO (by kernel_rfl) (!(((decide (((gD t9 t11).At) ≤ pU)) || (decide ((1125899906842624 : Int) ≤ ((gD t9 t11).At)))) || (decide (((gD t9 t11).Net) = (0 : Int))))) (by kernel_rfl) (fun hb7 => rfl) ?_
    obtain ⟨x8, hx9, h1⟩ := aW h1
    refine eA [(29, false)] 109 [(eI ((gD t9 t11).Net))] (aL x8) (!(((decide (((gD t9 t11).At) ≤ pU)) || (decide ((1125899906842624 : Int) ≤ ((gD t9 t11).At)))) || (decide (((gD t9 t11).Net) = (0 : Int))))) (by kernel_rfl) (by kernel_rfl) (by kernel_rfl) (fun hb10 => (GC ((gD t9 t11).Net) _ (fG hx9 hb10))) hO ?_
    intro H hO
    refine bD ?_
    refine bR [3] [(34, (aL ((((decide (((gD t9 t11).At) ≤ pU)) || (decide ((1125899906842624 : Int) ≤ ((gD t9 t11).At)))) || (decide (((gD t9 t11).Net) = (0 : Int)))) || (!x8))))] ?_
    refine bM h1 (fun h1 => ?_) (fun h1 => ?_)
    · refine aR ?_
      refine aT aH 1 ?_
      refine bD ?_
      refine dF [(2, (aL false))] ?_
      replace hO := hO.pick (L' := []) [] (by decide) (by kernel_rfl)
      refine aK (aI (?_))
      refine bL ?_
      obtain rfl := oI h1
      obtain rfl : _ = rr0 := ho0
      replace h0 : some false = some r := h0
      obtain rfl := oI h0
      exact aK (bC (bY (bC (bC (bY (bC (Q_r hO)))))))
    refine bN ?_
    refine bH [(5, (.lp lo4 0 0)), (9, (eL aD t9)), (10, (eI t10)), (11, (eI t11))] ?_
    refine aT aH 3 ?_
    refine bK 1 ?_
    refine jB 0 lo4 2 0 (aD (gD t9 t11)) (eI ((gD t9 t11).At)) [(aD (gD t9 t11))] hO rfl ?_
    refine bD ?_
    refine dF [(3, (eI ((gD t9 t11).At))), (9, (eL aD t9)), (10, (eI t10)), (11, (eI t11))] ?_
    replace hO := hO.pick (L' := []) [] (by decide) (by kernel_rfl)
    refine aK (aV (aI (?_)))
    refine aT aH 2 ?_
    refine bD ?_
    exact aK (aI (⟨rfl, _, (oI h1).symm, .eq (by kernel_rfl), hO⟩))
  refine dS 0 ?_
  obtain rfl := oI h1
  obtain rfl : _ = rr0 := ho0
  replace h0 : uM  = some r := h0
  exact aK (aY (aY (bO (aI (⟨rfl, .eq (by kernel_rfl), hO, h0⟩)))))

theorem QB (f0 : (List aB)) (r : ((List aB) × Int)) (h0 : rQ f0 = some r) : bS Try.prog 114 [(eL aD f0)] (.tup [(eL aD r.1), (eI r.2)]) := by
  intro H0
  refine cG Try.func114 ?_
  have hO := aO.start H0
  unfold rQ at h0
  refine aZ aH 2 [] [] ?_
  refine aR ?_
  refine aR ?_
  refine aT aH 3 ?_
  refine bK 1 ?_
  obtain ⟨x1, hx2, h0⟩ := aW h0
  refine cM (zB f0 _ hx2) hO ?_
  intro H hO
  refine bD ?_
  refine bR [] [(6, (aL (!x1)))] ?_
  refine bM h0 (fun h0 => ?_) (fun h0 => ?_)
  · refine bW aH 2 [(2, (.sl true 0 (fun _ => .bad))), (3, (eI (7 : Int)))] ?_
    refine bL ?_
    refine cS (l := [(2, (eL aD ([]))), (3, (eI (7 : Int)))]) ⟨[(2, (.sl true 0 (fun _ => .bad))), (3, (eI (7 : Int)))], by kernel_rfl, rfl, ⟨fM, aX.refl _, trivial⟩⟩ ?_
    obtain rfl := oI h0
    exact aK (bC (Q_r hO))
  refine bN ?_
  refine bH [(0, (eL aD f0))] ?_
  refine bW aH 3 [(2, (eL aD f0)), (3, (eI (0 : Int)))] ?_
  refine bL ?_
  obtain rfl := oI h0
  exact aK (Q_r hO)

theorem QC (l0 : (List aB)) (r : ((List aB) × Int)) (h0 : uB l0 = some r) : bS Try.prog 67 [(eL aD l0)] (.tup [(eL aD r.1), (eI r.2)]) := by
  intro H0
  refine cG Try.func67 ?_
  have hO := aO.start H0
  unfold uB at h0
  refine aZ aH 2 [] [] ?_
  refine aR ?_
  refine aR ?_
  refine aT aH 2 ?_
  refine bK 1 ?_
  obtain ⟨x1, hx2, h0⟩ := aW h0
  refine cM (mA l0 108 [] [] (fun y0 => rB y0) (fun y0 r h => MB y0 r h) _ hx2) hO ?_
  intro H hO
  refine cF ?_
  refine bR [] [(9, (aL x1))] ?_
  refine bM h0 (fun h0 => ?_) (fun h0 => ?_)
  · refine bW aH 2 [(2, (.sl true 0 (fun _ => .bad))), (3, (eI (2 : Int)))] ?_
    refine bL ?_
    refine cS (l := [(2, (eL aD ([]))), (3, (eI (2 : Int)))]) ⟨[(2, (.sl true 0 (fun _ => .bad))), (3, (eI (2 : Int)))], by kernel_rfl, rfl, ⟨fM, aX.refl _, trivial⟩⟩ ?_
    obtain rfl := oI h0
    exact aK (bC (Q_r hO))
  refine bN ?_
  refine bH [(0, (eL aD l0))] ?_
  refine aR ?_
  refine aR ?_
  refine aT aH 2 ?_
  refine bK 1 ?_
  obtain ⟨x5, hx6, h0⟩ := aW h0
  refine cM (mA l0 110 [] [] (fun y0 => rI y0) (fun y0 r h => MA y0 r h) _ hx6) hO ?_
  intro H hO
  refine cF ?_
  refine bR [] [(11, (aL x5))] ?_
  refine bM h0 (fun h0 => ?_) (fun h0 => ?_)
  · refine bW aH 2 [(2, (.sl true 0 (fun _ => .bad))), (3, (eI (13 : Int)))] ?_
    refine bL ?_
    refine cS (l := [(2, (eL aD ([]))), (3, (eI (13 : Int)))]) ⟨[(2, (.sl true 0 (fun _ => .bad))), (3, (eI (13 : Int)))], by kernel_rfl, rfl, ⟨fM, aX.refl _, trivial⟩⟩ ?_
    obtain rfl := oI h0
    exact aK (bC (Q_r hO))
  refine bN ?_
  refine bH [(0, (eL aD l0))] ?_
  refine aR ?_
  refine aT aH 3 ?_
  refine bK 1 ?_
  obtain ⟨x9, hx10, h0⟩ := aW h0
  refine RU (L' := fun lo11 => [(lo11, 2, List.map aD x9)]) 2 (List.map aD x9) 111 [(eL aD l0)] (fun lo11 => (.msl 2 lo11 0 (List.length x9))) (by kernel_rfl) (by kernel_rfl) (vI l0 _ hx10) hO (fun _ => by kernel_rfl) ?_
  intro lo11 H hO
  refine bD ?_
  refine bH [(4, (.msl 2 lo11 0 (List.length x9)))] ?_
  refine aR ?_
  refine aT aH 2 ?_
  refine bK 1 ?_
  obtain ⟨x12, hx13, h0⟩ := aW h0
  refine nN [(lo11, 2, List.map aD x12)] 0 (qE lo11 x9 113 [] [] (fun y0 y1 => mH y0 y1) (fun y0 y1 r h => LR y0 y1 r h) _ hx13) hO ?_
  intro H hO hl14
  simp only [List.length_map] at hl14
  refine cF ?_
  refine cS (l := [(4, (.msl 2 lo11 0 (List.length x12)))]) ⟨[(4, (.msl 2 lo11 0 (List.length x9)))], by kernel_rfl, rfl, ⟨aX.eq (by simp [hl14]), trivial⟩⟩ ?_
  refine aK (aI (?_))
  refine aR ?_
  refine aT aH 2 ?_
  refine qL (xs := []) (k := 2) (by kernel_rfl) (by kernel_rfl) ?_
  refine bD ?_
  refine bR [] [(5, (.sl true 0 (fun _ => .bad)))] ?_
  refine cT (fun T H => ∃ out5 : List aB, ∃ lo15 : Nat, Has T [(5, (.msl 2 lo15 0 (List.length out5)))] ∧ aO ⟨H0, [], []⟩ H [(lo15, 2, List.map aD out5)] ∧ sJ out5 = some r) ?_ ?_
  · clear hO h0
    rintro T H ⟨out5, lo15, hT, hO, h0⟩
    refine bB hT ?_
    clear hT
    unfold sJ at h0
    refine aR ?_
    refine aT aH 6 ?_
    refine AR (e := aD) out5 0 5 2 lo15 (List.length out5) [] (by kernel_rfl) hO (by kernel_rfl) (by kernel_rfl) (by kernel_rfl) (by kernel_rfl) ?_
    intro H hO
    refine bK 1 ?_
    obtain ⟨x16, hx17, h0⟩ := aW h0
    refine cM (QB out5 _ hx17) hO ?_
    intro H hO
    refine bD ?_
    refine bH [(2, (eL aD x16.1)), (3, (eI x16.2))] ?_
    refine bL ?_
    obtain rfl := oI h0
    exact aK (Q_r hO)
  refine aZ aH 1 [] [(6, (eI (0 : Int)))] ?_
  refine bQ 0 ?_
  refine cO [(4, (.msl 2 lo11 0 (List.length x12))), (5, (.sl true 0 (fun _ => .bad))), (6, (eI (0 : Int)))] ?_
  refine BJ (el := (fun _ => .bad)) 1 5 2 hO (by kernel_rfl) ?_
  intro lo40 H41 hO
  refine cK (fun T H => ∃ all4 : List aB, ∃ out5 : List aB, ∃ i6 : Int, ∃ lo21 : Nat, ∃ lo22 : Nat, Has T [(4, (.msl 2 lo21 0 (List.length all4))), (5, (.msl 2 lo22 0 (List.length out5))), (6, (eI i6))] ∧ aO ⟨H0, [], []⟩ H [(lo21, 2, List.map aD all4), (lo22, 2, List.map aD out5)] ∧ wT all4 out5 i6 = some r) ?_ ⟨x12, ([] : List aB), (0 : Int), lo11, lo40, .eq (by kernel_rfl), hO, h0⟩
  clear hO h0
  rintro T H ⟨all4, out5, i6, lo21, lo22, hT, hO, h0⟩
  refine bB hT ?_
  clear hT
  unfold wT at h0
  obtain ⟨rr0, hl0, h0⟩ := aW h0
  refine cA (by kernel_rfl) (fun (s : List aB × List aB × Int) T H => ∃ lo21 : Nat, ∃ lo22 : Nat, Has T [(4, (.msl 2 lo21 0 (List.length s.1))), (5, (.msl 2 lo22 0 (List.length s.2.1))), (6, (eI s.2.2))] ∧ aO ⟨H0, [], []⟩ H [(lo21, 2, List.map aD s.1), (lo22, 2, List.map aD s.2.1)]) hl0 ⟨lo21, lo22, .eq (by kernel_rfl), hO⟩ ?_
  clear hO
  rintro k0 s out1 T H ⟨lo21, lo22, hT, hO⟩ h1 ho0
  obtain ⟨all4, out5, i6⟩ := s
  replace h1 : kS all4 out5 i6 = some out1 := h1
  try dsimp only at hT
  refine bB hT ?_
  clear hT
  unfold kS at h1
  refine aR ?_
  refine aZ aH 4 [] [(20, (aL (decide (i6 < (lN all4)))))] ?_
  refine bM h1 (fun h1 => ?_) (fun h1 => ?_)
  · refine bN ?_
    refine bH [(4, (.msl 2 lo21 0 (List.length all4))), (5, (.msl 2 lo22 0 (List.length out5))), (6, (eI i6))] ?_
    refine bQ 1 ?_
    refine aR ?_
    refine aT aH 8 ?_
    obtain ⟨c24, h1⟩ := bJ h1
    refine pS 4 [0 ≤ i6 ∧ i6 < (lN all4)] ⟨c24, trivial⟩ ?_
    refine jB 0 lo21 2 (0 + Int.toNat i6) (aD (gD all4 i6)) (eI ((gD all4 i6).At)) (List.map aD all4) hO (cN c24) ?_
    refine bK 6 ?_
    refine kZ 2 (aD (aB.mk 0 0)) (by kernel_rfl) (by kernel_rfl) hO ?_
    intro lo25 H hO
    refine gM 2 lo25 2 0 (aD (aB.mk 0 0)) (aD (aB.mk ((gD all4 i6).At) 0)) [(aD (aB.mk 0 0))] [(lo21, 2, List.map aD all4), (lo22, 2, List.map aD out5), (lo25, 2, [(aD (aB.mk ((gD all4 i6).At) 0))])] hO rfl (by kernel_rfl) ?_
    intro H hO
    refine cF ?_
    refine bR [] [(7, (.lp lo25 0 0))] ?_
    refine cT (fun T H => ∃ all4 : List aB, ∃ out5 : List aB, ∃ i6 : Int, ∃ j7 : aB, ∃ lo26 : Nat, ∃ lo27 : Nat, Has T [(4, (.msl 2 lo26 0 (List.length all4))), (5, (.msl 2 lo27 0 (List.length out5))), (6, (eI i6)), (7, (.lp lo25 0 0))] ∧ aO ⟨H0, [], []⟩ H [(lo26, 2, List.map aD all4), (lo27, 2, List.map aD out5), (lo25, 2, [(aD j7)])] ∧ sI all4 out5 i6 j7 = some out1) ?_ ?_
    · clear hO h1
      rintro T H ⟨all4, out5, i6, j7, lo26, lo27, hT, hO, h1⟩
      refine bB hT ?_
      clear hT
      unfold sI at h1
      refine aR ?_
      refine aT aH 8 ?_
      refine bK 1 ?_
      refine jB 2 lo25 2 0 (aD j7) (eI j7.Net) [(aD j7)] hO rfl ?_
      refine bK 5 ?_
      refine xD [(55, true)] 2 lo25 2 0 (aD j7) (eI j7.At) [(aD j7)] (by kernel_rfl) (by kernel_rfl) hO (by kernel_rfl) (!decide (j7.Net = (0 : Int))) (by kernel_rfl) (fun hb28 => rfl) ?_
      refine bD ?_
      refine bR [] [(59, (aL ((!decide (j7.Net = (0 : Int))) && (decide (j7.At < (1125899906842624 : Int))))))] ?_
      refine bM h1 (fun h1 => ?_) (fun h1 => ?_)
      · refine aT aH 5 ?_
        refine bK 1 ?_
        refine jB 2 lo25 2 0 (aD j7) (aD j7) [(aD j7)] hO rfl ?_
        refine qL (xs := [(aD j7)]) (k := 2) (by kernel_rfl) (by kernel_rfl) ?_
        obtain ⟨c31, h1⟩ := bJ h1
        refine FJ (e := aD) out5 ([j7]) 1 lo27 2 16 (dO [(aD j7)]) (fun lo30 => [(lo26, 2, List.map aD all4), (lo30, 2, List.map aD (out5 ++ ([j7]))), (lo25, 2, [(aD j7)])]) (by kernel_rfl) (by kernel_rfl) hO (by kernel_rfl) (by kernel_rfl) c31 (fun _ => by kernel_rfl) ?_
        intro lo30 H hO
        refine bD ?_
        replace hO := hO.pick (L' := [(lo26, 2, List.map aD all4), (lo30, 2, List.map aD (out5 ++ ([j7])))]) [0, 1] (by decide) (by kernel_rfl)
        exact aK (aV (aI (⟨rfl, _, (oI h1).symm, _, _, .eq (by kernel_rfl), hO⟩)))
      refine bN ?_
      replace hO := hO.pick (L' := [(lo26, 2, List.map aD all4), (lo27, 2, List.map aD out5)]) [0, 1] (by decide) (by kernel_rfl)
      exact aK (aV (aI (⟨rfl, _, (oI h1).symm, _, _, .eq (by kernel_rfl), hO⟩)))
    refine bQ 2 ?_
    refine cO [(4, (.msl 2 lo21 0 (List.length all4))), (5, (.msl 2 lo22 0 (List.length out5))), (6, (eI i6)), (7, (.lp lo25 0 0))] ?_
    refine cK (fun T H => ∃ all4 : List aB, ∃ out5 : List aB, ∃ i6 : Int, ∃ j7 : aB, ∃ lo34 : Nat, ∃ lo35 : Nat, Has T [(4, (.msl 2 lo34 0 (List.length all4))), (5, (.msl 2 lo35 0 (List.length out5))), (6, (eI i6)), (7, (.lp lo25 0 0))] ∧ aO ⟨H0, [], []⟩ H [(lo34, 2, List.map aD all4), (lo35, 2, List.map aD out5), (lo25, 2, [(aD j7)])] ∧ wE all4 out5 i6 j7 = some out1) ?_ ⟨all4, out5, i6, aB.mk ((gD all4 i6).At) 0, lo21, lo22, .eq (by kernel_rfl), hO, h1⟩
    clear hO h1
    rintro T H ⟨all4, out5, i6, j7, lo34, lo35, hT, hO, h1⟩
    refine bB hT ?_
    clear hT
    unfold wE at h1
    obtain ⟨rr1, hl1, h1⟩ := aW h1
    refine cA (by kernel_rfl) (fun (s : List aB × List aB × Int × aB) T H => ∃ lo34 : Nat, ∃ lo35 : Nat, Has T [(4, (.msl 2 lo34 0 (List.length s.1))), (5, (.msl 2 lo35 0 (List.length s.2.1))), (6, (eI s.2.2.1)), (7, (.lp lo25 0 0))] ∧ aO ⟨H0, [], []⟩ H [(lo34, 2, List.map aD s.1), (lo35, 2, List.map aD s.2.1), (lo25, 2, [(aD s.2.2.2)])]) hl1 ⟨lo34, lo35, .eq (by kernel_rfl), hO⟩ ?_
    clear hO
    rintro k1 s out2 T H ⟨lo34, lo35, hT, hO⟩ h2 ho1
    obtain ⟨all4, out5, i6, j7⟩ := s
    replace h2 : iY all4 out5 i6 j7 = some out2 := h2
    try dsimp only at hT
    refine bB hT ?_
    clear hT
    unfold iY at h2
    refine aR ?_
    refine aR ?_
    obtain ⟨c36, h2⟩ := bJ h2
    refine iV (iU []) aH 14 ?_
    refine EO (K := fun T H => Has (lift T) [(4, (.msl 2 lo34 0 (List.length all4))), (5, (.msl 2 lo35 0 (List.length out5))), (6, (eI i6)), (7, (.lp lo25 0 0)), (40, (aL ((decide (i6 < (lN all4))) && (decide (((gD all4 i6).At) = j7.At)))))] ∧ aO ⟨H0, [], []⟩ H [(lo34, 2, List.map aD all4), (lo35, 2, List.map aD out5), (lo25, 2, [(aD j7)])]) ?_ ?_
    · refine nM 5 ?_
      refine FB (t := 31) (e := decide (i6 < (lN all4))) (by kernel_rfl) (fun hg37 => ?_) (fun hg37 => ?_)
      · refine dG 9 [0 ≤ i6 ∧ i6 < (lN all4)] ⟨(c36 hg37), trivial⟩ ?_
        refine zC 0 lo34 2 (0 + Int.toNat i6) (aD (gD all4 i6)) (eI ((gD all4 i6).At)) (List.map aD all4) (by kernel_rfl) (by kernel_rfl) (by kernel_rfl) hO (by kernel_rfl) (cN (c36 hg37)) ?_
        refine nM 11 ?_
        refine zC 2 lo25 2 0 (aD j7) (eI j7.At) [(aD j7)] (by kernel_rfl) (by kernel_rfl) (by kernel_rfl) hO (by kernel_rfl) rfl ?_
        refine nL ?_
        exact ⟨⟨[(4, (.msl 2 lo34 0 (List.length all4))), (5, (.msl 2 lo35 0 (List.length out5))), (6, (eI i6)), (7, (.lp lo25 0 0)), (40, (aL (decide (((gD all4 i6).At) = j7.At))))], by kernel_rfl, rfl, ⟨aX.refl _, aX.refl _, aX.refl _, aX.refl _, aX.eq (congrArg aL (FI hg37 rfl).symm), trivial⟩⟩, hO⟩
      refine nL ?_
      exact ⟨⟨[(4, (.msl 2 lo34 0 (List.length all4))), (5, (.msl 2 lo35 0 (List.length out5))), (6, (eI i6)), (7, (.lp lo25 0 0)), (40, (aL false))], by kernel_rfl, rfl, ⟨aX.refl _, aX.refl _, aX.refl _, aX.refl _, aX.eq (congrArg aL (FI hg37 rfl).symm), trivial⟩⟩, hO⟩
    · rintro T H ⟨hT, hO⟩
      refine cS hT ?_
      clear hT
      refine aK (aI ?_)
      refine bM h2 (fun h2 => ?_) (fun h2 => ?_)
      · refine bN ?_
        refine bH [(4, (.msl 2 lo34 0 (List.length all4))), (5, (.msl 2 lo35 0 (List.length out5))), (6, (eI i6)), (7, (.lp lo25 0 0))] ?_
        refine aR ?_
        refine bQ 3 ?_
        refine iV (iU []) aH 10 ?_
        refine nM 1 ?_
        refine kH 2 lo25 2 0 (aD j7) (eI j7.Net) [(aD j7)] hO rfl ?_
        obtain ⟨c39, h2⟩ := bJ h2
        refine dG 6 [0 ≤ i6 ∧ i6 < (lN all4)] ⟨c39, trivial⟩ ?_
        refine kH 0 lo34 2 (0 + Int.toNat i6) (aD (gD all4 i6)) (eI ((gD all4 i6).Net)) (List.map aD all4) hO (cN c39) ?_
        refine nM 9 ?_
        refine qJ 2 lo25 2 0 (aD j7) (aD (aB.mk j7.At (wR (j7.Net + ((gD all4 i6).Net))))) [(aD j7)] [(lo34, 2, List.map aD all4), (lo35, 2, List.map aD out5), (lo25, 2, [(aD (aB.mk j7.At (wR (j7.Net + ((gD all4 i6).Net)))))])] hO rfl (by kernel_rfl) ?_
        intro H hO
        refine wL (by kernel_rfl) ?_
        refine dF [(4, (.msl 2 lo34 0 (List.length all4))), (5, (.msl 2 lo35 0 (List.length out5))), (6, (eI i6)), (7, (.lp lo25 0 0))] ?_
        refine aK (aV (aI (?_)))
        refine aT aH 3 ?_
        refine bD ?_
        exact aK (aI (⟨rfl, _, (oI h2).symm, _, _, .eq (by kernel_rfl), hO⟩))
      refine dS 2 ?_
      obtain rfl := oI h2
      obtain rfl : _ = rr1 := ho1
      replace h1 : sI all4 out5 i6 j7 = some out1 := h1
      exact aK (aY (aY (bO (aI (⟨rfl, _, _, _, _, _, _, .eq (by kernel_rfl), hO, h1⟩)))))
  refine dS 0 ?_
  replace hO := hO.pick (L' := [(lo22, 2, List.map aD out5)]) [1] (by decide) (by kernel_rfl)
  obtain rfl := oI h1
  obtain rfl : _ = rr0 := ho0
  replace h0 : sJ out5 = some r := h0
  exact aK (aY (aY (bO (aI (⟨rfl, _, _, .eq (by kernel_rfl), hO, h0⟩)))))

theorem LX (f0 : (List aB)) (r : ((List aB) × Int)) (h0 : qV f0 = some r) : bS Try.prog 66 [(eL aD f0)] (.tup [(eL aD r.1), (eI r.2)]) := by
  intro H0
  refine cG Try.func66 ?_
  have hO := aO.start H0
  unfold qV at h0
  refine aZ aH 2 [] [] ?_
  refine aR ?_
  refine aT aH 6 ?_
  refine bK 1 ?_
  obtain ⟨x1, hx2, h0⟩ := aW h0
  refine cM (QC f0 _ hx2) hO ?_
  intro H hO
  refine bD ?_
  refine bH [(2, (eL aD x1.1)), (3, (eI x1.2))] ?_
  refine bL ?_
  obtain rfl := oI h0
  exact aK (Q_r hO)

theorem PV (l0 : (List aC)) (r : ((List aC) × Int)) (h0 : uG l0 = some r) : bS Try.prog 28 [(eL aE l0)] (.tup [(eL aE r.1), (eI r.2)]) := by
  intro H0
  refine cG Try.func28 ?_
  have hO := aO.start H0
  unfold uG at h0
  refine aZ aH 2 [] [] ?_
  refine aR ?_
  refine aR ?_
  refine aT aH 2 ?_
  refine bK 1 ?_
  obtain ⟨x1, hx2, h0⟩ := aW h0
  refine cM (mD l0 56 [] [] (fun y0 => rE y0) (fun y0 r h => LZ y0 r h) _ hx2) hO ?_
  intro H hO
  refine cF ?_
  refine bR [] [(6, (aL x1))] ?_
  refine bM h0 (fun h0 => ?_) (fun h0 => ?_)
  · refine bW aH 2 [(2, (.sl true 0 (fun _ => .bad))), (3, (eI (2 : Int)))] ?_
    refine bL ?_
    refine cS (l := [(2, (eL aE ([]))), (3, (eI (2 : Int)))]) ⟨[(2, (.sl true 0 (fun _ => .bad))), (3, (eI (2 : Int)))], by kernel_rfl, rfl, ⟨fM, aX.refl _, trivial⟩⟩ ?_
    obtain rfl := oI h0
    exact aK (bC (Q_r hO))
  refine bN ?_
  refine bH [(0, (eL aE l0))] ?_
  refine aR ?_
  refine aR ?_
  refine aT aH 2 ?_
  refine bK 1 ?_
  obtain ⟨x5, hx6, h0⟩ := aW h0
  refine cM (mD l0 58 [] [] (fun y0 => rA y0) (fun y0 r h => LY y0 r h) _ hx6) hO ?_
  intro H hO
  refine cF ?_
  refine bR [] [(8, (aL x5))] ?_
  refine bM h0 (fun h0 => ?_) (fun h0 => ?_)
  · refine bW aH 2 [(2, (.sl true 0 (fun _ => .bad))), (3, (eI (13 : Int)))] ?_
    refine bL ?_
    refine cS (l := [(2, (eL aE ([]))), (3, (eI (13 : Int)))]) ⟨[(2, (.sl true 0 (fun _ => .bad))), (3, (eI (13 : Int)))], by kernel_rfl, rfl, ⟨fM, aX.refl _, trivial⟩⟩ ?_
    obtain rfl := oI h0
    exact aK (bC (Q_r hO))
  refine bN ?_
  refine bH [(0, (eL aE l0))] ?_
  refine aR ?_
  refine aT aH 3 ?_
  refine bK 1 ?_
  obtain ⟨x9, hx10, h0⟩ := aW h0
  refine RU (L' := fun lo11 => [(lo11, 3, List.map aE x9)]) 3 (List.map aE x9) 59 [(eL aE l0)] (fun lo11 => (.msl 3 lo11 0 (List.length x9))) (by kernel_rfl) (by kernel_rfl) (vJ l0 _ hx10) hO (fun _ => by kernel_rfl) ?_
  intro lo11 H hO
  refine bD ?_
  refine bH [(4, (.msl 3 lo11 0 (List.length x9)))] ?_
  refine aR ?_
  refine aT aH 2 ?_
  refine bK 1 ?_
  obtain ⟨x12, hx13, h0⟩ := aW h0
  refine nN [(lo11, 3, List.map aE x12)] 0 (qF lo11 x9 61 [] [] (fun y0 y1 => mF y0 y1) (fun y0 y1 r h => LQ y0 y1 r h) _ hx13) hO ?_
  intro H hO hl14
  simp only [List.length_map] at hl14
  refine cF ?_
  refine cS (l := [(4, (.msl 3 lo11 0 (List.length x12)))]) ⟨[(4, (.msl 3 lo11 0 (List.length x9)))], by kernel_rfl, rfl, ⟨aX.eq (by simp [hl14]), trivial⟩⟩ ?_
  refine aK (aI (?_))
  refine aR ?_
  refine aT aH 6 ?_
  refine AR (e := aE) x12 0 4 3 lo11 (List.length x12) [] (by kernel_rfl) hO (by kernel_rfl) (by kernel_rfl) (by kernel_rfl) (by kernel_rfl) ?_
  intro H hO
  refine bK 1 ?_
  obtain ⟨x15, hx16, h0⟩ := aW h0
  refine cM (LK x12 66 [] [] (fun y0 => qV y0) (fun y0 r h => LX y0 r h) _ hx16) hO ?_
  intro H hO
  refine bD ?_
  refine bH [(2, (eL aE x15.1)), (3, (eI x15.2))] ?_
  refine bL ?_
  obtain rfl := oI h0
  exact aK (Q_r hO)

theorem NM (l0 : (List aG)) (r : ((List aC) × Int)) (h0 : sE l0 = some r) : bS Try.prog 33 [(eL aF l0)] (.tup [(eL aE r.1), (eI r.2)]) := by
  intro H0
  refine cG Try.func33 ?_
  have hO := aO.start H0
  unfold sE at h0
  refine aZ aH 2 [] [] ?_
  refine aR ?_
  refine aR ?_
  refine aT aH 2 ?_
  refine bK 1 ?_
  obtain ⟨x1, hx2, h0⟩ := aW h0
  refine cM (qG l0 75 [] [] (fun y0 => qB y0) (fun y0 r h => JK y0 r h) _ hx2) hO ?_
  intro H hO
  refine cF ?_
  refine bR [] [(8, (aL x1))] ?_
  refine bM h0 (fun h0 => ?_) (fun h0 => ?_)
  · refine bW aH 2 [(2, (.sl true 0 (fun _ => .bad))), (3, (eI (2 : Int)))] ?_
    refine bL ?_
    refine cS (l := [(2, (eL aE ([]))), (3, (eI (2 : Int)))]) ⟨[(2, (.sl true 0 (fun _ => .bad))), (3, (eI (2 : Int)))], by kernel_rfl, rfl, ⟨fM, aX.refl _, trivial⟩⟩ ?_
    obtain rfl := oI h0
    exact aK (bC (Q_r hO))
  refine bN ?_
  refine bH [(0, (eL aF l0))] ?_
  refine aR ?_
  refine aZ aH 3 [] [(11, (aL (decide ((4096 : Int) < (lN l0)))))] ?_
  refine bM h0 (fun h0 => ?_) (fun h0 => ?_)
  · refine bW aH 2 [(2, (.sl true 0 (fun _ => .bad))), (3, (eI (7 : Int)))] ?_
    refine bL ?_
    refine cS (l := [(2, (eL aE ([]))), (3, (eI (7 : Int)))]) ⟨[(2, (.sl true 0 (fun _ => .bad))), (3, (eI (7 : Int)))], by kernel_rfl, rfl, ⟨fM, aX.refl _, trivial⟩⟩ ?_
    obtain rfl := oI h0
    exact aK (bC (Q_r hO))
  refine bN ?_
  refine bH [(0, (eL aF l0))] ?_
  refine aR ?_
  refine aT aH 5 ?_
  refine bK 3 ?_
  obtain ⟨c6, h0⟩ := bJ h0
  refine FG 3 40 (wR ((2 : Int) * (lN l0))) (by kernel_rfl) (by kernel_rfl) c6 hO ?_
  intro lo7 H hO
  refine bD ?_
  refine bR [] [(4, (.msl 3 lo7 0 (List.length ([] : List aC))))] ?_
  refine cT (fun T H => ∃ out4 : List aC, ∃ lo8 : Nat, Has T [(4, (.msl 3 lo8 0 (List.length out4)))] ∧ aO ⟨H0, [], []⟩ H [(lo8, 3, List.map aE out4)] ∧ rJ out4 = some r) ?_ ?_
  · clear hO h0
    rintro T H ⟨out4, lo8, hT, hO, h0⟩
    refine bB hT ?_
    clear hT
    unfold rJ at h0
    refine aR ?_
    refine aT aH 6 ?_
    refine AR (e := aE) out4 0 4 3 lo8 (List.length out4) [] (by kernel_rfl) hO (by kernel_rfl) (by kernel_rfl) (by kernel_rfl) (by kernel_rfl) ?_
    intro H hO
    refine bK 1 ?_
    obtain ⟨x9, hx10, h0⟩ := aW h0
    refine cM (PV out4 _ hx10) hO ?_
    intro H hO
    refine bD ?_
    refine bH [(2, (eL aE x9.1)), (3, (eI x9.2))] ?_
    refine bL ?_
    obtain rfl := oI h0
    exact aK (Q_r hO)
  refine aZ aH 3 [0] [(16, (eL aF l0)), (17, (eI (lN l0))), (18, (eI (0 : Int)))] ?_
  refine bQ 0 ?_
  refine cO [(4, (.msl 3 lo7 0 (List.length ([] : List aC)))), (16, (eL aF l0)), (17, (eI (lN l0))), (18, (eI (0 : Int)))] ?_
  refine cK (fun T H => ∃ out4 : List aC, ∃ t16 : (List aG), ∃ t17 : Int, ∃ t18 : Int, ∃ lo13 : Nat, Has T [(4, (.msl 3 lo13 0 (List.length out4))), (16, (eL aF t16)), (17, (eI t17)), (18, (eI t18))] ∧ aO ⟨H0, [], []⟩ H [(lo13, 3, List.map aE out4)] ∧ uU out4 t16 t17 t18 = some r) ?_ ⟨([] : List aC), l0, (lN l0), (0 : Int), lo7, .eq (by kernel_rfl), hO, h0⟩
  clear hO h0
  rintro T H ⟨out4, t16, t17, t18, lo13, hT, hO, h0⟩
  refine bB hT ?_
  clear hT
  unfold uU at h0
  obtain ⟨rr0, hl0, h0⟩ := aW h0
  refine cA (by kernel_rfl) (fun (s : List aC × Int) T H => ∃ lo13 : Nat, Has T [(4, (.msl 3 lo13 0 (List.length s.1))), (16, (eL aF t16)), (17, (eI t17)), (18, (eI s.2))] ∧ aO ⟨H0, [], []⟩ H [(lo13, 3, List.map aE s.1)]) hl0 ⟨lo13, .eq (by kernel_rfl), hO⟩ ?_
  clear hO
  rintro k0 s out1 T H ⟨lo13, hT, hO⟩ h1 ho0
  obtain ⟨out4, t18⟩ := s
  replace h1 : mE t16 t17 out4 t18 = some out1 := h1
  try dsimp only at hT
  refine bB hT ?_
  clear hT
  unfold mE at h1
  refine aZ aH 1 [] [(19, (aL (decide (t18 < t17))))] ?_
  refine aR ?_
  refine bM h1 (fun h1 => ?_) (fun h1 => ?_)
  · refine bN ?_
    refine bH [(4, (.msl 3 lo13 0 (List.length out4))), (16, (eL aF t16)), (17, (eI t17)), (18, (eI t18))] ?_
    refine aR ?_
    refine bQ 1 ?_
    refine aR ?_
    refine aT aH 4 ?_
    obtain ⟨c15, h1⟩ := bJ h1
    refine pS 2 [0 ≤ t18 ∧ t18 < (lN t16)] ⟨c15, trivial⟩ ?_
    refine oK 3 (.agg [(.sl true 0 (fun _ => .bad)), (eI 0), (eI 0)]) (aF (aG.mk ([]) (aQ.mk 0 0))) (by kernel_rfl) (by kernel_rfl) (by kernel_rfl) (zN (xs := [(.sl true 0 (fun _ => .bad)), (eI 0), (eI 0)]) (ys := [(eL aM ([])), (eI 0), (eI 0)]) ⟨fM, aX.refl _, aX.refl _, trivial⟩) (by kernel_rfl) (by kernel_rfl) hO ?_
    intro lo16 H hO
    refine gM 1 lo16 3 0 (aF (aG.mk ([]) (aQ.mk 0 0))) (aF (gD t16 t18)) [(aF (aG.mk ([]) (aQ.mk 0 0)))] [(lo13, 3, List.map aE out4), (lo16, 3, [(aF (gD t16 t18))])] hO rfl (by kernel_rfl) ?_
    intro H hO
    refine cF ?_
    refine bR [] [(6, (.lp lo16 0 0))] ?_
    refine aT aH 16 ?_
    refine bK 2 ?_
    refine jB 1 lo16 3 0 (aF (gD t16 t18)) (eL aM ((gD t16 t18).Row)) [(aF (gD t16 t18))] hO rfl ?_
    refine bK 5 ?_
    refine jB 1 lo16 3 0 (aF (gD t16 t18)) (eI (((gD t16 t18).Span).From)) [(aF (gD t16 t18))] hO rfl ?_
    refine bK 8 ?_
    refine jB 1 lo16 3 0 (aF (gD t16 t18)) (eL aM ((gD t16 t18).Row)) [(aF (gD t16 t18))] hO rfl ?_
    refine bK 11 ?_
    refine jB 1 lo16 3 0 (aF (gD t16 t18)) (eI (((gD t16 t18).Span).To)) [(aF (gD t16 t18))] hO rfl ?_
    refine bK 13 ?_
    refine qL (xs := [(aE (aC.mk ((gD t16 t18).Row) (((gD t16 t18).Span).From) (1 : Int))), (aE (aC.mk ((gD t16 t18).Row) (((gD t16 t18).Span).To) (-1 : Int)))]) (k := 3) (by kernel_rfl) (by kernel_rfl) ?_
    obtain ⟨c18, h1⟩ := bJ h1
    refine FJ (e := aE) out4 ([aC.mk ((gD t16 t18).Row) (((gD t16 t18).Span).From) (1 : Int), aC.mk ((gD t16 t18).Row) (((gD t16 t18).Span).To) (-1 : Int)]) 0 lo13 3 40 (dO [(aE (aC.mk ((gD t16 t18).Row) (((gD t16 t18).Span).From) (1 : Int))), (aE (aC.mk ((gD t16 t18).Row) (((gD t16 t18).Span).To) (-1 : Int)))]) (fun lo17 => [(lo17, 3, List.map aE (out4 ++ ([aC.mk ((gD t16 t18).Row) (((gD t16 t18).Span).From) (1 : Int), aC.mk ((gD t16 t18).Row) (((gD t16 t18).Span).To) (-1 : Int)]))), (lo16, 3, [(aF (gD t16 t18))])]) (by kernel_rfl) (by kernel_rfl) hO (by kernel_rfl) (by kernel_rfl) c18 (fun _ => by kernel_rfl) ?_
    intro lo17 H hO
    refine bD ?_
    refine dF [(4, (.msl 3 lo17 0 (List.length (out4 ++ ([aC.mk ((gD t16 t18).Row) (((gD t16 t18).Span).From) (1 : Int), aC.mk ((gD t16 t18).Row) (((gD t16 t18).Span).To) (-1 : Int)]))))), (16, (eL aF t16)), (17, (eI t17)), (18, (eI t18))] ?_
    replace hO := hO.pick (L' := [(lo17, 3, List.map aE (out4 ++ ([aC.mk ((gD t16 t18).Row) (((gD t16 t18).Span).From) (1 : Int), aC.mk ((gD t16 t18).Row) (((gD t16 t18).Span).To) (-1 : Int)])))]) [0] (by decide) (by kernel_rfl)
    refine aK (aV (aI (?_)))
    refine aT aH 2 ?_
    refine bD ?_
    exact aK (aI (⟨rfl, _, (oI h1).symm, _, .eq (by kernel_rfl), hO⟩))
  refine dS 0 ?_
  obtain rfl := oI h1
  obtain rfl : _ = rr0 := ho0
  replace h0 : rJ out4 = some r := h0
  exact aK (aY (aY (bO (aI (⟨rfl, _, _, .eq (by kernel_rfl), hO, h0⟩)))))

theorem GF (l0 : (List aC)) (holds1_f : Nat) (holds1_a holds1_c : List V) (tD : (List aB) → Option Bool) (holds1_h : ∀ a0 r, tD a0 = some r → bS Try.prog holds1_f (holds1_a ++ [(eL aD a0)] ++ holds1_c) (aL r)) (r : Bool) (h0 : rP l0 tD = some r) : bS Try.prog 88 [(eL aE l0), (.fn (.func holds1_f) holds1_a holds1_c)] (aL r) := by
  intro H0
  refine BZ aH Try.func88 (by kernel_rfl) (by kernel_rfl) (by kernel_rfl) ?_
  have hO := aO.start H0
  unfold rP at h0
  refine aR ?_
  refine aT aH 2 ?_
  refine gN 1 (.fn (.func holds1_f) holds1_a holds1_c) (by kernel_rfl) (by kernel_rfl) ?_
  refine kZ 1 (aL false) (by kernel_rfl) (by kernel_rfl) hO ?_
  intro lo1 H hO
  refine cF ?_
  refine bR [1] [(3, (.rp (.fn (.func holds1_f) holds1_a holds1_c))), (4, (.lp lo1 0 0))] ?_
  refine aR ?_
  refine aZ aH 3 [] [(11, (aL (decide ((4096 : Int) < (lN l0)))))] ?_
  refine bM h0 (fun h0 => ?_) (fun h0 => ?_)
  · refine aR ?_
    refine aT aH 1 ?_
    refine gM 0 lo1 1 0 (aL false) (aL false) [(aL false)] [(lo1, 1, [(aL false)])] hO rfl (by kernel_rfl) ?_
    intro H hO
    refine cF ?_
    refine bH [(4, (.lp lo1 0 0))] ?_
    refine bL ?_
    obtain rfl := oI h0
    exact aK (bC (QM0 (.inr rfl) (rs := [.cell 4 4]) (xs := [(aL false)]) (x := (aL false)) (by kernel_rfl) (vP (lo := lo1) (k := 1) (y := (aL false)) (x := (aL false)) 0 hO (by kernel_rfl) (by kernel_rfl) (by kernel_rfl) (by kernel_rfl) qC) (by kernel_rfl) ⟨rfl, hO.out⟩))
  refine bN ?_
  refine bH [(0, (eL aE l0)), (3, (.rp (.fn (.func holds1_f) holds1_a holds1_c))), (4, (.lp lo1 0 0))] ?_
  refine aR ?_
  refine aT aH 1 ?_
  refine oK 1 (.sl true 0 (fun _ => .bad)) (eL aM ([])) (by kernel_rfl) (by kernel_rfl) (by kernel_rfl) (fM) (by kernel_rfl) (by kernel_rfl) hO ?_
  intro lo3 H hO
  refine cF ?_
  refine bR [] [(5, (.lp lo3 0 0))] ?_
  refine aR ?_
  refine aT aH 2 ?_
  refine kZ 1 (aL false) (by kernel_rfl) (by kernel_rfl) hO ?_
  intro lo4 H hO
  refine gM 2 lo4 1 0 (aL false) (aL false) [(aL false)] [(lo1, 1, [(aL false)]), (lo3, 1, [(eL aM ([]))]), (lo4, 1, [(aL false)])] hO rfl (by kernel_rfl) ?_
  intro H hO
  refine cF ?_
  refine bR [] [(6, (.lp lo4 0 0))] ?_
  refine aR ?_
  refine aR ?_
  refine aT aH 2 ?_
  refine bK 1 ?_
  obtain ⟨x5, hx6, h0⟩ := aW h0
  refine cM (AZ l0 _ hx6) hO ?_
  intro H hO
  refine cF ?_
  refine bR [0] [(13, (.fn (.func 131) [] [(.rp (eL aE x5))]))] ?_
  refine bQ 0 ?_
  refine cO [(3, (.rp (.fn (.func holds1_f) holds1_a holds1_c))), (4, (.lp lo1 0 0)), (5, (.lp lo3 0 0)), (6, (.lp lo4 0 0)), (13, (.fn (.func 131) [] [(.rp (eL aE x5))]))] ?_
  refine cK (fun T H => ∃ t4 : Bool, ∃ nQ : (List aJ), ∃ iX : Bool, ∃ jG : (List aC), Has T [(3, (.rp (.fn (.func holds1_f) holds1_a holds1_c))), (4, (.lp lo1 0 0)), (5, (.lp lo3 0 0)), (6, (.lp lo4 0 0)), (13, (.fn (.func 131) [] [(.rp (eL aE jG))]))] ∧ aO ⟨H0, [], []⟩ H [(lo1, 1, [(aL t4)]), (lo3, 1, [(eL aM nQ)]), (lo4, 1, [(aL iX)])] ∧ wF tD t4 nQ iX jG = some r) ?_ ⟨false, [], false, x5, .eq (by kernel_rfl), hO, h0⟩
  clear hO h0
  rintro T H ⟨t4, nQ, iX, jG, hT, hO, h0⟩
  refine bB (l := [(3, (.rp (.fn (.func holds1_f) holds1_a holds1_c))), (4, (.lp lo1 0 0)), (5, (.lp lo3 0 0)), (6, (.lp lo4 0 0)), (13, (.fn (.func 131) [] [(.rp (eL aE jG))]))]) hT ?_
  clear hT
  unfold wF at h0
  obtain ⟨o0, hl0, h0⟩ := aW h0
  refine zV (fid := 131) (ys := []) (cs := [(.rp (eL aE jG))]) #[14, 15] (fun (A : xG) (b lL : Nat) (st : (Bool × (List aJ) × Bool) ⊕ (Bool × (List aJ) × Bool)) (G' : Gs) => Sum.elim (fun (s : Bool × (List aJ) × Bool) => G' = (lL, .raw (jN b A .ready none)) :: (up [(lo1, 1, [(aL s.1)]), (lo3, 1, [(eL aM s.2.1)]), (lo4, 1, [(aL s.2.2)])] ++ [])) (fun (s : Bool × (List aJ) × Bool) => G' = (lL, .raw (jN b A .done (some .ret))) :: (up [(lo1, 1, [(aL s.1)]), (lo3, 1, [(eL aM s.2.1)]), (lo4, 1, [(aL s.2.2)])] ++ [])) st) (.inl (t4, nQ, iX)) o0 (.tup []) (by kernel_rfl) (by kernel_rfl) (by kernel_rfl) hO (fun _ _ => rfl) ?_ ?_
  · intro b lL
    clear hO h0
    refine wD _ b (fun st t14 t15 => rnd (fun (s : Bool × (List aJ) × Bool) => oH tD jG s.1 s.2.1 s.2.2 t14 t15) st) ?_ jG _ _ hl0
    intro st t14 t15 out1 rr hr
    obtain ⟨s, rfl, h1, rfl⟩ := MM hr
    clear hr
    intro Hr Gr hi hg
    obtain ⟨t4, nQ, iX⟩ := s
    dsimp only [Sum.elim_inl] at hi
    obtain rfl := hi
    replace h1 : oH tD jG t4 nQ iX t14 t15 = some out1 := h1
    unfold oH at h1
    obtain ⟨E1, hE, hO⟩ := uD hg
    refine uC (AD (hO.gm 0 _ rfl).2 (by kernel_rfl) (by kernel_rfl) ?_)
    refine cO [(3, (.rp (.fn (.func holds1_f) holds1_a holds1_c))), (4, (.lp lo1 0 0)), (5, (.lp lo3 0 0)), (6, (.lp lo4 0 0)), (13, (.fn (.func 131) [] [(.rp (eL aE jG))])), (14, (eL aM t14)), (15, (eL aD t15))] ?_
    refine aZ aH 1 [13, 14] [(7, (eL aM t14))] ?_
    refine aT aH 1 ?_
    refine bD ?_
    refine dF [(3, (.rp (.fn (.func holds1_f) holds1_a holds1_c))), (4, (.lp lo1 0 0)), (5, (.lp lo3 0 0)), (6, (.lp lo4 0 0)), (7, (eL aM t14)), (8, (eL aD t15))] ?_
    refine aK (⟨rfl, rfl, (hO.gm 0 _ rfl).2, ?_⟩)
    intro o1 ho1
    replace hO := hO.tT o1
    refine bQ 1 ?_
    refine aR ?_
    refine aR ?_
    refine aT aH 18 ?_
    refine bK 1 ?_
    obtain ⟨x7, hx8, h1⟩ := aW h1
    refine cM (yF t14 _ hx8) hO ?_
    intro H hO
    refine bK 4 ?_
    refine xD [(19, false)] 2 lo4 1 0 (aL iX) (aL iX) [(aL iX)] (by kernel_rfl) (by kernel_rfl) hO (by kernel_rfl) (!(!x7)) (by kernel_rfl) (fun hb10 => rfl) ?_
    refine bK 6 ?_
    refine xD [(21, true), (19, false)] 1 lo3 1 0 (eL aM nQ) (eL aM nQ) [(eL aM nQ)] (by kernel_rfl) (by kernel_rfl) hO (by kernel_rfl) (iX && (!(!x7))) (by kernel_rfl) (fun hb11 => rfl) ?_
    refine bK 8 ?_
    obtain ⟨x12, hx13, h1⟩ := aW h1
    refine eA [(21, true), (19, false)] 63 [(eL aM nQ), (eL aM t14)] (eI x12) (iX && (!(!x7))) (by kernel_rfl) (by kernel_rfl) (by kernel_rfl) (fun hb14 => (DN nQ t14 _ (fG hx13 hb14))) hO ?_
    intro H hO
    refine bK 15 ?_
    obtain ⟨x15, hx16, h1⟩ := aW h1
    refine eA [(28, false)] holds1_f (holds1_a ++ [(eL aD t15)] ++ holds1_c) (aL x15) (!((!x7) || (iX && (decide ((0 : Int) ≤ x12))))) (by kernel_rfl) (by kernel_rfl) (by kernel_rfl) (fun hb17 => (holds1_h t15 _ (fG hx16 hb17))) hO ?_
    intro H hO
    refine bD ?_
    refine bR [3, 8] [(33, (aL (((!x7) || (iX && (decide ((0 : Int) ≤ x12)))) || (!x15))))] ?_
    refine bM h1 (fun h1 => ?_) (fun h1 => ?_)
    · refine aR ?_
      refine aT aH 1 ?_
      refine gM 0 lo1 1 0 (aL t4) (aL false) [(aL t4)] [(lo1, 1, [(aL false)]), (lo3, 1, [(eL aM nQ)]), (lo4, 1, [(aL iX)])] hO rfl (by kernel_rfl) ?_
      intro H hO
      refine cF ?_
      refine bR [7, 33] [] ?_
      refine bL ?_
      refine dF [(4, (.lp lo1 0 0)), (5, (.lp lo3 0 0)), (6, (.lp lo4 0 0))] ?_
      obtain rfl := oI h1
      exact aK (bC (bY (⟨(fQ hO hE ho1 .dead).1, rfl, _, rfl, (fQ hO hE ho1 _).2⟩)))
    refine bN ?_
    refine bH [(4, (.lp lo1 0 0)), (5, (.lp lo3 0 0)), (6, (.lp lo4 0 0)), (7, (eL aM t14))] ?_
    refine aT aH 3 ?_
    refine bK 1 ?_
    refine gM 1 lo3 1 0 (eL aM nQ) (eL aM t14) [(eL aM nQ)] [(lo1, 1, [(aL t4)]), (lo3, 1, [(eL aM t14)]), (lo4, 1, [(aL iX)])] hO rfl (by kernel_rfl) ?_
    intro H hO
    refine gM 2 lo4 1 0 (aL iX) (aL true) [(aL iX)] [(lo1, 1, [(aL t4)]), (lo3, 1, [(eL aM t14)]), (lo4, 1, [(aL true)])] hO rfl (by kernel_rfl) ?_
    intro H hO
    refine cF ?_
    refine dF [(4, (.lp lo1 0 0)), (5, (.lp lo3 0 0)), (6, (.lp lo4 0 0))] ?_
    obtain rfl := oI h1
    exact aK (aV (⟨(fQ hO hE ho1 .dead).1, rfl, _, rfl, (fQ hO hE ho1 _).2⟩))
  · intro b lD19 lL H' G' hi hO
    rcases o0 with s | s
    · dsimp only [Sum.elim_inl] at hi
      obtain rfl := hi
      replace h0 : (some true) = some r := h0
      obtain ⟨hlL, hO⟩ := pK hO
      refine ⟨_, _, hlL, (by intro e; cases e), ?_⟩
      refine dF [(4, (.lp lo1 0 0))] ?_
      replace hO := hO.pick (L' := [(lo1, 1, [(aL s.1)])]) [0] (by decide) (by kernel_rfl)
      refine aK (aV (aI (?_)))
      refine aR ?_
      refine aT aH 1 ?_
      refine gM 0 lo1 1 0 (aL s.1) (aL true) [(aL s.1)] [(lo1, 1, [(aL true)])] hO rfl (by kernel_rfl) ?_
      intro H hO
      refine cF ?_
      refine bH [(4, (.lp lo1 0 0))] ?_
      refine bL ?_
      obtain rfl := oI h0
      have hD := (hO.gm 0 _ rfl).2
      replace hO := (hO.tT .dead).tI
      exact aK (QM1 (.inr rfl) hD (rs := [.cell 4 4]) (xs := [(aL true)]) (x := (aL true)) (by kernel_rfl) (vP (lo := lo1) (k := 1) (y := (aL true)) (x := (aL true)) 0 hO (by kernel_rfl) (by kernel_rfl) (by kernel_rfl) (by kernel_rfl) qC) (by kernel_rfl) ⟨rfl, hO.out⟩)
    · dsimp only [Sum.elim_inr] at hi
      obtain rfl := hi
      replace h0 : (some s.1) = some r := h0
      obtain ⟨hlL, hO⟩ := pK hO
      refine ⟨_, _, hlL, (by intro e; cases e), ?_⟩
      refine bL ?_
      replace hO := hO.pick (L' := [(lo1, 1, [(aL s.1)])]) [0] (by decide) (by kernel_rfl)
      obtain rfl := oI h0
      have hD := (hO.gm 0 _ rfl).2
      replace hO := (hO.tT .dead).tI
      exact aK (bY (bC (QM1 (.inr rfl) hD (rs := [.cell 4 4]) (xs := [(aL s.1)]) (x := (aL s.1)) (by kernel_rfl) (vP (lo := lo1) (k := 1) (y := (aL s.1)) (x := (aL s.1)) 0 hO (by kernel_rfl) (by kernel_rfl) (by kernel_rfl) (by kernel_rfl) qC) (by kernel_rfl) ⟨rfl, hO.out⟩)))

theorem HX (l0 : (List aC)) (r : Bool) (h0 : tP l0 = some r) : bS Try.prog 49 [(eL aE l0)] (aL r) := by
  intro H0
  refine cG Try.func49 ?_
  have hO := aO.start H0
  unfold tP at h0
  refine aZ aH 1 [] [] ?_
  refine aR ?_
  refine aT aH 3 ?_
  refine bK 1 ?_
  obtain ⟨x1, hx2, h0⟩ := aW h0
  refine cM (GF l0 68 [] [] (fun y0 => nP y0) (fun y0 r h => zB y0 r h) _ hx2) hO ?_
  intro H hO
  refine bD ?_
  refine bH [(2, (aL x1))] ?_
  refine bL ?_
  obtain rfl := oI h0
  exact aK (Q_r hO)

theorem PK (f0 : (List aB)) (r : Int) (h0 : tE f0 = some r) : bS Try.prog 69 [(eL aD f0)] (eI r) := by
  intro H0
  refine cG Try.func69 ?_
  have hO := aO.start H0
  unfold tE at h0
  refine aZ aH 1 [] [] ?_
  refine aR ?_
  refine aR ?_
  refine aT aH 8 ?_
  refine bK 1 ?_
  obtain ⟨x1, hx2, h0⟩ := aW h0
  refine cM (zB f0 _ hx2) hO ?_
  intro H hO
  refine bD ?_
  refine bR [] [(14, (aL ((!x1) || (decide ((lN f0) = (0 : Int))))))] ?_
  refine bM h0 (fun h0 => ?_) (fun h0 => ?_)
  · refine bW aH 1 [(2, (eI (0 : Int)))] ?_
    refine bL ?_
    obtain rfl := oI h0
    exact aK (bC (Q_r hO))
  refine bN ?_
  refine bH [(0, (eL aD f0))] ?_
  refine aZ aH 2 [] [(3, (eI (0 : Int))), (4, (eI (0 : Int)))] ?_
  refine cT (fun T H => ∃ v3 : Int, ∃ eX : Int, Has T [(0, (eL aD f0)), (3, (eI v3)), (4, (eI eX))] ∧ aO ⟨H0, [], []⟩ H [] ∧ oV f0 v3 eX = some r) ?_ ?_
  · clear hO h0
    rintro T H ⟨v3, eX, hT, hO, h0⟩
    refine bB hT ?_
    clear hT
    unfold oV at h0
    refine cT (fun T H => ∃ eX : Int, Has T [(4, (eI eX))] ∧ aO ⟨H0, [], []⟩ H [] ∧ qQ eX = some r) ?_ ?_
    · clear hO h0
      rintro T H ⟨eX, hT, hO, h0⟩
      refine bB hT ?_
      clear hT
      unfold qQ at h0
      refine bW aH 2 [(2, (eI eX))] ?_
      refine bL ?_
      obtain rfl := oI h0
      exact aK (Q_r hO)
    refine aZ aH 3 [0] [(24, (eL aD f0)), (25, (eI (lN f0))), (26, (eI (0 : Int)))] ?_
    refine bQ 0 ?_
    refine cO [(3, (eI v3)), (4, (eI eX)), (24, (eL aD f0)), (25, (eI (lN f0))), (26, (eI (0 : Int)))] ?_
    refine cK (fun T H => ∃ v3 : Int, ∃ eX : Int, ∃ t24 : (List aB), ∃ t25 : Int, ∃ t26 : Int, Has T [(3, (eI v3)), (4, (eI eX)), (24, (eL aD t24)), (25, (eI t25)), (26, (eI t26))] ∧ aO ⟨H0, [], []⟩ H [] ∧ rC v3 eX t24 t25 t26 = some r) ?_ ⟨v3, eX, f0, (lN f0), (0 : Int), .eq (by kernel_rfl), hO, h0⟩
    clear hO h0
    rintro T H ⟨v3, eX, t24, t25, t26, hT, hO, h0⟩
    refine bB hT ?_
    clear hT
    unfold rC at h0
    obtain ⟨rr0, hl0, h0⟩ := aW h0
    refine cA (by kernel_rfl) (fun (s : Int × Int × Int) T H => Has T [(3, (eI s.1)), (4, (eI s.2.1)), (24, (eL aD t24)), (25, (eI t25)), (26, (eI s.2.2))] ∧ aO ⟨H0, [], []⟩ H []) hl0 ⟨.eq (by kernel_rfl), hO⟩ ?_
    clear hO
    rintro k0 s out1 T H ⟨hT, hO⟩ h1 ho0
    obtain ⟨v3, eX, t26⟩ := s
    replace h1 : mB t24 t25 v3 eX t26 = some out1 := h1
    try dsimp only at hT
    refine bB hT ?_
    clear hT
    unfold mB at h1
    refine aZ aH 1 [] [(27, (aL (decide (t26 < t25))))] ?_
    refine aR ?_
    refine bM h1 (fun h1 => ?_) (fun h1 => ?_)
    · refine bN ?_
      refine bH [(3, (eI v3)), (4, (eI eX)), (24, (eL aD t24)), (25, (eI t25)), (26, (eI t26))] ?_
      refine aR ?_
      refine bQ 1 ?_
      refine aR ?_
      refine aT aH 4 ?_
      obtain ⟨c6, h1⟩ := bJ h1
      refine pS 2 [0 ≤ t26 ∧ t26 < (lN t24)] ⟨c6, trivial⟩ ?_
      refine kZ 2 (aD (aB.mk 0 0)) (by kernel_rfl) (by kernel_rfl) hO ?_
      intro lo7 H hO
      refine gM 0 lo7 2 0 (aD (aB.mk 0 0)) (aD (gD t24 t26)) [(aD (aB.mk 0 0))] [(lo7, 2, [(aD (gD t24 t26))])] hO rfl (by kernel_rfl) ?_
      intro H hO
      refine cF ?_
      refine bR [] [(6, (.lp lo7 0 0))] ?_
      refine aR ?_
      refine aT aH 5 ?_
      refine bK 2 ?_
      refine jB 0 lo7 2 0 (aD (gD t24 t26)) (eI ((gD t24 t26).Net)) [(aD (gD t24 t26))] hO rfl ?_
      refine bD ?_
      replace hO := hO.pick (L' := []) [] (by decide) (by kernel_rfl)
      refine bR [3, 6] [(3, (eI (wR (v3 + ((gD t24 t26).Net)))))] ?_
      refine aT aH 4 ?_
      refine bD ?_
      refine dF [(3, (eI (wR (v3 + ((gD t24 t26).Net))))), (4, (eI (if (wR (v3 + ((gD t24 t26).Net))) < eX then (wR (v3 + ((gD t24 t26).Net))) else eX))), (24, (eL aD t24)), (25, (eI t25)), (26, (eI t26))] ?_
      refine aK (aV (aI (?_)))
      refine aT aH 2 ?_
      refine bD ?_
      exact aK (aI (⟨rfl, _, (oI h1).symm, .eq (by kernel_rfl), hO⟩))
    refine dS 0 ?_
    obtain rfl := oI h1
    obtain rfl : _ = rr0 := ho0
    replace h0 : qQ eX = some r := h0
    exact aK (aY (aY (bO (aI (⟨rfl, _, .eq (by kernel_rfl), hO, h0⟩)))))
  refine aR ?_
  refine aT aH 5 ?_
  obtain ⟨c8, h0⟩ := bJ h0
  refine wB [0 ≤ (0 : Int) ∧ (0 : Int) < (lN f0)] ⟨c8, trivial⟩ ?_
  refine bR [] [(19, (aL (decide (((gD f0 (0 : Int)).At) = (-1 : Int)))))] ?_
  refine bM h0 (fun h0 => ?_) (fun h0 => ?_)
  · refine aT aH 5 ?_
    obtain ⟨c10, h0⟩ := bJ h0
    refine wB [0 ≤ (0 : Int) ∧ (0 : Int) < (lN f0)] ⟨c10, trivial⟩ ?_
    exact aK (aI (⟨rfl, _, _, .eq (by kernel_rfl), hO, h0⟩))
  refine bN ?_
  exact aK (aI (⟨rfl, _, _, .eq (by kernel_rfl), hO, h0⟩))

theorem JN (f0 : (List aB)) (r : Bool) (h0 : pY f0 = some r) : bS Try.prog 119 [(eL aD f0)] (aL r) := by
  intro H0
  refine cG Try.func119 ?_
  have hO := aO.start H0
  unfold pY at h0
  refine aZ aH 1 [] [] ?_
  refine aR ?_
  refine aT aH 8 ?_
  refine bK 1 ?_
  obtain ⟨x1, hx2, h0⟩ := aW h0
  refine cM (zB f0 _ hx2) hO ?_
  intro H hO
  refine bK 4 ?_
  obtain ⟨x4, hx5, h0⟩ := aW h0
  refine eA [(5, true)] 69 [(eL aD f0)] (eI x4) x1 (by kernel_rfl) (by kernel_rfl) (by kernel_rfl) (fun hb6 => (PK f0 _ (fG hx5 hb6))) hO ?_
  intro H hO
  refine bD ?_
  refine bH [(2, (aL (x1 && (decide ((0 : Int) ≤ x4)))))] ?_
  refine bL ?_
  obtain rfl := oI h0
  exact aK (Q_r hO)

theorem OC (l0 : (List aC)) (r : Bool) (h0 : sG l0 = some r) : bS Try.prog 86 [(eL aE l0)] (aL r) := by
  intro H0
  refine cG Try.func86 ?_
  have hO := aO.start H0
  unfold sG at h0
  refine aZ aH 1 [] [] ?_
  refine aR ?_
  refine aT aH 3 ?_
  refine bK 1 ?_
  obtain ⟨x1, hx2, h0⟩ := aW h0
  refine cM (GF l0 119 [] [] (fun y0 => pY y0) (fun y0 r h => JN y0 r h) _ hx2) hO ?_
  intro H hO
  refine bD ?_
  refine bH [(2, (aL x1))] ?_
  refine bL ?_
  obtain rfl := oI h0
  exact aK (Q_r hO)

theorem DM (l0 : (List aC)) (r : (List aC)) (h0 : oQ l0 = some r) : bS Try.prog 77 [(eL aE l0)] (.fn (.func 117) [] [(.rp (eL aE r))]) := by
  intro H0
  refine cG Try.func77 ?_
  have hO := aO.start H0
  unfold oQ at h0
  refine aR ?_
  refine aT aH 2 ?_
  refine gN 1 (eL aE l0) (by kernel_rfl) (by kernel_rfl) ?_
  refine bD ?_
  refine bH [(1, (.rp (eL aE l0)))] ?_
  refine bW aH 2 [(2, (.fn (.func 117) [] [(.rp (eL aE l0))]))] ?_
  refine bL ?_
  obtain rfl := oI h0
  exact aK (pF (x := (.fn (.func 117) [] [(.rp (eL aE l0))])) (by kernel_rfl) (aX.refl _) ⟨rfl, hO.out⟩)

theorem yP {σ : Type} (I : σ → Gs → Prop) (yield0_b : Nat) (eE : σ → (List aJ) → (List aB) → Option (σ × Bool)) (yield0_h : ∀ st a0 a1 st2 r, eE st a0 a1 = some (st2, r) → FE Try.prog (yv yield0_b) I st [(eL aM a0), (eL aD a1)] st2 (aL r)) (t1 : (List aC)) (sg0 : σ) (r : σ) (h0 : lZ eE t1 sg0 = some r) : yX Try.prog 117 I sg0 [(yv yield0_b), (.rp (eL aE t1))] r (.tup []) := by
  intro H0 G0 hI hg
  refine BZ aH Try.func117 (by kernel_rfl) (by kernel_rfl) (by kernel_rfl) ?_
  obtain ⟨G, hO, hI⟩ : ∃ G, aO ⟨H0, List.map (fun p : Nat × cU => p.1) G0, G⟩ H0 [] ∧ I sg0 G := ⟨G0, aO.HR hg, hI⟩
  clear hg
  unfold lZ at h0
  refine aR ?_
  refine aT aH 1 ?_
  refine gN 1 (yv yield0_b) (by kernel_rfl) (by kernel_rfl) ?_
  refine cF ?_
  refine bR [0] [(2, (.rp (yv yield0_b)))] ?_
  refine aR ?_
  refine aR ?_
  refine aT aH 3 ?_
  refine bK 1 ?_
  obtain ⟨x1, hx2, h0⟩ := aW h0
  refine cM (HX t1 _ hx2) hO ?_
  intro H hO
  refine bD ?_
  refine bR [] [(7, (aL (!x1)))] ?_
  refine bM h0 (fun h0 => ?_) (fun h0 => ?_)
  · refine bL ?_
    obtain rfl := oI h0
    exact aK (bC (QM0 (.inr rfl) (rs := []) (xs := []) (x := (.tup [])) (by kernel_rfl) qC (by kernel_rfl) ⟨rfl, G, hI, hO.EV⟩))
  refine bN ?_
  refine bH [(1, (.rp (eL aE t1))), (2, (.rp (yv yield0_b)))] ?_
  refine aR ?_
  refine aT aH 2 ?_
  refine bK 1 ?_
  obtain ⟨x5, hx6, h0⟩ := aW h0
  refine cM (AZ t1 _ hx6) hO ?_
  intro H hO
  refine cF ?_
  refine bR [1] [(9, (.fn (.func 131) [] [(.rp (eL aE x5))]))] ?_
  refine bQ 0 ?_
  refine cO [(2, (.rp (yv yield0_b))), (9, (.fn (.func 131) [] [(.rp (eL aE x5))]))] ?_
  refine cK (fun T H => ∃ sg : σ, ∃ t9c0 : (List aC), ∃ G : Gs, Has T [(2, (.rp (yv yield0_b))), (9, (.fn (.func 131) [] [(.rp (eL aE t9c0))]))] ∧ aO ⟨H0, List.map (fun p : Nat × cU => p.1) G0, G⟩ H [] ∧ I sg G ∧ pH eE sg t9c0 = some r) ?_ ⟨sg0, x5, G, .eq (by kernel_rfl), hO, hI, h0⟩
  clear hO hI h0
  rintro T H ⟨sg, t9c0, G, hT, hO, hI, h0⟩
  refine bB (l := [(2, (.rp (yv yield0_b))), (9, (.fn (.func 131) [] [(.rp (eL aE t9c0))]))]) hT ?_
  clear hT
  unfold pH at h0
  obtain ⟨o0, hl0, h0⟩ := aW h0
  refine zV (fid := 131) (ys := []) (cs := [(.rp (eL aE t9c0))]) #[10, 11] (fun (A : xG) (b lL : Nat) (st : (σ) ⊕ (σ)) (G' : Gs) => Sum.elim (fun (s : σ) => ∃ G : Gs, I s G ∧ G' = (lL, .raw (jN b A .ready none)) :: (up [] ++ G)) (fun (s : σ) => ∃ G : Gs, I s G ∧ G' = (lL, .raw (jN b A .done (some .ret))) :: (up [] ++ G)) st) (.inl sg) o0 (.tup []) (by kernel_rfl) (by kernel_rfl) (by kernel_rfl) hO (fun _ _ => ⟨G, hI, rfl⟩) ?_ ?_
  · intro b lL
    clear hO hI h0
    refine wD _ b (fun st t10 t11 => rnd (fun (s : σ) => iZ eE t9c0 s t10 t11) st) ?_ t9c0 _ _ hl0
    intro st t10 t11 out1 rr hr
    obtain ⟨s, rfl, h1, rfl⟩ := MM hr
    clear hr
    intro Hr Gr hi hg
    obtain ⟨sg, rfl⟩ : ∃ x, x = s := ⟨_, rfl⟩
    dsimp only [Sum.elim_inl] at hi
    obtain ⟨G, hI, rfl⟩ := hi
    replace h1 : iZ eE t9c0 sg t10 t11 = some out1 := h1
    unfold iZ at h1
    obtain ⟨E1, hE, hO⟩ := uD hg
    refine uC (AD (hO.gm 0 _ rfl).2 (by kernel_rfl) (by kernel_rfl) ?_)
    refine cO [(2, (.rp (yv yield0_b))), (9, (.fn (.func 131) [] [(.rp (eL aE t9c0))])), (10, (eL aM t10)), (11, (eL aD t11))] ?_
    refine aZ aH 1 [9, 10] [(3, (eL aM t10))] ?_
    refine aT aH 1 ?_
    refine bD ?_
    refine dF [(2, (.rp (yv yield0_b))), (3, (eL aM t10)), (4, (eL aD t11))] ?_
    refine aK (⟨rfl, rfl, (hO.gm 0 _ rfl).2, ?_⟩)
    intro o1 ho1
    replace hO := hO.tT o1
    refine bQ 1 ?_
    refine aR ?_
    refine aT aH 5 ?_
    refine bK 3 ?_
    obtain ⟨x7, hx8, h1⟩ := aW h1
    refine XE (I := I) (yv yield0_b) [(eL aM t10), (eL aD t11)] (aL x7.2) (by kernel_rfl) (by kernel_rfl) (yield0_h _ t10 t11 x7.1 x7.2 hx8) hO hI ?_
    intro G H hO hI
    refine bD ?_
    refine bH [(16, (aL (!x7.2)))] ?_
    refine bM h1 (fun h1 => ?_) (fun h1 => ?_)
    · refine bL ?_
      refine dF [] ?_
      obtain rfl := oI h1
      exact aK (bY (⟨(fQ hO hE ho1 .dead).1, rfl, _, ⟨G, hI, rfl⟩, (fQ hO hE ho1 _).2⟩))
    refine bN ?_
    refine dF [] ?_
    obtain rfl := oI h1
    exact aK (aV (⟨(fQ hO hE ho1 .dead).1, rfl, _, ⟨G, hI, rfl⟩, (fQ hO hE ho1 _).2⟩))
  · intro b lD10 lL H' G' hi hO
    rcases o0 with s | s
    · dsimp only [Sum.elim_inl] at hi
      obtain ⟨G, hI, rfl⟩ := hi
      replace h0 : (some s) = some r := h0
      obtain ⟨hlL, hO⟩ := pK hO
      refine ⟨_, _, hlL, (by intro e; cases e), ?_⟩
      obtain rfl := oI h0
      have hD := (hO.gm 0 _ rfl).2
      replace hO := (hO.tT .dead).tI
      exact aK (aV (QM1 (.inl rfl) hD (rs := []) (xs := []) (x := (.tup [])) (by kernel_rfl) qC (by kernel_rfl) ⟨rfl, G, hI, hO.EV⟩))
    · dsimp only [Sum.elim_inr] at hi
      obtain ⟨G, hI, rfl⟩ := hi
      replace h0 : (some s) = some r := h0
      obtain ⟨hlL, hO⟩ := pK hO
      refine ⟨_, _, hlL, (by intro e; cases e), ?_⟩
      refine bL ?_
      obtain rfl := oI h0
      have hD := (hO.gm 0 _ rfl).2
      replace hO := (hO.tT .dead).tI
      exact aK (bY (QM1 (.inr rfl) hD (rs := []) (xs := []) (x := (.tup [])) (by kernel_rfl) qC (by kernel_rfl) ⟨rfl, G, hI, hO.EV⟩))

theorem GH (f0 : (List aB)) (r : Int) (h0 : pN f0 = some r) : bS Try.prog 70 [(eL aD f0)] (eI r) := by
  intro H0
  refine cG Try.func70 ?_
  have hO := aO.start H0
  unfold pN at h0
  refine aZ aH 1 [] [] ?_
  refine aZ aH 1 [] [(3, (eI (0 : Int)))] ?_
  refine cT (fun T H => ∃ n3 : Int, Has T [(3, (eI n3))] ∧ aO ⟨H0, [], []⟩ H [] ∧ sM n3 = some r) ?_ ?_
  · clear hO h0
    rintro T H ⟨n3, hT, hO, h0⟩
    refine bB hT ?_
    clear hT
    unfold sM at h0
    refine bW aH 2 [(2, (eI n3))] ?_
    refine bL ?_
    obtain rfl := oI h0
    exact aK (Q_r hO)
  refine aZ aH 3 [0] [(6, (eL aD f0)), (7, (eI (lN f0))), (8, (eI (0 : Int)))] ?_
  refine bQ 0 ?_
  refine cO [(3, (eI (0 : Int))), (6, (eL aD f0)), (7, (eI (lN f0))), (8, (eI (0 : Int)))] ?_
  refine cK (fun T H => ∃ n3 : Int, ∃ t6 : (List aB), ∃ t7 : Int, ∃ t8 : Int, Has T [(3, (eI n3)), (6, (eL aD t6)), (7, (eI t7)), (8, (eI t8))] ∧ aO ⟨H0, [], []⟩ H [] ∧ wK n3 t6 t7 t8 = some r) ?_ ⟨(0 : Int), f0, (lN f0), (0 : Int), .eq (by kernel_rfl), hO, h0⟩
  clear hO h0
  rintro T H ⟨n3, t6, t7, t8, hT, hO, h0⟩
  refine bB hT ?_
  clear hT
  unfold wK at h0
  obtain ⟨rr0, hl0, h0⟩ := aW h0
  refine cA (by kernel_rfl) (fun (s : Int × Int) T H => Has T [(3, (eI s.1)), (6, (eL aD t6)), (7, (eI t7)), (8, (eI s.2))] ∧ aO ⟨H0, [], []⟩ H []) hl0 ⟨.eq (by kernel_rfl), hO⟩ ?_
  clear hO
  rintro k0 s out1 T H ⟨hT, hO⟩ h1 ho0
  obtain ⟨n3, t8⟩ := s
  replace h1 : nD t6 t7 n3 t8 = some out1 := h1
  try dsimp only at hT
  refine bB hT ?_
  clear hT
  unfold nD at h1
  refine aZ aH 1 [] [(9, (aL (decide (t8 < t7))))] ?_
  refine aR ?_
  refine bM h1 (fun h1 => ?_) (fun h1 => ?_)
  · refine bN ?_
    refine bH [(3, (eI n3)), (6, (eL aD t6)), (7, (eI t7)), (8, (eI t8))] ?_
    refine aR ?_
    refine bQ 1 ?_
    refine aR ?_
    refine aT aH 4 ?_
    obtain ⟨c2, h1⟩ := bJ h1
    refine pS 2 [0 ≤ t8 ∧ t8 < (lN t6)] ⟨c2, trivial⟩ ?_
    refine kZ 2 (aD (aB.mk 0 0)) (by kernel_rfl) (by kernel_rfl) hO ?_
    intro lo3 H hO
    refine gM 0 lo3 2 0 (aD (aB.mk 0 0)) (aD (gD t6 t8)) [(aD (aB.mk 0 0))] [(lo3, 2, [(aD (gD t6 t8))])] hO rfl (by kernel_rfl) ?_
    intro H hO
    refine cF ?_
    refine bR [] [(5, (.lp lo3 0 0))] ?_
    refine aT aH 6 ?_
    refine bK 2 ?_
    refine jB 0 lo3 2 0 (aD (gD t6 t8)) (eI ((gD t6 t8).Net)) [(aD (gD t6 t8))] hO rfl ?_
    refine bD ?_
    refine dF [(3, (eI (wR (n3 + (if (0 : Int) > ((gD t6 t8).Net) then (0 : Int) else ((gD t6 t8).Net)))))), (6, (eL aD t6)), (7, (eI t7)), (8, (eI t8))] ?_
    replace hO := hO.pick (L' := []) [] (by decide) (by kernel_rfl)
    refine aK (aV (aI (?_)))
    refine aT aH 2 ?_
    refine bD ?_
    exact aK (aI (⟨rfl, _, (oI h1).symm, .eq (by kernel_rfl), hO⟩))
  refine dS 0 ?_
  obtain rfl := oI h1
  obtain rfl : _ = rr0 := ho0
  replace h0 : sM n3 = some r := h0
  exact aK (aY (aY (bO (aI (⟨rfl, _, .eq (by kernel_rfl), hO, h0⟩)))))

theorem yE (t0 : Int) (lo1p : Nat) (lo1q : Nat) (t1 : (List aQ)) (lo2p : Nat) (t2 : Int) (r : ((List aQ) × Int)) (h0 : lI t0 t1 t2 = some r) : II Try.prog 115 [(eI t0), (.lp lo1p 0 0), (.lp lo2p 0 0)] [(lo1p, 1, [(.msl 2 lo1q 0 (List.length t1))]), (lo1q, 2, List.map bA t1), (lo2p, 1, [(eI t2)])] (fun x L => ∃ lo1n : Nat, x = (.tup []) ∧ L = [(lo1p, 1, [(.msl 2 lo1n 0 (List.length r.1))]), (lo1n, 2, List.map bA r.1), (lo2p, 1, [(eI r.2)])]) := by
  intro F H0 hO
  obtain ⟨Fh, Fe, Fg⟩ := F
  refine cG Try.func115 ?_
  unfold lI at h0
  refine aR ?_
  refine aT aH 6 ?_
  refine jB 0 lo1p 1 0 (.msl 2 lo1q 0 (List.length t1)) (.msl 2 lo1q 0 (List.length t1)) [(.msl 2 lo1q 0 (List.length t1))] hO rfl ?_
  refine jB 2 lo2p 1 0 (eI t2) (eI t2) [(eI t2)] hO rfl ?_
  obtain ⟨c1, h0⟩ := bJ h0
  refine pS 5 [0 ≤ t2 ∧ t2 < (lN t1)] ⟨c1, trivial⟩ ?_
  refine gM 1 lo1q 2 (0 + Int.toNat t2) (bA (gD t1 t2)) (bA (aQ.mk (gD t1 t2).From t0)) (List.map bA t1) [(lo1p, 1, [(.msl 2 lo1q 0 (List.length t1))]), (lo1q, 2, List.map bA (List.set t1 (Int.toNat t2) (aQ.mk (gD t1 t2).From t0))), (lo2p, 1, [(eI t2)])] hO (cN c1) (by simp only [List.set, nA]) ?_
  intro H hO
  refine cF ?_
  replace hO : aO ⟨Fh, Fe, Fg⟩ H [(lo1p, 1, [(.msl 2 lo1q 0 (List.length (List.set t1 (Int.toNat t2) (aQ.mk (gD t1 t2).From t0))))]), (lo1q, 2, List.map bA (List.set t1 (Int.toNat t2) (aQ.mk (gD t1 t2).From t0))), (lo2p, 1, [(eI t2)])] := by simpa only [List.length_set] using hO
  refine bR [0] [] ?_
  refine aT aH 3 ?_
  refine jB 2 lo2p 1 0 (eI t2) (eI t2) [(eI t2)] hO rfl ?_
  refine bK 2 ?_
  refine gM 2 lo2p 1 0 (eI t2) (eI (wR (t2 + (1 : Int)))) [(eI t2)] [(lo1p, 1, [(.msl 2 lo1q 0 (List.length (List.set t1 (Int.toNat t2) (aQ.mk (gD t1 t2).From t0))))]), (lo1q, 2, List.map bA (List.set t1 (Int.toNat t2) (aQ.mk (gD t1 t2).From t0))), (lo2p, 1, [(eI (wR (t2 + (1 : Int))))])] hO rfl (by kernel_rfl) ?_
  intro H hO
  refine cF ?_
  obtain rfl := oI h0
  exact aK (aAV hO ⟨lo1q, rfl, rfl⟩)

theorem OT (f0 : (List aB)) (r : (List aQ)) (h0 : sQ f0 = some r) : bS Try.prog 71 [(eL aD f0)] (eL bA r) := by
  intro H0
  refine cG Try.func71 ?_
  have hO := aO.start H0
  unfold sQ at h0
  refine aZ aH 1 [] [] ?_
  refine aR ?_
  refine aT aH 5 ?_
  refine bK 1 ?_
  obtain ⟨x1, hx2, h0⟩ := aW h0
  refine cM (GH f0 _ hx2) hO ?_
  intro H hO
  obtain ⟨c4, h0⟩ := bJ h0
  refine FG 2 16 x1 (by kernel_rfl) (by kernel_rfl) c4 hO ?_
  intro lo5 H hO
  refine oK 1 (.sl true 0 (fun _ => .bad)) (eL bA ([])) (by kernel_rfl) (by kernel_rfl) (by kernel_rfl) (fM) (by kernel_rfl) (by kernel_rfl) hO ?_
  intro lo6 H hO
  refine gM 1 lo6 1 0 (eL bA ([])) (.msl 2 lo5 0 (List.length ([] : List aQ))) [(eL bA ([]))] [(lo5, 2, List.map bA ([] : List aQ)), (lo6, 1, [(.msl 2 lo5 0 (List.length ([] : List aQ)))])] hO rfl (by kernel_rfl) ?_
  intro H hO
  refine cF ?_
  replace hO := hO.pick (L' := [(lo6, 1, [(.msl 2 lo5 0 (List.length ([] : List aQ)))]), (lo5, 2, List.map bA ([] : List aQ))]) [1, 0] (by decide) (by kernel_rfl)
  refine bR [] [(3, (.lp lo6 0 0))] ?_
  refine aR ?_
  refine aT aH 2 ?_
  refine kZ 1 (eI 0) (by kernel_rfl) (by kernel_rfl) hO ?_
  intro lo7 H hO
  refine gM 2 lo7 1 0 (eI 0) (eI (0 : Int)) [(eI 0)] [(lo6, 1, [(.msl 2 lo5 0 (List.length ([] : List aQ)))]), (lo5, 2, List.map bA ([] : List aQ)), (lo7, 1, [(eI (0 : Int))])] hO rfl (by kernel_rfl) ?_
  intro H hO
  refine cF ?_
  refine bR [] [(4, (.lp lo7 0 0))] ?_
  refine aZ aH 2 [] [(5, (.fn (.func 115) [] [(.lp lo6 0 0), (.lp lo7 0 0)]))] ?_
  refine cT (fun T H => ∃ out3 : List aQ, ∃ bZ : Int, ∃ lo8 : Nat, Has T [(3, (.lp lo6 0 0)), (4, (.lp lo7 0 0)), (5, (.fn (.func 115) [] [(.lp lo6 0 0), (.lp lo7 0 0)]))] ∧ aO ⟨H0, [], []⟩ H [(lo6, 1, [(.msl 2 lo8 0 (List.length out3))]), (lo8, 2, List.map bA out3), (lo7, 1, [(eI bZ)])] ∧ qX out3 bZ = some r) ?_ ?_
  · clear hO h0
    rintro T H ⟨out3, bZ, lo8, hT, hO, h0⟩
    refine bB hT ?_
    clear hT
    unfold qX at h0
    refine cT (fun T H => ∃ out3 : List aQ, ∃ lo9 : Nat, Has T [(3, (.lp lo6 0 0))] ∧ aO ⟨H0, [], []⟩ H [(lo6, 1, [(.msl 2 lo9 0 (List.length out3))]), (lo9, 2, List.map bA out3)] ∧ uZ out3 = some r) ?_ ?_
    · clear hO h0
      rintro T H ⟨out3, lo9, hT, hO, h0⟩
      refine bB hT ?_
      clear hT
      unfold uZ at h0
      refine aR ?_
      refine aT aH 2 ?_
      refine jB 0 lo6 1 0 (.msl 2 lo9 0 (List.length out3)) (.msl 2 lo9 0 (List.length out3)) [(.msl 2 lo9 0 (List.length out3))] hO rfl ?_
      refine bD ?_
      refine dF [(2, (.msl 2 lo9 0 (List.length out3)))] ?_
      replace hO := hO.pick (L' := [(lo9, 2, List.map bA out3)]) [1] (by decide) (by kernel_rfl)
      refine aK (aI (?_))
      refine bL ?_
      refine dF [(2, (.msl 2 lo9 0 (List.length out3)))] ?_
      refine tC (en := bA) out3 0 0 2 2 lo9 (List.length out3) hO (by kernel_rfl) (by kernel_rfl) (by kernel_rfl) (L' := []) (by kernel_rfl) ?_
      intro H10 hO
      obtain rfl := oI h0
      exact aK (Q_r hO)
    refine bQ 6 ?_
    refine cO [(3, (.lp lo6 0 0)), (4, (.lp lo7 0 0)), (5, (.fn (.func 115) [] [(.lp lo6 0 0), (.lp lo7 0 0)]))] ?_
    refine cK (fun T H => ∃ out3 : List aQ, ∃ bZ : Int, ∃ lo12 : Nat, Has T [(3, (.lp lo6 0 0)), (4, (.lp lo7 0 0)), (5, (.fn (.func 115) [] [(.lp lo6 0 0), (.lp lo7 0 0)]))] ∧ aO ⟨H0, [], []⟩ H [(lo6, 1, [(.msl 2 lo12 0 (List.length out3))]), (lo12, 2, List.map bA out3), (lo7, 1, [(eI bZ)])] ∧ uX out3 bZ = some r) ?_ ⟨out3, bZ, lo8, .eq (by kernel_rfl), hO, h0⟩
    clear hO h0
    rintro T H ⟨out3, bZ, lo12, hT, hO, h0⟩
    refine bB hT ?_
    clear hT
    unfold uX at h0
    obtain ⟨rr0, hl0, h0⟩ := aW h0
    refine cA (by kernel_rfl) (fun (s : List aQ × Int) T H => ∃ lo12 : Nat, Has T [(3, (.lp lo6 0 0)), (4, (.lp lo7 0 0)), (5, (.fn (.func 115) [] [(.lp lo6 0 0), (.lp lo7 0 0)]))] ∧ aO ⟨H0, [], []⟩ H [(lo6, 1, [(.msl 2 lo12 0 (List.length s.1))]), (lo12, 2, List.map bA s.1), (lo7, 1, [(eI s.2)])]) hl0 ⟨lo12, .eq (by kernel_rfl), hO⟩ ?_
    clear hO
    rintro k0 s out1 T H ⟨lo12, hT, hO⟩ h1 ho0
    obtain ⟨out3, bZ⟩ := s
    replace h1 : kV out3 bZ = some out1 := h1
    try dsimp only at hT
    refine bB hT ?_
    clear hT
    unfold kV at h1
    refine aR ?_
    refine aR ?_
    refine aT aH 4 ?_
    refine jB 2 lo7 1 0 (eI bZ) (eI bZ) [(eI bZ)] hO rfl ?_
    refine jB 0 lo6 1 0 (.msl 2 lo12 0 (List.length out3)) (.msl 2 lo12 0 (List.length out3)) [(.msl 2 lo12 0 (List.length out3))] hO rfl ?_
    refine bD ?_
    refine bR [] [(43, (aL (decide (bZ < (lN out3)))))] ?_
    refine bM h1 (fun h1 => ?_) (fun h1 => ?_)
    · refine bN ?_
      refine bH [(3, (.lp lo6 0 0)), (4, (.lp lo7 0 0)), (5, (.fn (.func 115) [] [(.lp lo6 0 0), (.lp lo7 0 0)]))] ?_
      refine bQ 7 ?_
      refine aT aH 2 ?_
      refine bK 1 ?_
      obtain ⟨x14, hx15, h1⟩ := aW h1
      refine aAC [] [0, 1, 2] (yE (1125899906842624 : Int) lo6 lo12 out3 lo7 bZ _ hx15) hO ?_
      intro r17 L18 H hP19 hO
      obtain ⟨lo16, rfl, rfl⟩ := hP19
      replace hO : aO ⟨H0, [], []⟩ H [(lo6, 1, [(.msl 2 lo16 0 (List.length x14.1))]), (lo16, 2, List.map bA x14.1), (lo7, 1, [(eI x14.2)])] := hO
      refine cF ?_
      exact aK (aV (aI (⟨rfl, _, (oI h1).symm, _, .eq (by kernel_rfl), hO⟩)))
    refine dS 6 ?_
    replace hO := hO.pick (L' := [(lo6, 1, [(.msl 2 lo12 0 (List.length out3))]), (lo12, 2, List.map bA out3)]) [0, 1] (by decide) (by kernel_rfl)
    obtain rfl := oI h1
    obtain rfl : _ = rr0 := ho0
    replace h0 : uZ out3 = some r := h0
    exact aK (aY (aY (bO (aI (⟨rfl, _, _, .eq (by kernel_rfl), hO, h0⟩)))))
  refine bW aH 3 [(3, (.lp lo6 0 0)), (4, (.lp lo7 0 0)), (5, (.fn (.func 115) [] [(.lp lo6 0 0), (.lp lo7 0 0)])), (12, (eL aD f0)), (13, (eI (lN f0))), (14, (eI (0 : Int)))] ?_
  refine bQ 0 ?_
  refine cO [(3, (.lp lo6 0 0)), (4, (.lp lo7 0 0)), (5, (.fn (.func 115) [] [(.lp lo6 0 0), (.lp lo7 0 0)])), (12, (eL aD f0)), (13, (eI (lN f0))), (14, (eI (0 : Int)))] ?_
  refine cK (fun T H => ∃ out3 : List aQ, ∃ bZ : Int, ∃ t12 : (List aB), ∃ t13 : Int, ∃ t14 : Int, ∃ lo21 : Nat, Has T [(3, (.lp lo6 0 0)), (4, (.lp lo7 0 0)), (5, (.fn (.func 115) [] [(.lp lo6 0 0), (.lp lo7 0 0)])), (12, (eL aD t12)), (13, (eI t13)), (14, (eI t14))] ∧ aO ⟨H0, [], []⟩ H [(lo6, 1, [(.msl 2 lo21 0 (List.length out3))]), (lo21, 2, List.map bA out3), (lo7, 1, [(eI bZ)])] ∧ uT out3 bZ t12 t13 t14 = some r) ?_ ⟨([] : List aQ), (0 : Int), f0, (lN f0), (0 : Int), lo5, .eq (by kernel_rfl), hO, h0⟩
  clear hO h0
  rintro T H ⟨out3, bZ, t12, t13, t14, lo21, hT, hO, h0⟩
  refine bB hT ?_
  clear hT
  unfold uT at h0
  obtain ⟨rr0, hl0, h0⟩ := aW h0
  refine cA (by kernel_rfl) (fun (s : List aQ × Int × Int) T H => ∃ lo21 : Nat, Has T [(3, (.lp lo6 0 0)), (4, (.lp lo7 0 0)), (5, (.fn (.func 115) [] [(.lp lo6 0 0), (.lp lo7 0 0)])), (12, (eL aD t12)), (13, (eI t13)), (14, (eI s.2.2))] ∧ aO ⟨H0, [], []⟩ H [(lo6, 1, [(.msl 2 lo21 0 (List.length s.1))]), (lo21, 2, List.map bA s.1), (lo7, 1, [(eI s.2.1)])]) hl0 ⟨lo21, .eq (by kernel_rfl), hO⟩ ?_
  clear hO
  rintro k0 s out1 T H ⟨lo21, hT, hO⟩ h1 ho0
  obtain ⟨out3, bZ, t14⟩ := s
  replace h1 : mJ t12 t13 out3 bZ t14 = some out1 := h1
  try dsimp only at hT
  refine bB hT ?_
  clear hT
  unfold mJ at h1
  refine aZ aH 1 [] [(15, (aL (decide (t14 < t13))))] ?_
  refine aR ?_
  refine bM h1 (fun h1 => ?_) (fun h1 => ?_)
  · refine bN ?_
    refine bH [(3, (.lp lo6 0 0)), (4, (.lp lo7 0 0)), (5, (.fn (.func 115) [] [(.lp lo6 0 0), (.lp lo7 0 0)])), (12, (eL aD t12)), (13, (eI t13)), (14, (eI t14))] ?_
    refine cT (fun T H => ∃ out3 : List aQ, ∃ bZ : Int, ∃ lo23 : Nat, Has T [(3, (.lp lo6 0 0)), (4, (.lp lo7 0 0)), (5, (.fn (.func 115) [] [(.lp lo6 0 0), (.lp lo7 0 0)])), (12, (eL aD t12)), (13, (eI t13)), (14, (eI t14))] ∧ aO ⟨H0, [], []⟩ H [(lo6, 1, [(.msl 2 lo23 0 (List.length out3))]), (lo23, 2, List.map bA out3), (lo7, 1, [(eI bZ)])] ∧ qY out3 bZ t12 t13 t14 = some out1) ?_ ?_
    · clear hO h1
      rintro T H ⟨out3, bZ, lo23, hT, hO, h1⟩
      refine bB hT ?_
      clear hT
      unfold qY at h1
      refine aT aH 2 ?_
      refine bD ?_
      exact aK (aI (⟨rfl, _, (oI h1).symm, _, .eq (by kernel_rfl), hO⟩))
    refine bQ 1 ?_
    refine aR ?_
    refine aT aH 4 ?_
    obtain ⟨c24, h1⟩ := bJ h1
    refine pS 2 [0 ≤ t14 ∧ t14 < (lN t12)] ⟨c24, trivial⟩ ?_
    refine kZ 2 (aD (aB.mk 0 0)) (by kernel_rfl) (by kernel_rfl) hO ?_
    intro lo25 H hO
    refine gM 3 lo25 2 0 (aD (aB.mk 0 0)) (aD (gD t12 t14)) [(aD (aB.mk 0 0))] [(lo6, 1, [(.msl 2 lo21 0 (List.length out3))]), (lo21, 2, List.map bA out3), (lo7, 1, [(eI bZ)]), (lo25, 2, [(aD (gD t12 t14))])] hO rfl (by kernel_rfl) ?_
    intro H hO
    refine cF ?_
    refine bR [] [(7, (.lp lo25 0 0))] ?_
    refine cT (fun T H => ∃ out3 : List aQ, ∃ bZ : Int, ∃ j7 : aB, ∃ lo26 : Nat, Has T [(3, (.lp lo6 0 0)), (4, (.lp lo7 0 0)), (5, (.fn (.func 115) [] [(.lp lo6 0 0), (.lp lo7 0 0)])), (7, (.lp lo25 0 0)), (12, (eL aD t12)), (13, (eI t13)), (14, (eI t14))] ∧ aO ⟨H0, [], []⟩ H [(lo6, 1, [(.msl 2 lo26 0 (List.length out3))]), (lo26, 2, List.map bA out3), (lo7, 1, [(eI bZ)]), (lo25, 2, [(aD j7)])] ∧ qW out3 bZ j7 t12 t13 t14 = some out1) ?_ ?_
    · clear hO h1
      rintro T H ⟨out3, bZ, j7, lo26, hT, hO, h1⟩
      refine bB hT ?_
      clear hT
      unfold qW at h1
      refine aR ?_
      refine aT aH 4 ?_
      refine bK 1 ?_
      refine jB 3 lo25 2 0 (aD j7) (eI j7.Net) [(aD j7)] hO rfl ?_
      refine bD ?_
      refine bR [] [(31, (eI (wR (0 - j7.Net)))), (32, (eI (0 : Int)))] ?_
      refine bQ 4 ?_
      refine cO [(3, (.lp lo6 0 0)), (4, (.lp lo7 0 0)), (5, (.fn (.func 115) [] [(.lp lo6 0 0), (.lp lo7 0 0)])), (7, (.lp lo25 0 0)), (12, (eL aD t12)), (13, (eI t13)), (14, (eI t14)), (31, (eI (wR (0 - j7.Net)))), (32, (eI (0 : Int)))] ?_
      refine cK (fun T H => ∃ out3 : List aQ, ∃ bZ : Int, ∃ j7 : aB, ∃ t31 : Int, ∃ t32 : Int, ∃ lo28 : Nat, Has T [(3, (.lp lo6 0 0)), (4, (.lp lo7 0 0)), (5, (.fn (.func 115) [] [(.lp lo6 0 0), (.lp lo7 0 0)])), (7, (.lp lo25 0 0)), (12, (eL aD t12)), (13, (eI t13)), (14, (eI t14)), (31, (eI t31)), (32, (eI t32))] ∧ aO ⟨H0, [], []⟩ H [(lo6, 1, [(.msl 2 lo28 0 (List.length out3))]), (lo28, 2, List.map bA out3), (lo7, 1, [(eI bZ)]), (lo25, 2, [(aD j7)])] ∧ vA out3 bZ j7 t12 t13 t14 t31 t32 = some out1) ?_ ⟨out3, bZ, j7, wR (0 - j7.Net), (0 : Int), lo26, .eq (by kernel_rfl), hO, h1⟩
      clear hO h1
      rintro T H ⟨out3, bZ, j7, t31, t32, lo28, hT, hO, h1⟩
      refine bB hT ?_
      clear hT
      unfold vA at h1
      obtain ⟨rr1, hl1, h1⟩ := aW h1
      refine cA (by kernel_rfl) (fun (s : List aQ × Int × aB × Int) T H => ∃ lo28 : Nat, Has T [(3, (.lp lo6 0 0)), (4, (.lp lo7 0 0)), (5, (.fn (.func 115) [] [(.lp lo6 0 0), (.lp lo7 0 0)])), (7, (.lp lo25 0 0)), (12, (eL aD t12)), (13, (eI t13)), (14, (eI t14)), (31, (eI t31)), (32, (eI s.2.2.2))] ∧ aO ⟨H0, [], []⟩ H [(lo6, 1, [(.msl 2 lo28 0 (List.length s.1))]), (lo28, 2, List.map bA s.1), (lo7, 1, [(eI s.2.1)]), (lo25, 2, [(aD s.2.2.1)])]) hl1 ⟨lo28, .eq (by kernel_rfl), hO⟩ ?_
      clear hO
      rintro k1 s out2 T H ⟨lo28, hT, hO⟩ h2 ho1
      obtain ⟨out3, bZ, j7, t32⟩ := s
      replace h2 : kX t12 t13 t14 t31 out3 bZ j7 t32 = some out2 := h2
      try dsimp only at hT
      refine bB hT ?_
      clear hT
      unfold kX at h2
      refine aZ aH 1 [] [(33, (aL (decide (t32 < t31))))] ?_
      refine aR ?_
      refine bM h2 (fun h2 => ?_) (fun h2 => ?_)
      · refine bN ?_
        refine bH [(3, (.lp lo6 0 0)), (4, (.lp lo7 0 0)), (5, (.fn (.func 115) [] [(.lp lo6 0 0), (.lp lo7 0 0)])), (7, (.lp lo25 0 0)), (12, (eL aD t12)), (13, (eI t13)), (14, (eI t14)), (31, (eI t31)), (32, (eI t32))] ?_
        refine aR ?_
        refine bQ 5 ?_
        refine aT aH 4 ?_
        refine bK 2 ?_
        refine jB 3 lo25 2 0 (aD j7) (eI j7.At) [(aD j7)] hO rfl ?_
        obtain ⟨x30, hx31, h2⟩ := aW h2
        refine aAC [(lo25, 2, [(aD j7)])] [0, 1, 2, 3] (yE j7.At lo6 lo28 out3 lo7 bZ _ hx31) hO ?_
        intro r33 L34 H hP35 hO
        obtain ⟨lo32, rfl, rfl⟩ := hP35
        replace hO : aO ⟨H0, [], []⟩ H [(lo6, 1, [(.msl 2 lo32 0 (List.length x30.1))]), (lo32, 2, List.map bA x30.1), (lo7, 1, [(eI x30.2)]), (lo25, 2, [(aD j7)])] := hO
        refine cF ?_
        refine dF [(3, (.lp lo6 0 0)), (4, (.lp lo7 0 0)), (5, (.fn (.func 115) [] [(.lp lo6 0 0), (.lp lo7 0 0)])), (7, (.lp lo25 0 0)), (12, (eL aD t12)), (13, (eI t13)), (14, (eI t14)), (31, (eI t31)), (32, (eI t32))] ?_
        refine aK (aV (aI (?_)))
        refine aT aH 2 ?_
        refine bD ?_
        exact aK (aI (⟨rfl, _, (oI h2).symm, _, .eq (by kernel_rfl), hO⟩))
      refine dS 4 ?_
      replace hO := hO.pick (L' := [(lo6, 1, [(.msl 2 lo28 0 (List.length out3))]), (lo28, 2, List.map bA out3), (lo7, 1, [(eI bZ)])]) [0, 1, 2] (by decide) (by kernel_rfl)
      obtain rfl := oI h2
      obtain rfl : _ = rr1 := ho1
      replace h1 : qY out3 bZ t12 t13 t14 = some out1 := h1
      exact aK (aY (aY (bO (aV (aI (⟨rfl, _, _, _, .eq (by kernel_rfl), hO, h1⟩))))))
    refine aR ?_
    refine aT aH 3 ?_
    refine bK 1 ?_
    refine jB 3 lo25 2 0 (aD (gD t12 t14)) (eI ((gD t12 t14).Net)) [(aD (gD t12 t14))] hO rfl ?_
    refine bD ?_
    refine bR [] [(19, (eI ((gD t12 t14).Net))), (20, (eI (0 : Int)))] ?_
    refine bQ 2 ?_
    refine cO [(3, (.lp lo6 0 0)), (4, (.lp lo7 0 0)), (5, (.fn (.func 115) [] [(.lp lo6 0 0), (.lp lo7 0 0)])), (7, (.lp lo25 0 0)), (12, (eL aD t12)), (13, (eI t13)), (14, (eI t14)), (19, (eI ((gD t12 t14).Net))), (20, (eI (0 : Int)))] ?_
    refine cK (fun T H => ∃ out3 : List aQ, ∃ bZ : Int, ∃ j7 : aB, ∃ t19 : Int, ∃ t20 : Int, ∃ lo37 : Nat, Has T [(3, (.lp lo6 0 0)), (4, (.lp lo7 0 0)), (5, (.fn (.func 115) [] [(.lp lo6 0 0), (.lp lo7 0 0)])), (7, (.lp lo25 0 0)), (12, (eL aD t12)), (13, (eI t13)), (14, (eI t14)), (19, (eI t19)), (20, (eI t20))] ∧ aO ⟨H0, [], []⟩ H [(lo6, 1, [(.msl 2 lo37 0 (List.length out3))]), (lo37, 2, List.map bA out3), (lo7, 1, [(eI bZ)]), (lo25, 2, [(aD j7)])] ∧ uO out3 bZ j7 t12 t13 t14 t19 t20 = some out1) ?_ ⟨out3, bZ, gD t12 t14, (gD t12 t14).Net, (0 : Int), lo21, .eq (by kernel_rfl), hO, h1⟩
    clear hO h1
    rintro T H ⟨out3, bZ, j7, t19, t20, lo37, hT, hO, h1⟩
    refine bB hT ?_
    clear hT
    unfold uO at h1
    obtain ⟨rr1, hl1, h1⟩ := aW h1
    refine cA (by kernel_rfl) (fun (s : List aQ × Int × aB × Int) T H => ∃ lo37 : Nat, Has T [(3, (.lp lo6 0 0)), (4, (.lp lo7 0 0)), (5, (.fn (.func 115) [] [(.lp lo6 0 0), (.lp lo7 0 0)])), (7, (.lp lo25 0 0)), (12, (eL aD t12)), (13, (eI t13)), (14, (eI t14)), (19, (eI t19)), (20, (eI s.2.2.2))] ∧ aO ⟨H0, [], []⟩ H [(lo6, 1, [(.msl 2 lo37 0 (List.length s.1))]), (lo37, 2, List.map bA s.1), (lo7, 1, [(eI s.2.1)]), (lo25, 2, [(aD s.2.2.1)])]) hl1 ⟨lo37, .eq (by kernel_rfl), hO⟩ ?_
    clear hO
    rintro k1 s out2 T H ⟨lo37, hT, hO⟩ h2 ho1
    obtain ⟨out3, bZ, j7, t20⟩ := s
    replace h2 : kU t12 t13 t14 t19 out3 bZ j7 t20 = some out2 := h2
    try dsimp only at hT
    refine bB hT ?_
    clear hT
    unfold kU at h2
    refine aZ aH 1 [] [(21, (aL (decide (t20 < t19))))] ?_
    refine aR ?_
    refine bM h2 (fun h2 => ?_) (fun h2 => ?_)
    · refine bN ?_
      refine bH [(3, (.lp lo6 0 0)), (4, (.lp lo7 0 0)), (5, (.fn (.func 115) [] [(.lp lo6 0 0), (.lp lo7 0 0)])), (7, (.lp lo25 0 0)), (12, (eL aD t12)), (13, (eI t13)), (14, (eI t14)), (19, (eI t19)), (20, (eI t20))] ?_
      refine aR ?_
      refine bQ 3 ?_
      refine aT aH 7 ?_
      refine jB 0 lo6 1 0 (.msl 2 lo37 0 (List.length out3)) (.msl 2 lo37 0 (List.length out3)) [(.msl 2 lo37 0 (List.length out3))] hO rfl ?_
      refine bK 2 ?_
      refine jB 3 lo25 2 0 (aD j7) (eI j7.At) [(aD j7)] hO rfl ?_
      refine bK 4 ?_
      refine qL (xs := [(bA (aQ.mk j7.At 0))]) (k := 2) (by kernel_rfl) (by kernel_rfl) ?_
      obtain ⟨c40, h2⟩ := bJ h2
      refine FJ (e := bA) out3 ([aQ.mk j7.At 0]) 1 lo37 2 16 (dO [(bA (aQ.mk j7.At 0))]) (fun lo39 => [(lo6, 1, [(.msl 2 lo37 0 (List.length out3))]), (lo39, 2, List.map bA (out3 ++ ([aQ.mk j7.At 0]))), (lo7, 1, [(eI bZ)]), (lo25, 2, [(aD j7)])]) (by kernel_rfl) (by kernel_rfl) hO (by kernel_rfl) (by kernel_rfl) c40 (fun _ => by kernel_rfl) ?_
      intro lo39 H hO
      refine gM 0 lo6 1 0 (.msl 2 lo37 0 (List.length out3)) (.msl 2 lo39 0 (List.length (out3 ++ ([aQ.mk j7.At 0])))) [(.msl 2 lo37 0 (List.length out3))] [(lo6, 1, [(.msl 2 lo39 0 (List.length (out3 ++ ([aQ.mk j7.At 0]))))]), (lo39, 2, List.map bA (out3 ++ ([aQ.mk j7.At 0]))), (lo7, 1, [(eI bZ)]), (lo25, 2, [(aD j7)])] hO rfl (by kernel_rfl) ?_
      intro H hO
      refine cF ?_
      refine dF [(3, (.lp lo6 0 0)), (4, (.lp lo7 0 0)), (5, (.fn (.func 115) [] [(.lp lo6 0 0), (.lp lo7 0 0)])), (7, (.lp lo25 0 0)), (12, (eL aD t12)), (13, (eI t13)), (14, (eI t14)), (19, (eI t19)), (20, (eI t20))] ?_
      refine aK (aV (aI (?_)))
      refine aT aH 2 ?_
      refine bD ?_
      exact aK (aI (⟨rfl, _, (oI h2).symm, _, .eq (by kernel_rfl), hO⟩))
    refine dS 2 ?_
    obtain rfl := oI h2
    obtain rfl : _ = rr1 := ho1
    replace h1 : qW out3 bZ j7 t12 t13 t14 = some out1 := h1
    exact aK (aY (aY (bO (aI (⟨rfl, _, _, _, _, .eq (by kernel_rfl), hO, h1⟩)))))
  refine dS 0 ?_
  obtain rfl := oI h1
  obtain rfl : _ = rr0 := ho0
  replace h0 : qX out3 bZ = some r := h0
  exact aK (aY (aY (bO (aI (⟨rfl, _, _, _, .eq (by kernel_rfl), hO, h0⟩)))))

theorem LU (l0 : (List aC)) (r : ((List aG) × Int)) (h0 : rD l0 = some r) : bS Try.prog 43 [(eL aE l0)] (.tup [(eL aF r.1), (eI r.2)]) := by
  intro H0
  refine BZ aH Try.func43 (by kernel_rfl) (by kernel_rfl) (by kernel_rfl) ?_
  have hO := aO.start H0
  unfold rD at h0
  refine aZ aH 2 [] [] ?_
  refine aR ?_
  refine bQ 0 ?_
  refine aR ?_
  refine aT aH 4 ?_
  refine bK 1 ?_
  obtain ⟨x1, hx2, h0⟩ := aW h0
  refine cM (HX l0 _ hx2) hO ?_
  intro H hO
  refine bD ?_
  refine bR [] [(12, (aL (!x1)))] ?_
  refine bM h0 (fun h0 => ?_) (fun h0 => ?_)
  · refine bW aH 2 [(2, (.sl true 0 (fun _ => .bad))), (3, (eI (2 : Int)))] ?_
    refine bL ?_
    refine cS (l := [(2, (eL aF ([]))), (3, (eI (2 : Int)))]) ⟨[(2, (.sl true 0 (fun _ => .bad))), (3, (eI (2 : Int)))], by kernel_rfl, rfl, ⟨fM, aX.refl _, trivial⟩⟩ ?_
    obtain rfl := oI h0
    exact aK (bY (bC (QM0 (.inr rfl) (rs := [.tmp 2, .tmp 3]) (xs := [(eL aF ([])), (eI (2 : Int))]) (x := (.tup [(eL aF ([])), (eI (2 : Int))])) (by kernel_rfl) (yB (x := (eL aF ([]))) (by kernel_rfl) (yB (x := (eI (2 : Int))) (by kernel_rfl) qC)) (by kernel_rfl) ⟨rfl, hO.out⟩)))
  refine aR ?_
  refine aT aH 4 ?_
  refine bK 1 ?_
  obtain ⟨x5, hx6, h0⟩ := aW h0
  refine cM (OC l0 _ hx6) hO ?_
  intro H hO
  refine bD ?_
  refine bR [12] [(16, (aL (!x5)))] ?_
  refine bM h0 (fun h0 => ?_) (fun h0 => ?_)
  · refine bW aH 2 [(2, (.sl true 0 (fun _ => .bad))), (3, (eI (20 : Int)))] ?_
    refine bL ?_
    refine cS (l := [(2, (eL aF ([]))), (3, (eI (20 : Int)))]) ⟨[(2, (.sl true 0 (fun _ => .bad))), (3, (eI (20 : Int)))], by kernel_rfl, rfl, ⟨fM, aX.refl _, trivial⟩⟩ ?_
    obtain rfl := oI h0
    exact aK (bY (bC (QM0 (.inr rfl) (rs := [.tmp 2, .tmp 3]) (xs := [(eL aF ([])), (eI (20 : Int))]) (x := (.tup [(eL aF ([])), (eI (20 : Int))])) (by kernel_rfl) (yB (x := (eL aF ([]))) (by kernel_rfl) (yB (x := (eI (20 : Int))) (by kernel_rfl) qC)) (by kernel_rfl) ⟨rfl, hO.out⟩)))
  refine bN ?_
  refine dF [(0, (eL aE l0))] ?_
  refine aK (aV (aI (?_)))
  refine aR ?_
  refine aT aH 2 ?_
  refine kZ 1 (eI 0) (by kernel_rfl) (by kernel_rfl) hO ?_
  intro lo9 H hO
  refine gM 0 lo9 1 0 (eI 0) (eI (0 : Int)) [(eI 0)] [(lo9, 1, [(eI (0 : Int))])] hO rfl (by kernel_rfl) ?_
  intro H hO
  refine cF ?_
  refine bR [] [(4, (.lp lo9 0 0))] ?_
  refine aR ?_
  refine aR ?_
  refine aT aH 2 ?_
  refine bK 1 ?_
  obtain ⟨x10, hx11, h0⟩ := aW h0
  refine cM (DM l0 _ hx11) hO ?_
  intro H hO
  refine cF ?_
  refine bR [] [(21, (.fn (.func 117) [] [(.rp (eL aE x10))]))] ?_
  refine bQ 1 ?_
  refine cO [(0, (eL aE l0)), (4, (.lp lo9 0 0)), (21, (.fn (.func 117) [] [(.rp (eL aE x10))]))] ?_
  refine cK (fun T H => ∃ n4 : Int, ∃ tR : (List aC), Has T [(0, (eL aE l0)), (4, (.lp lo9 0 0)), (21, (.fn (.func 117) [] [(.rp (eL aE tR))]))] ∧ aO ⟨H0, [], []⟩ H [(lo9, 1, [(eI n4)])] ∧ tJ l0 n4 tR = some r) ?_ ⟨(0 : Int), x10, .eq (by kernel_rfl), hO, h0⟩
  clear hO h0
  rintro T H ⟨n4, tR, hT, hO, h0⟩
  refine bB (l := [(0, (eL aE l0)), (4, (.lp lo9 0 0)), (21, (.fn (.func 117) [] [(.rp (eL aE tR))]))]) hT ?_
  clear hT
  unfold tJ at h0
  obtain ⟨o0, hl0, h0⟩ := aW h0
  refine zV (fid := 117) (ys := []) (cs := [(.rp (eL aE tR))]) #[22, 23] (fun (A : xG) (b lL : Nat) (st : (Int) ⊕ (Int)) (G' : Gs) => Sum.elim (fun (s : Int) => G' = (lL, .raw (jN b A .ready none)) :: (up [(lo9, 1, [(eI s)])] ++ [])) (fun (s : Int) => False) st) (.inl n4) o0 (.tup []) (by kernel_rfl) (by kernel_rfl) (by kernel_rfl) hO (fun _ _ => rfl) ?_ ?_
  · intro b lL
    clear hO h0
    refine yP _ b (fun st t22 t23 => rnd (fun (s : Int) => mQ l0 tR s t22 t23) st) ?_ tR _ _ hl0
    intro st t22 t23 out1 rr hr
    obtain ⟨s, rfl, h1, rfl⟩ := MM hr
    clear hr
    intro Hr Gr hi hg
    obtain ⟨n4, rfl⟩ : ∃ x, x = s := ⟨_, rfl⟩
    dsimp only [Sum.elim_inl] at hi
    obtain rfl := hi
    replace h1 : mQ l0 tR n4 t22 t23 = some out1 := h1
    unfold mQ at h1
    obtain ⟨E1, hE, hO⟩ := uD hg
    refine uC (AD (hO.gm 0 _ rfl).2 (by kernel_rfl) (by kernel_rfl) ?_)
    refine cO [(0, (eL aE l0)), (4, (.lp lo9 0 0)), (21, (.fn (.func 117) [] [(.rp (eL aE tR))])), (22, (eL aM t22)), (23, (eL aD t23))] ?_
    refine aT aH 1 ?_
    refine bD ?_
    refine dF [(4, (.lp lo9 0 0)), (6, (eL aD t23))] ?_
    refine aK (⟨rfl, rfl, (hO.gm 0 _ rfl).2, ?_⟩)
    intro o1 ho1
    replace hO := hO.tT o1
    refine bQ 2 ?_
    refine iV (iU [26]) aH 5 ?_
    refine kH 0 lo9 1 0 (eI n4) (eI n4) [(eI n4)] hO rfl ?_
    refine nM 2 ?_
    obtain ⟨x12, hx13, h1⟩ := aW h1
    refine vN (GH t23 _ hx13) hO ?_
    intro H hO
    refine nM 4 ?_
    refine qJ 0 lo9 1 0 (eI n4) (eI (wR (n4 + x12))) [(eI n4)] [(lo9, 1, [(eI (wR (n4 + x12)))])] hO rfl (by kernel_rfl) ?_
    intro H hO
    refine wL (by kernel_rfl) ?_
    refine dF [(4, (.lp lo9 0 0))] ?_
    obtain rfl := oI h1
    exact aK (aV (⟨(fQ hO hE ho1 .dead).1, rfl, _, rfl, (fQ hO hE ho1 _).2⟩))
  · intro b lD15 lL H' G' hi hO
    rcases o0 with s | s
    · dsimp only [Sum.elim_inl] at hi
      obtain rfl := hi
      replace h0 : (cond (decide ((4096 : Int) < s)) (some ([], (7 : Int))) (bI (0 ≤ s ∧ (40 : Int) * s ≤ 281474976710656 ∧ s ≤ 9223372036854775807) <| (oQ l0).bind fun x20 => pZ ([] : List aG) x20)) = some r := h0
      obtain ⟨hlL, hO⟩ := pK hO
      refine ⟨_, _, hlL, (by intro e; cases e), ?_⟩
      refine dF [(0, (eL aE l0)), (4, (.lp lo9 0 0))] ?_
      refine aK (aV (aI (?_)))
      refine aR ?_
      refine aR ?_
      refine aT aH 2 ?_
      refine jB 0 lo9 1 0 (eI s) (eI s) [(eI s)] hO rfl ?_
      refine bD ?_
      refine bR [] [(29, (aL (decide ((4096 : Int) < s))))] ?_
      refine bM h0 (fun h0 => ?_) (fun h0 => ?_)
      · refine aR ?_
        refine aT aH 2 ?_
        refine bD ?_
        refine dF [(2, (.sl true 0 (fun _ => .bad))), (3, (eI (7 : Int)))] ?_
        replace hO := hO.pick (L' := []) [] (by decide) (by kernel_rfl)
        refine aK (aI (?_))
        refine bL ?_
        refine cS (l := [(2, (eL aF ([]))), (3, (eI (7 : Int)))]) ⟨[(2, (.sl true 0 (fun _ => .bad))), (3, (eI (7 : Int)))], by kernel_rfl, rfl, ⟨fM, aX.refl _, trivial⟩⟩ ?_
        obtain rfl := oI h0
        have hD := (hO.gm 0 _ rfl).2
        replace hO := (hO.tT .dead).tI
        exact aK (bC (QM1 (.inr rfl) hD (rs := [.tmp 2, .tmp 3]) (xs := [(eL aF ([])), (eI (7 : Int))]) (x := (.tup [(eL aF ([])), (eI (7 : Int))])) (by kernel_rfl) (yB (x := (eL aF ([]))) (by kernel_rfl) (yB (x := (eI (7 : Int))) (by kernel_rfl) qC)) (by kernel_rfl) ⟨rfl, hO.out⟩))
      refine bN ?_
      refine bH [(0, (eL aE l0)), (4, (.lp lo9 0 0))] ?_
      refine aR ?_
      refine aT aH 4 ?_
      refine jB 0 lo9 1 0 (eI s) (eI s) [(eI s)] hO rfl ?_
      obtain ⟨c17, h0⟩ := bJ h0
      refine FG 3 40 s (by kernel_rfl) (by kernel_rfl) c17 hO ?_
      intro lo18 H hO
      refine oK 1 (.sl true 0 (fun _ => .bad)) (eL aF ([])) (by kernel_rfl) (by kernel_rfl) (by kernel_rfl) (fM) (by kernel_rfl) (by kernel_rfl) hO ?_
      intro lo19 H hO
      refine gM 2 lo19 1 0 (eL aF ([])) (.msl 3 lo18 0 (List.length ([] : List aG))) [(eL aF ([]))] [(lo9, 1, [(eI s)]), (lo18, 3, List.map aF ([] : List aG)), (lo19, 1, [(.msl 3 lo18 0 (List.length ([] : List aG)))])] hO rfl (by kernel_rfl) ?_
      intro H hO
      refine cF ?_
      replace hO := hO.pick (L' := [(lo19, 1, [(.msl 3 lo18 0 (List.length ([] : List aG)))]), (lo18, 3, List.map aF ([] : List aG))]) [2, 1] (by decide) (by kernel_rfl)
      refine bR [4] [(7, (.lp lo19 0 0))] ?_
      refine aR ?_
      refine aR ?_
      refine aT aH 2 ?_
      refine bK 1 ?_
      obtain ⟨x20, hx21, h0⟩ := aW h0
      refine cM (DM l0 _ hx21) hO ?_
      intro H hO
      refine cF ?_
      refine bR [0] [(33, (.fn (.func 117) [] [(.rp (eL aE x20))]))] ?_
      refine bQ 3 ?_
      refine cO [(7, (.lp lo19 0 0)), (33, (.fn (.func 117) [] [(.rp (eL aE x20))]))] ?_
      refine cK (fun T H => ∃ out7 : List aG, ∃ tM : (List aC), ∃ lo22 : Nat, Has T [(7, (.lp lo19 0 0)), (33, (.fn (.func 117) [] [(.rp (eL aE tM))]))] ∧ aO ⟨H0, [], (lD15, .raw tX) :: []⟩ H [(lo19, 1, [(.msl 3 lo22 0 (List.length out7))]), (lo22, 3, List.map aF out7)] ∧ pZ out7 tM = some r) ?_ ⟨([] : List aG), x20, lo18, .eq (by kernel_rfl), hO, h0⟩
      clear hO h0
      rintro T H ⟨out7, tM, lo22, hT, hO, h0⟩
      refine bB (l := [(7, (.lp lo19 0 0)), (33, (.fn (.func 117) [] [(.rp (eL aE tM))]))]) hT ?_
      clear hT
      unfold pZ at h0
      obtain ⟨o0, hl0, h0⟩ := aW h0
      refine zV (fid := 117) (ys := []) (cs := [(.rp (eL aE tM))]) #[34, 35] (fun (A : xG) (b lL : Nat) (st : (List aG) ⊕ (List aG)) (G' : Gs) => Sum.elim (fun (s : List aG) => ∃ lo22 : Nat, G' = (lL, .raw (jN b A .ready none)) :: (up [(lo19, 1, [(.msl 3 lo22 0 (List.length s))]), (lo22, 3, List.map aF s)] ++ (lD15, .raw tX) :: [])) (fun (s : List aG) => False) st) (.inl out7) o0 (.tup []) (by kernel_rfl) (by kernel_rfl) (by kernel_rfl) hO (fun _ _ => ⟨lo22, rfl⟩) ?_ ?_
      · intro b lL
        clear hO h0
        refine yP _ b (fun st t34 t35 => rnd (fun (s : List aG) => mR tM s t34 t35) st) ?_ tM _ _ hl0
        intro st t34 t35 out1 rr hr
        obtain ⟨s, rfl, h1, rfl⟩ := MM hr
        clear hr
        intro Hr Gr hi hg
        obtain ⟨out7, rfl⟩ : ∃ x, x = s := ⟨_, rfl⟩
        dsimp only [Sum.elim_inl] at hi
        obtain ⟨lo22, rfl⟩ := hi
        replace h1 : mR tM out7 t34 t35 = some out1 := h1
        unfold mR at h1
        obtain ⟨E1, hE, hO⟩ := uD hg
        refine uC (AD (hO.gm 0 _ rfl).2 (by kernel_rfl) (by kernel_rfl) ?_)
        refine cO [(7, (.lp lo19 0 0)), (33, (.fn (.func 117) [] [(.rp (eL aE tM))])), (34, (eL aM t34)), (35, (eL aD t35))] ?_
        refine aZ aH 1 [33, 34] [(8, (eL aM t34))] ?_
        refine aT aH 1 ?_
        refine bD ?_
        refine dF [(7, (.lp lo19 0 0)), (8, (eL aM t34)), (9, (eL aD t35))] ?_
        refine aK (⟨rfl, rfl, (hO.gm 0 _ rfl).2, ?_⟩)
        intro o1 ho1
        replace hO := hO.tT o1
        refine bQ 4 ?_
        refine aR ?_
        refine aT aH 4 ?_
        refine bK 1 ?_
        obtain ⟨x23, hx24, h1⟩ := aW h1
        refine cM (OT t35 _ hx24) hO ?_
        intro H hO
        refine bD ?_
        refine bR [9] [(37, (eL bA x23)), (38, (eI (lN x23))), (39, (eI (0 : Int)))] ?_
        refine bQ 5 ?_
        refine cO [(7, (.lp lo19 0 0)), (8, (eL aM t34)), (37, (eL bA x23)), (38, (eI (lN x23))), (39, (eI (0 : Int)))] ?_
        refine cK (fun T H => ∃ out7 : List aG, ∃ r8 : (List aJ), ∃ t37 : (List aQ), ∃ t38 : Int, ∃ t39 : Int, ∃ lo27 : Nat, Has T [(7, (.lp lo19 0 0)), (8, (eL aM r8)), (37, (eL bA t37)), (38, (eI t38)), (39, (eI t39))] ∧ aO ⟨Hr, E1, (lL, o1) :: (lD15, .raw tX) :: []⟩ H [(lo19, 1, [(.msl 3 lo27 0 (List.length out7))]), (lo27, 3, List.map aF out7)] ∧ pX out7 r8 t37 t38 t39 = some out1) ?_ ⟨out7, t34, x23, (lN x23), (0 : Int), lo22, .eq (by kernel_rfl), hO, h1⟩
        clear hO h1
        rintro T H ⟨out7, r8, t37, t38, t39, lo27, hT, hO, h1⟩
        refine bB hT ?_
        clear hT
        unfold pX at h1
        obtain ⟨rr1, hl1, h1⟩ := aW h1
        refine cA (by kernel_rfl) (fun (s : List aG × Int) T H => ∃ lo27 : Nat, Has T [(7, (.lp lo19 0 0)), (8, (eL aM r8)), (37, (eL bA t37)), (38, (eI t38)), (39, (eI s.2))] ∧ aO ⟨Hr, E1, (lL, o1) :: (lD15, .raw tX) :: []⟩ H [(lo19, 1, [(.msl 3 lo27 0 (List.length s.1))]), (lo27, 3, List.map aF s.1)]) hl1 ⟨lo27, .eq (by kernel_rfl), hO⟩ ?_
        clear hO
        rintro k1 s out2 T H ⟨lo27, hT, hO⟩ h2 ho1
        obtain ⟨out7, t39⟩ := s
        replace h2 : lH r8 t37 t38 out7 t39 = some out2 := h2
        try dsimp only at hT
        refine bB hT ?_
        clear hT
        unfold lH at h2
        refine aZ aH 1 [] [(40, (aL (decide (t39 < t38))))] ?_
        refine aR ?_
        refine bM h2 (fun h2 => ?_) (fun h2 => ?_)
        · refine bN ?_
          refine bH [(7, (.lp lo19 0 0)), (8, (eL aM r8)), (37, (eL bA t37)), (38, (eI t38)), (39, (eI t39))] ?_
          refine aR ?_
          refine bQ 6 ?_
          refine aR ?_
          refine aT aH 4 ?_
          obtain ⟨c29, h2⟩ := bJ h2
          refine pS 2 [0 ≤ t39 ∧ t39 < (lN t37)] ⟨c29, trivial⟩ ?_
          refine kZ 2 (bA (aQ.mk 0 0)) (by kernel_rfl) (by kernel_rfl) hO ?_
          intro lo30 H hO
          refine gM 2 lo30 2 0 (bA (aQ.mk 0 0)) (bA (gD t37 t39)) [(bA (aQ.mk 0 0))] [(lo19, 1, [(.msl 3 lo27 0 (List.length out7))]), (lo27, 3, List.map aF out7), (lo30, 2, [(bA (gD t37 t39))])] hO rfl (by kernel_rfl) ?_
          intro H hO
          refine cF ?_
          refine bR [] [(11, (.lp lo30 0 0))] ?_
          refine cO [(7, (.lp lo19 0 0)), (8, (eL aM r8)), (11, (.lp lo30 0 0)), (37, (eL bA t37)), (38, (eI t38)), (39, (eI t39))] ?_
          refine vT 2 2 11 2 lo30 (bA (gD t37 t39)) [(lo19, 1, [(.msl 3 lo27 0 (List.length out7))]), (lo27, 3, List.map aF out7)] hO (by kernel_rfl) (by kernel_rfl) (by kernel_rfl) ?_
          intro H hO
          refine iV (iU [45, 46, 48]) aH 8 ?_
          refine kH 0 lo19 1 0 (.msl 3 lo27 0 (List.length out7)) (.msl 3 lo27 0 (List.length out7)) [(.msl 3 lo27 0 (List.length out7))] hO rfl ?_
          refine nM 2 ?_
          obtain ⟨x31, hx32, h2⟩ := aW h2
          refine vN (wA r8 _ hx32) hO ?_
          intro H hO
          refine nM 5 ?_
          refine xM (xs := [(aF (aG.mk x31 (gD t37 t39)))]) (k := 3) (by kernel_rfl) (by kernel_rfl) ?_
          obtain ⟨c35, h2⟩ := bJ h2
          refine xB (e := aF) out7 ([aG.mk x31 (gD t37 t39)]) 1 lo27 3 40 (dO [(aF (aG.mk x31 (gD t37 t39)))]) (fun lo34 => [(lo19, 1, [(.msl 3 lo27 0 (List.length out7))]), (lo34, 3, List.map aF (out7 ++ ([aG.mk x31 (gD t37 t39)])))]) (by kernel_rfl) (by kernel_rfl) hO (by kernel_rfl) (by kernel_rfl) c35 (fun _ => by kernel_rfl) ?_
          intro lo34 H hO
          refine qJ 0 lo19 1 0 (.msl 3 lo27 0 (List.length out7)) (.msl 3 lo34 0 (List.length (out7 ++ ([aG.mk x31 (gD t37 t39)])))) [(.msl 3 lo27 0 (List.length out7))] [(lo19, 1, [(.msl 3 lo34 0 (List.length (out7 ++ ([aG.mk x31 (gD t37 t39)]))))]), (lo34, 3, List.map aF (out7 ++ ([aG.mk x31 (gD t37 t39)])))] hO rfl (by kernel_rfl) ?_
          intro H hO
          refine wL (by kernel_rfl) ?_
          refine dF [(7, (.lp lo19 0 0)), (8, (eL aM r8)), (37, (eL bA t37)), (38, (eI t38)), (39, (eI t39))] ?_
          refine aK (aV (aI (?_)))
          refine aT aH 2 ?_
          refine bD ?_
          exact aK (aI (⟨rfl, _, (oI h2).symm, _, .eq (by kernel_rfl), hO⟩))
        refine dS 5 ?_
        refine dF [(7, (.lp lo19 0 0))] ?_
        obtain rfl := oI h2
        obtain rfl : _ = rr1 := ho1
        replace h1 : some (.inl out7) = some out1 := h1
        obtain rfl := oI h1
        exact aK (aY (aY (bO (aV (⟨(fQ hO hE ho1 .dead).1, rfl, _, ⟨lo27, rfl⟩, (fQ hO hE ho1 _).2⟩)))))
      · intro b lD36 lL H' G' hi hO
        rcases o0 with s | s
        · dsimp only [Sum.elim_inl] at hi
          obtain ⟨lo22, rfl⟩ := hi
          replace h0 : (some (s, (0 : Int))) = some r := h0
          obtain ⟨hlL, hO⟩ := pK hO
          refine ⟨_, _, hlL, (by intro e; cases e), ?_⟩
          refine dF [(7, (.lp lo19 0 0))] ?_
          refine aK (aV (aI (?_)))
          refine aR ?_
          refine aT aH 3 ?_
          refine jB 0 lo19 1 0 (.msl 3 lo22 0 (List.length s)) (.msl 3 lo22 0 (List.length s)) [(.msl 3 lo22 0 (List.length s))] hO rfl ?_
          refine bD ?_
          refine dF [(2, (.msl 3 lo22 0 (List.length s))), (3, (eI (0 : Int)))] ?_
          replace hO := hO.pick (L' := [(lo22, 3, List.map aF s)]) [1] (by decide) (by kernel_rfl)
          refine aK (aI (?_))
          refine bL ?_
          refine dF [(2, (.msl 3 lo22 0 (List.length s))), (3, (eI (0 : Int)))] ?_
          refine tC (en := aF) s 0 0 2 3 lo22 (List.length s) hO (by kernel_rfl) (by kernel_rfl) (by kernel_rfl) (L' := []) (by kernel_rfl) ?_
          intro H37 hO
          obtain rfl := oI h0
          have hD := (hO.gm 0 _ rfl).2
          have hE := (hO.gm 1 _ rfl).2
          have hF := hO.gn 0 1 _ _ rfl rfl (by decide)
          replace hO := ((hO.tT .dead).tI.tT .dead).tI
          exact aK (QM2 (.inr rfl) hD hE hF (rs := [.tmp 2, .tmp 3]) (xs := [(eL aF s), (eI (0 : Int))]) (x := (.tup [(eL aF s), (eI (0 : Int))])) (by kernel_rfl) (yB (x := (eL aF s)) (by kernel_rfl) (yB (x := (eI (0 : Int))) (by kernel_rfl) qC)) (by kernel_rfl) ⟨rfl, hO.out⟩)
        · exact hi.elim
    · exact hi.elim

theorem FZ (l0 : (List aG)) (r : ((List aG) × Int)) (h0 : rO l0 = some r) : bS Try.prog 11 [(eL aF l0)] (.tup [(eL aF r.1), (eI r.2)]) := by
  intro H0
  refine cG Try.func11 ?_
  have hO := aO.start H0
  unfold rO at h0
  refine aZ aH 2 [] [] ?_
  refine aR ?_
  refine aT aH 7 ?_
  refine bK 1 ?_
  obtain ⟨x1, hx2, h0⟩ := aW h0
  refine cM (NM l0 _ hx2) hO ?_
  intro H hO
  refine bD ?_
  refine bH [(4, (eL aE x1.1)), (5, (eI x1.2))] ?_
  refine aR ?_
  refine aZ aH 2 [] [(12, (aL (!decide (x1.2 = (0 : Int)))))] ?_
  refine bM h0 (fun h0 => ?_) (fun h0 => ?_)
  · refine bW aH 3 [(2, (.sl true 0 (fun _ => .bad))), (3, (eI x1.2))] ?_
    refine bL ?_
    refine cS (l := [(2, (eL aF ([]))), (3, (eI x1.2))]) ⟨[(2, (.sl true 0 (fun _ => .bad))), (3, (eI x1.2))], by kernel_rfl, rfl, ⟨fM, aX.refl _, trivial⟩⟩ ?_
    obtain rfl := oI h0
    exact aK (bC (Q_r hO))
  refine bN ?_
  refine bH [(4, (eL aE x1.1))] ?_
  refine aR ?_
  refine aT aH 6 ?_
  refine bK 1 ?_
  obtain ⟨x5, hx6, h0⟩ := aW h0
  refine cM (LU x1.1 _ hx6) hO ?_
  intro H hO
  refine bD ?_
  refine bH [(2, (eL aF x5.1)), (3, (eI x5.2))] ?_
  refine bL ?_
  obtain rfl := oI h0
  exact aK (Q_r hO)

theorem mK (s10 : (List aG)) (s21 : (List aG)) (eq2_f : Nat) (eq2_a eq2_c : List V) (eq2 : aG → aG → Option Bool) (eq2_h : ∀ a0 a1 r, eq2 a0 a1 = some r → bS Try.prog eq2_f (eq2_a ++ [(aF a0), (aF a1)] ++ eq2_c) (aL r)) (r : Bool) (h0 : cJ s10 s21 eq2 = some r) : bS Try.prog 81 [(eL aF s10), (eL aF s21), (.fn (.func eq2_f) eq2_a eq2_c)] (aL r) := by
  intro H0
  refine cG Try.func81 ?_
  have hO := aO.start H0
  unfold cJ at h0
  refine aZ aH 1 [] [] ?_
  refine aR ?_
  refine aZ aH 5 [] [(14, (aL (!decide ((lN s10) = (lN s21)))))] ?_
  refine bM h0 (fun h0 => ?_) (fun h0 => ?_)
  · refine bW aH 1 [(6, (aL false))] ?_
    refine bL ?_
    obtain rfl := oI h0
    exact aK (bC (Q_r hO))
  refine bN ?_
  refine bH [(0, (eL aF s10)), (1, (eL aF s21)), (2, (.fn (.func eq2_f) eq2_a eq2_c))] ?_
  refine cT (fun T H => Has T [] ∧ aO ⟨H0, [], []⟩ H [] ∧ cD eq2  = some r) ?_ ?_
  · clear hO h0
    rintro T H ⟨hT, hO, h0⟩
    refine bB hT ?_
    clear hT
    unfold cD at h0
    refine bW aH 1 [(6, (aL true))] ?_
    refine bL ?_
    obtain rfl := oI h0
    exact aK (Q_r hO)
  refine aZ aH 3 [0] [(15, (eL aF s10)), (16, (eI (lN s10))), (17, (eI (0 : Int)))] ?_
  refine bQ 0 ?_
  refine cO [(1, (eL aF s21)), (2, (.fn (.func eq2_f) eq2_a eq2_c)), (15, (eL aF s10)), (16, (eI (lN s10))), (17, (eI (0 : Int)))] ?_
  refine cK (fun T H => ∃ t15 : (List aG), ∃ t16 : Int, ∃ t17 : Int, Has T [(1, (eL aF s21)), (2, (.fn (.func eq2_f) eq2_a eq2_c)), (15, (eL aF t15)), (16, (eI t16)), (17, (eI t17))] ∧ aO ⟨H0, [], []⟩ H [] ∧ cI eq2 s21 t15 t16 t17 = some r) ?_ ⟨s10, (lN s10), (0 : Int), .eq (by kernel_rfl), hO, h0⟩
  clear hO h0
  rintro T H ⟨t15, t16, t17, hT, hO, h0⟩
  refine bB hT ?_
  clear hT
  unfold cI at h0
  obtain ⟨rr0, hl0, h0⟩ := aW h0
  refine cA (by kernel_rfl) (fun (s : Int) T H => Has T [(1, (eL aF s21)), (2, (.fn (.func eq2_f) eq2_a eq2_c)), (15, (eL aF t15)), (16, (eI t16)), (17, (eI s))] ∧ aO ⟨H0, [], []⟩ H []) hl0 ⟨.eq (by kernel_rfl), hO⟩ ?_
  clear hO
  rintro k0 s out1 T H ⟨hT, hO⟩ h1 ho0
  obtain ⟨t17, rfl⟩ : ∃ x, x = s := ⟨_, rfl⟩
  replace h1 : bX eq2 s21 t15 t16 t17 = some out1 := h1
  refine bB hT ?_
  clear hT
  unfold bX at h1
  refine aZ aH 1 [] [(18, (aL (decide (t17 < t16))))] ?_
  refine aR ?_
  refine bM h1 (fun h1 => ?_) (fun h1 => ?_)
  · refine bN ?_
    refine bH [(1, (eL aF s21)), (2, (.fn (.func eq2_f) eq2_a eq2_c)), (15, (eL aF t15)), (16, (eI t16)), (17, (eI t17))] ?_
    refine aR ?_
    refine bQ 1 ?_
    refine aR ?_
    refine aT aH 6 ?_
    obtain ⟨c3, h1⟩ := bJ h1
    refine pS 3 [0 ≤ t17 ∧ t17 < (lN t15)] ⟨c3, trivial⟩ ?_
    refine oK 3 (.agg [(.sl true 0 (fun _ => .bad)), (eI 0), (eI 0)]) (aF (aG.mk ([]) (aQ.mk 0 0))) (by kernel_rfl) (by kernel_rfl) (by kernel_rfl) (zN (xs := [(.sl true 0 (fun _ => .bad)), (eI 0), (eI 0)]) (ys := [(eL aM ([])), (eI 0), (eI 0)]) ⟨fM, aX.refl _, aX.refl _, trivial⟩) (by kernel_rfl) (by kernel_rfl) hO ?_
    intro lo4 H hO
    refine bK 5 ?_
    refine gM 0 lo4 3 0 (aF (aG.mk ([]) (aQ.mk 0 0))) (aF (gD t15 t17)) [(aF (aG.mk ([]) (aQ.mk 0 0)))] [(lo4, 3, [(aF (gD t15 t17))])] hO rfl (by kernel_rfl) ?_
    intro H hO
    refine cF ?_
    refine bR [] [(7, (eI t17)), (8, (.lp lo4 0 0))] ?_
    refine aR ?_
    refine aT aH 6 ?_
    obtain ⟨c5, h1⟩ := bJ h1
    refine pS 4 [0 ≤ t17 ∧ t17 < (lN s21)] ⟨c5, trivial⟩ ?_
    refine oK 3 (.agg [(.sl true 0 (fun _ => .bad)), (eI 0), (eI 0)]) (aF (aG.mk ([]) (aQ.mk 0 0))) (by kernel_rfl) (by kernel_rfl) (by kernel_rfl) (zN (xs := [(.sl true 0 (fun _ => .bad)), (eI 0), (eI 0)]) (ys := [(eL aM ([])), (eI 0), (eI 0)]) ⟨fM, aX.refl _, aX.refl _, trivial⟩) (by kernel_rfl) (by kernel_rfl) hO ?_
    intro lo6 H hO
    refine gM 1 lo6 3 0 (aF (aG.mk ([]) (aQ.mk 0 0))) (aF (gD s21 t17)) [(aF (aG.mk ([]) (aQ.mk 0 0)))] [(lo4, 3, [(aF (gD t15 t17))]), (lo6, 3, [(aF (gD s21 t17))])] hO rfl (by kernel_rfl) ?_
    intro H hO
    refine cF ?_
    refine bR [7] [(9, (.lp lo6 0 0))] ?_
    refine aR ?_
    refine aT aH 5 ?_
    refine bK 1 ?_
    refine jB 0 lo4 3 0 (aF (gD t15 t17)) (aF (gD t15 t17)) [(aF (gD t15 t17))] hO rfl ?_
    refine jB 1 lo6 3 0 (aF (gD s21 t17)) (aF (gD s21 t17)) [(aF (gD s21 t17))] hO rfl ?_
    obtain ⟨x7, hx8, h1⟩ := aW h1
    refine cM (eq2_h (gD t15 t17) (gD s21 t17) _ hx8) hO ?_
    intro H hO
    refine bD ?_
    replace hO := hO.pick (L' := []) [] (by decide) (by kernel_rfl)
    refine bR [8, 9] [(30, (aL (!x7)))] ?_
    refine bM h1 (fun h1 => ?_) (fun h1 => ?_)
    · refine bW aH 1 [(6, (aL false))] ?_
      refine bL ?_
      obtain rfl := oI h1
      obtain rfl : _ = rr0 := ho0
      replace h0 : some false = some r := h0
      obtain rfl := oI h0
      exact aK (bY (bC (bC (bY (bC (Q_r hO))))))
    refine bN ?_
    refine dF [(1, (eL aF s21)), (2, (.fn (.func eq2_f) eq2_a eq2_c)), (15, (eL aF t15)), (16, (eI t16)), (17, (eI t17))] ?_
    refine aK (aV (aI (?_)))
    refine aT aH 2 ?_
    refine bD ?_
    exact aK (aI (⟨rfl, _, (oI h1).symm, .eq (by kernel_rfl), hO⟩))
  refine dS 0 ?_
  obtain rfl := oI h1
  obtain rfl : _ = rr0 := ho0
  replace h0 : cD eq2  = some r := h0
  exact aK (aY (aY (bO (aI (⟨rfl, .eq (by kernel_rfl), hO, h0⟩)))))

theorem LN (x0 : aG) (y1 : aG) (r : Bool) (h0 : nJ x0 y1 = some r) : bS Try.prog 82 [(aF x0), (aF y1)] (aL r) := by
  intro H0
  refine cG Try.func82 ?_
  have hO := aO.start H0
  unfold nJ at h0
  refine aR ?_
  refine aT aH 3 ?_
  refine gN 3 (aF x0) (by kernel_rfl) (by kernel_rfl) ?_
  refine gN 3 (aF y1) (by kernel_rfl) (by kernel_rfl) ?_
  refine bD ?_
  refine bH [(2, (.rp (aF x0))), (3, (.rp (aF y1)))] ?_
  refine aR ?_
  refine aT aH 13 ?_
  refine bK 10 ?_
  obtain ⟨x1, hx2, h0⟩ := aW h0
  refine eA [(10, true)] 78 [(eL aM x0.Row), (eL aM y1.Row)] (aL x1) ((decide (x0.Span.From = y1.Span.From)) && ((decide (x0.Span.To = y1.Span.To)) && true)) (by kernel_rfl) (by kernel_rfl) (by kernel_rfl) (fun hb3 => (IZ x0.Row y1.Row _ (fG hx2 hb3))) hO ?_
  intro H hO
  refine bD ?_
  refine bH [(4, (aL (((decide (x0.Span.From = y1.Span.From)) && ((decide (x0.Span.To = y1.Span.To)) && true)) && x1)))] ?_
  refine bL ?_
  obtain rfl := oI h0
  exact aK (Q_r hO)

theorem FV (a0 : (List aG)) (b1 : (List aG)) (r : Bool) (h0 : pQ a0 b1 = some r) : bS Try.prog 41 [(eL aF a0), (eL aF b1)] (aL r) := by
  intro H0
  refine cG Try.func41 ?_
  have hO := aO.start H0
  unfold pQ at h0
  refine aZ aH 1 [] [] ?_
  refine aR ?_
  refine aT aH 4 ?_
  refine bK 2 ?_
  obtain ⟨x1, hx2, h0⟩ := aW h0
  refine cM (mK a0 b1 82 [] [] (fun y0 y1 => nJ y0 y1) (fun y0 y1 r h => LN y0 y1 r h) _ hx2) hO ?_
  intro H hO
  refine bD ?_
  refine bH [(4, (aL x1))] ?_
  refine bL ?_
  obtain rfl := oI h0
  exact aK (Q_r hO)

theorem NC (a0 : (List aJ)) (b1 : (List aJ)) (r : Bool) (h0 : sK a0 b1 = some r) : bS Try.prog 46 [(eL aM a0), (eL aM b1)] (aL r) := by
  intro H0
  refine cG Try.func46 ?_
  have hO := aO.start H0
  unfold sK at h0
  refine aZ aH 1 [] [] ?_
  refine aR ?_
  refine aZ aH 5 [] [(10, (aL (!decide ((lN a0) = (lN b1)))))] ?_
  refine bM h0 (fun h0 => ?_) (fun h0 => ?_)
  · refine bW aH 1 [(4, (aL false))] ?_
    refine bL ?_
    obtain rfl := oI h0
    exact aK (bC (Q_r hO))
  refine bN ?_
  refine bH [(0, (eL aM a0)), (1, (eL aM b1))] ?_
  refine cT (fun T H => Has T [] ∧ aO ⟨H0, [], []⟩ H [] ∧ qS  = some r) ?_ ?_
  · clear hO h0
    rintro T H ⟨hT, hO, h0⟩
    refine bB hT ?_
    clear hT
    unfold qS at h0
    refine bW aH 1 [(4, (aL true))] ?_
    refine bL ?_
    obtain rfl := oI h0
    exact aK (Q_r hO)
  refine aZ aH 1 [] [(5, (eI (0 : Int)))] ?_
  refine bQ 0 ?_
  refine cO [(0, (eL aM a0)), (1, (eL aM b1)), (5, (eI (0 : Int)))] ?_
  refine cK (fun T H => ∃ i5 : Int, Has T [(0, (eL aM a0)), (1, (eL aM b1)), (5, (eI i5))] ∧ aO ⟨H0, [], []⟩ H [] ∧ vC a0 b1 i5 = some r) ?_ ⟨(0 : Int), .eq (by kernel_rfl), hO, h0⟩
  clear hO h0
  rintro T H ⟨i5, hT, hO, h0⟩
  refine bB hT ?_
  clear hT
  unfold vC at h0
  obtain ⟨rr0, hl0, h0⟩ := aW h0
  refine cA (by kernel_rfl) (fun (s : Int) T H => Has T [(0, (eL aM a0)), (1, (eL aM b1)), (5, (eI s))] ∧ aO ⟨H0, [], []⟩ H []) hl0 ⟨.eq (by kernel_rfl), hO⟩ ?_
  clear hO
  rintro k0 s out1 T H ⟨hT, hO⟩ h1 ho0
  obtain ⟨i5, rfl⟩ : ∃ x, x = s := ⟨_, rfl⟩
  replace h1 : oR a0 b1 i5 = some out1 := h1
  refine bB hT ?_
  clear hT
  unfold oR at h1
  refine aR ?_
  refine aZ aH 4 [] [(14, (aL (decide (i5 < (lN a0)))))] ?_
  refine bM h1 (fun h1 => ?_) (fun h1 => ?_)
  · refine bN ?_
    refine bH [(0, (eL aM a0)), (1, (eL aM b1)), (5, (eI i5))] ?_
    refine aR ?_
    refine bQ 1 ?_
    refine aR ?_
    refine iV (iU [20, 24]) aH 9 ?_
    obtain ⟨c3, h1⟩ := bJ h1
    obtain ⟨c4, h1⟩ := bJ h1
    refine MC (Ds := [0 ≤ i5 ∧ i5 < (lN a0), 0 ≤ i5 ∧ i5 < (lN b1)]) (by kernel_rfl) ⟨c3, c4, trivial⟩ ?_
    refine bR [] [(25, (aL (!((decide (((gD a0 i5).Kind) = ((gD b1 i5).Kind))) && ((decide (((gD a0 i5).Num) = ((gD b1 i5).Num))) && ((nO ((gD a0 i5).Text) ((gD b1 i5).Text)) && true))))))] ?_
    refine bM h1 (fun h1 => ?_) (fun h1 => ?_)
    · refine bW aH 1 [(4, (aL false))] ?_
      refine bL ?_
      obtain rfl := oI h1
      obtain rfl : _ = rr0 := ho0
      replace h0 : some false = some r := h0
      obtain rfl := oI h0
      exact aK (bY (bC (bC (bY (bC (Q_r hO))))))
    refine bN ?_
    refine dF [(0, (eL aM a0)), (1, (eL aM b1)), (5, (eI i5))] ?_
    refine aK (aV (aI (?_)))
    refine aT aH 3 ?_
    refine bD ?_
    exact aK (aI (⟨rfl, _, (oI h1).symm, .eq (by kernel_rfl), hO⟩))
  refine dS 0 ?_
  obtain rfl := oI h1
  obtain rfl : _ = rr0 := ho0
  replace h0 : qS  = some r := h0
  exact aK (aY (aY (bO (aI (⟨rfl, .eq (by kernel_rfl), hO, h0⟩)))))

theorem AE (a0 : (List aG)) (b1 : (List aG)) (r : Bool) (h0 : nF a0 b1 = some r) : bS Try.prog 12 [(eL aF a0), (eL aF b1)] (aL r) := by
  intro H0
  refine cG Try.func12 ?_
  have hO := aO.start H0
  unfold nF at h0
  refine aZ aH 1 [] [] ?_
  refine aR ?_
  refine aZ aH 5 [] [(10, (aL (!decide ((lN a0) = (lN b1)))))] ?_
  refine bM h0 (fun h0 => ?_) (fun h0 => ?_)
  · refine bW aH 1 [(4, (aL false))] ?_
    refine bL ?_
    obtain rfl := oI h0
    exact aK (bC (Q_r hO))
  refine bN ?_
  refine bH [(0, (eL aF a0)), (1, (eL aF b1))] ?_
  refine cT (fun T H => Has T [] ∧ aO ⟨H0, [], []⟩ H [] ∧ rK  = some r) ?_ ?_
  · clear hO h0
    rintro T H ⟨hT, hO, h0⟩
    refine bB hT ?_
    clear hT
    unfold rK at h0
    refine bW aH 1 [(4, (aL true))] ?_
    refine bL ?_
    obtain rfl := oI h0
    exact aK (Q_r hO)
  refine aZ aH 1 [] [(5, (eI (0 : Int)))] ?_
  refine bQ 0 ?_
  refine cO [(0, (eL aF a0)), (1, (eL aF b1)), (5, (eI (0 : Int)))] ?_
  refine cK (fun T H => ∃ i5 : Int, Has T [(0, (eL aF a0)), (1, (eL aF b1)), (5, (eI i5))] ∧ aO ⟨H0, [], []⟩ H [] ∧ uW a0 b1 i5 = some r) ?_ ⟨(0 : Int), .eq (by kernel_rfl), hO, h0⟩
  clear hO h0
  rintro T H ⟨i5, hT, hO, h0⟩
  refine bB hT ?_
  clear hT
  unfold uW at h0
  obtain ⟨rr0, hl0, h0⟩ := aW h0
  refine cA (by kernel_rfl) (fun (s : Int) T H => Has T [(0, (eL aF a0)), (1, (eL aF b1)), (5, (eI s))] ∧ aO ⟨H0, [], []⟩ H []) hl0 ⟨.eq (by kernel_rfl), hO⟩ ?_
  clear hO
  rintro k0 s out1 T H ⟨hT, hO⟩ h1 ho0
  obtain ⟨i5, rfl⟩ : ∃ x, x = s := ⟨_, rfl⟩
  replace h1 : oW a0 b1 i5 = some out1 := h1
  refine bB hT ?_
  clear hT
  unfold oW at h1
  refine aR ?_
  refine aZ aH 4 [] [(14, (aL (decide (i5 < (lN a0)))))] ?_
  refine bM h1 (fun h1 => ?_) (fun h1 => ?_)
  · refine bN ?_
    refine bH [(0, (eL aF a0)), (1, (eL aF b1)), (5, (eI i5))] ?_
    refine aR ?_
    refine bQ 1 ?_
    refine aR ?_
    obtain ⟨c3, h1⟩ := bJ h1
    obtain ⟨c4, h1⟩ := bJ h1
    obtain ⟨c5, h1⟩ := bJ h1
    obtain ⟨c6, h1⟩ := bJ h1
    obtain ⟨x7, hx8, h1⟩ := aW h1
    refine iV (iU [21, 26, 33, 38]) aH 25 ?_
    refine EO (K := fun T H => Has (lift T) [(0, (eL aF a0)), (1, (eL aF b1)), (5, (eI i5)), (41, (aL ((!((decide ((((gD a0 i5).Span).From) = (((gD b1 i5).Span).From))) && ((decide ((((gD a0 i5).Span).To) = (((gD b1 i5).Span).To))) && true))) || (!x7))))] ∧ aO ⟨H0, [], []⟩ H []) ?_ ?_
    · refine dG 12 [0 ≤ i5 ∧ i5 < (lN a0), 0 ≤ i5 ∧ i5 < (lN b1)] ⟨c3, c4, trivial⟩ ?_
      refine FB (t := 28) (e := !((decide ((((gD a0 i5).Span).From) = (((gD b1 i5).Span).From))) && ((decide ((((gD a0 i5).Span).To) = (((gD b1 i5).Span).To))) && true))) (by kernel_rfl) (fun hg9 => ?_) (fun hg9 => ?_)
      · refine nL ?_
        exact ⟨⟨[(0, (eL aF a0)), (1, (eL aF b1)), (5, (eI i5)), (41, (aL true))], by kernel_rfl, rfl, ⟨aX.refl _, aX.refl _, aX.refl _, aX.eq (congrArg aL (aAA hg9 rfl).symm), trivial⟩⟩, hO⟩
      refine dG 22 [0 ≤ i5 ∧ i5 < (lN a0), 0 ≤ i5 ∧ i5 < (lN b1)] ⟨(c5 (TU hg9)), (c6 (TU hg9)), trivial⟩ ?_
      refine JH 46 [(eL aM ((gD a0 i5).Row)), (eL aM ((gD b1 i5).Row))] (aL x7) (by kernel_rfl) (by kernel_rfl) (NC ((gD a0 i5).Row) ((gD b1 i5).Row) _ (fG hx8 (TU hg9))) hO ?_
      intro H hO
      refine nL ?_
      exact ⟨⟨[(0, (eL aF a0)), (1, (eL aF b1)), (5, (eI i5)), (41, (aL (!x7)))], by kernel_rfl, rfl, ⟨aX.refl _, aX.refl _, aX.refl _, aX.eq (congrArg aL (aAA hg9 rfl).symm), trivial⟩⟩, hO⟩
    · rintro T H ⟨hT, hO⟩
      refine cS hT ?_
      clear hT
      refine aK (aI ?_)
      refine bM h1 (fun h1 => ?_) (fun h1 => ?_)
      · refine bW aH 1 [(4, (aL false))] ?_
        refine bL ?_
        obtain rfl := oI h1
        obtain rfl : _ = rr0 := ho0
        replace h0 : some false = some r := h0
        obtain rfl := oI h0
        exact aK (bY (bC (bC (bY (bC (Q_r hO))))))
      refine bN ?_
      refine dF [(0, (eL aF a0)), (1, (eL aF b1)), (5, (eI i5))] ?_
      refine aK (aV (aI (?_)))
      refine aT aH 3 ?_
      refine bD ?_
      exact aK (aI (⟨rfl, _, (oI h1).symm, .eq (by kernel_rfl), hO⟩))
  refine dS 0 ?_
  obtain rfl := oI h1
  obtain rfl : _ = rr0 := ho0
  replace h0 : rK  = some r := h0
  exact aK (aY (aY (bO (aI (⟨rfl, .eq (by kernel_rfl), hO, h0⟩)))))

theorem OM  (r : Bool) (h0 : sH  = some r) : bS Try.prog 10 [] (aL r) := by
  intro H0
  refine cG Try.func10 ?_
  have hO := aO.start H0
  unfold sH at h0
  refine bW aH 1 [] ?_
  refine aR ?_
  refine aT aH 9 ?_
  obtain ⟨x1, hx2, h0⟩ := aW h0
  refine cM (mY (5 : Int) (9 : Int) _ hx2) hO ?_
  intro H hO
  obtain ⟨x4, hx5, h0⟩ := aW h0
  refine cM (mY (2 : Int) (5 : Int) _ hx5) hO ?_
  intro H hO
  refine qL (xs := [(aF x1), (aF x4)]) (k := 3) (by kernel_rfl) (by kernel_rfl) ?_
  obtain ⟨x7, hx8, h0⟩ := aW h0
  refine aAv 11 [(dO [(aF x1), (aF x4)])] (.tup [(eL aF x7.1), (eI x7.2)]) (bS.sub (FZ ([x1, x4]) _ hx8) ⟨BT (l := [x1, x4]), trivial⟩) hO ?_
  intro H hO
  refine bD ?_
  refine bH [(1, (eL aF x7.1)), (2, (eI x7.2))] ?_
  refine aR ?_
  refine aT aH 9 ?_
  obtain ⟨x10, hx11, h0⟩ := aW h0
  refine cM (mY (1 : Int) (10 : Int) _ hx11) hO ?_
  intro H hO
  obtain ⟨x13, hx14, h0⟩ := aW h0
  refine cM (mY (3 : Int) (5 : Int) _ hx14) hO ?_
  intro H hO
  refine qL (xs := [(aF x10), (aF x13)]) (k := 3) (by kernel_rfl) (by kernel_rfl) ?_
  obtain ⟨x16, hx17, h0⟩ := aW h0
  refine aAv 11 [(dO [(aF x10), (aF x13)])] (.tup [(eL aF x16.1), (eI x16.2)]) (bS.sub (FZ ([x10, x13]) _ hx17) ⟨BT (l := [x10, x13]), trivial⟩) hO ?_
  intro H hO
  refine bD ?_
  refine bR [] [(3, (eL aF x16.1)), (4, (eI x16.2))] ?_
  refine aR ?_
  refine aT aH 29 ?_
  refine bK 8 ?_
  obtain ⟨x19, hx20, h0⟩ := aW h0
  refine eA [(25, true)] 44 [(eI (2 : Int)), (eI (9 : Int))] (aF x19) ((decide (x7.2 = (0 : Int))) && (decide (x16.2 = (0 : Int)))) (by kernel_rfl) (by kernel_rfl) (by kernel_rfl) (fun hb21 => (mY (2 : Int) (9 : Int) _ (fG hx20 hb21))) hO ?_
  intro H hO
  refine UX [(25, true)] [(aF x19)] (by kernel_rfl) (by kernel_rfl) ?_
  obtain ⟨x22, hx23, h0⟩ := aW h0
  refine eA [(25, true)] 41 [(eL aF x7.1), (dO [(aF x19)])] (aL x22) ((decide (x7.2 = (0 : Int))) && (decide (x16.2 = (0 : Int)))) (by kernel_rfl) (by kernel_rfl) (by kernel_rfl) (fun hb24 => (bS.sub (FV x7.1 ([x19]) _ (fG hx23 hb24)) ⟨aX.refl _, BT (l := [x19]), trivial⟩)) hO ?_
  intro H hO
  refine bK 14 ?_
  obtain ⟨x25, hx26, h0⟩ := aW h0
  refine eA [(31, true)] 44 [(eI (1 : Int)), (eI (5 : Int))] (aF x25) (((decide (x7.2 = (0 : Int))) && (decide (x16.2 = (0 : Int)))) && x22) (by kernel_rfl) (by kernel_rfl) (by kernel_rfl) (fun hb27 => (mY (1 : Int) (5 : Int) _ (fG hx26 hb27))) hO ?_
  intro H hO
  obtain ⟨x28, hx29, h0⟩ := aW h0
  refine eA [(31, true)] 44 [(eI (3 : Int)), (eI (10 : Int))] (aF x28) (((decide (x7.2 = (0 : Int))) && (decide (x16.2 = (0 : Int)))) && x22) (by kernel_rfl) (by kernel_rfl) (by kernel_rfl) (fun hb30 => (mY (3 : Int) (10 : Int) _ (fG hx29 hb30))) hO ?_
  intro H hO
  refine UX [(31, true)] [(aF x25), (aF x28)] (by kernel_rfl) (by kernel_rfl) ?_
  obtain ⟨x31, hx32, h0⟩ := aW h0
  refine eA [(31, true)] 12 [(eL aF x16.1), (dO [(aF x25), (aF x28)])] (aL x31) (((decide (x7.2 = (0 : Int))) && (decide (x16.2 = (0 : Int)))) && x22) (by kernel_rfl) (by kernel_rfl) (by kernel_rfl) (fun hb33 => (bS.sub (AE x16.1 ([x25, x28]) _ (fG hx32 hb33)) ⟨aX.refl _, BT (l := [x25, x28]), trivial⟩)) hO ?_
  intro H hO
  refine bK 20 ?_
  obtain ⟨x34, hx35, h0⟩ := aW h0
  refine eA [(38, true)] 44 [(eI (-1 : Int)), (eI (0 : Int))] (aF x34) ((((decide (x7.2 = (0 : Int))) && (decide (x16.2 = (0 : Int)))) && x22) && x31) (by kernel_rfl) (by kernel_rfl) (by kernel_rfl) (fun hb36 => (mY (-1 : Int) (0 : Int) _ (fG hx35 hb36))) hO ?_
  intro H hO
  obtain ⟨x37, hx38, h0⟩ := aW h0
  refine eA [(38, true)] 45 [(aF x34)] (aL x37) ((((decide (x7.2 = (0 : Int))) && (decide (x16.2 = (0 : Int)))) && x22) && x31) (by kernel_rfl) (by kernel_rfl) (by kernel_rfl) (fun hb39 => (CJ x34 _ (fG hx38 hb39))) hO ?_
  intro H hO
  refine bK 24 ?_
  obtain ⟨x40, hx41, h0⟩ := aW h0
  refine eA [(42, true)] 44 [(eI (3 : Int)), (eI (3 : Int))] (aF x40) (((((decide (x7.2 = (0 : Int))) && (decide (x16.2 = (0 : Int)))) && x22) && x31) && x37) (by kernel_rfl) (by kernel_rfl) (by kernel_rfl) (fun hb42 => (mY (3 : Int) (3 : Int) _ (fG hx41 hb42))) hO ?_
  intro H hO
  obtain ⟨x43, hx44, h0⟩ := aW h0
  refine eA [(42, true)] 45 [(aF x40)] (aL x43) (((((decide (x7.2 = (0 : Int))) && (decide (x16.2 = (0 : Int)))) && x22) && x31) && x37) (by kernel_rfl) (by kernel_rfl) (by kernel_rfl) (fun hb45 => (CJ x40 _ (fG hx44 hb45))) hO ?_
  intro H hO
  refine bD ?_
  refine bH [(0, (aL ((((((decide (x7.2 = (0 : Int))) && (decide (x16.2 = (0 : Int)))) && x22) && x31) && x37) && (!x43))))] ?_
  refine bL ?_
  obtain rfl := oI h0
  exact aK (Q_r hO)

end Go.Abs
namespace Go.Abs
open Go Go.RowKit Go.Proofs
theorem BS (x0 : Int) (y1 : Int) (r : Bool) (h0 : oD x0 y1 = some r) : bS Try.prog 79 [(eI x0), (eI y1)] (aL r) := by
  intro H0
  refine cG Try.func79 ?_
  have hO := aO.start H0
  unfold oD at h0
  refine aZ aH 1 [] [] ?_
  refine aR ?_
  refine aT aH 13 ?_
  refine bK 1 ?_
  obtain ⟨x1, hx2, h0⟩ := aW h0
  refine cM (rY x0 _ hx2) hO ?_
  intro H hO
  refine bK 4 ?_
  obtain ⟨x4, hx5, h0⟩ := aW h0
  refine eA [(7, true)] 104 [(eI y1)] (aL x4) x1 (by kernel_rfl) (by kernel_rfl) (by kernel_rfl) (fun hb6 => (rY y1 _ (fG hx5 hb6))) hO ?_
  intro H hO
  refine bD ?_
  refine bH [(4, (aL ((x1 && (!x4)) || (decide (x0 < y1)))))] ?_
  refine bL ?_
  obtain rfl := oI h0
  exact aK (Q_r hO)

theorem NZ (l0 : (List aG)) (t1 : Int) (r : (List aG)) (h0 : sZ l0 t1 = some r) : bS Try.prog 37 [(eL aF l0), (eI t1)] (eL aF r) := by
  intro H0
  refine cG Try.func37 ?_
  have hO := aO.start H0
  unfold sZ at h0
  refine aZ aH 1 [] [] ?_
  refine aR ?_
  refine aT aH 2 ?_
  refine qL (xs := []) (k := 3) (by kernel_rfl) (by kernel_rfl) ?_
  refine bD ?_
  refine bR [] [(5, (.sl true 0 (fun _ => .bad)))] ?_
  refine cT (fun T H => ∃ out5 : List aG, ∃ lo1 : Nat, Has T [(5, (.msl 3 lo1 0 (List.length out5)))] ∧ aO ⟨H0, [], []⟩ H [(lo1, 3, List.map aF out5)] ∧ rG out5 = some r) ?_ ?_
  · clear hO h0
    rintro T H ⟨out5, lo1, hT, hO, h0⟩
    refine bB hT ?_
    clear hT
    unfold rG at h0
    refine bW aH 2 [(4, (.msl 3 lo1 0 (List.length out5)))] ?_
    refine bL ?_
    refine dF [(4, (.msl 3 lo1 0 (List.length out5)))] ?_
    refine tC (en := aF) out5 0 0 4 3 lo1 (List.length out5) hO (by kernel_rfl) (by kernel_rfl) (by kernel_rfl) (L' := []) (by kernel_rfl) ?_
    intro H2 hO
    obtain rfl := oI h0
    exact aK (Q_r hO)
  refine aZ aH 3 [0] [(9, (eL aF l0)), (10, (eI (lN l0))), (11, (eI (0 : Int)))] ?_
  refine bQ 0 ?_
  refine cO [(1, (eI t1)), (5, (.sl true 0 (fun _ => .bad))), (9, (eL aF l0)), (10, (eI (lN l0))), (11, (eI (0 : Int)))] ?_
  refine BJ (el := (fun _ => .bad)) 1 5 3 hO (by kernel_rfl) ?_
  intro lo18 H19 hO
  refine cK (fun T H => ∃ out5 : List aG, ∃ t9 : (List aG), ∃ t10 : Int, ∃ t11 : Int, ∃ lo4 : Nat, Has T [(1, (eI t1)), (5, (.msl 3 lo4 0 (List.length out5))), (9, (eL aF t9)), (10, (eI t10)), (11, (eI t11))] ∧ aO ⟨H0, [], []⟩ H [(lo4, 3, List.map aF out5)] ∧ uV t1 out5 t9 t10 t11 = some r) ?_ ⟨([] : List aG), l0, (lN l0), (0 : Int), lo18, .eq (by kernel_rfl), hO, h0⟩
  clear hO h0
  rintro T H ⟨out5, t9, t10, t11, lo4, hT, hO, h0⟩
  refine bB hT ?_
  clear hT
  unfold uV at h0
  obtain ⟨rr0, hl0, h0⟩ := aW h0
  refine cA (by kernel_rfl) (fun (s : List aG × Int) T H => ∃ lo4 : Nat, Has T [(1, (eI t1)), (5, (.msl 3 lo4 0 (List.length s.1))), (9, (eL aF t9)), (10, (eI t10)), (11, (eI s.2))] ∧ aO ⟨H0, [], []⟩ H [(lo4, 3, List.map aF s.1)]) hl0 ⟨lo4, .eq (by kernel_rfl), hO⟩ ?_
  clear hO
  rintro k0 s out1 T H ⟨lo4, hT, hO⟩ h1 ho0
  obtain ⟨out5, t11⟩ := s
  replace h1 : mC t1 t9 t10 out5 t11 = some out1 := h1
  try dsimp only at hT
  refine bB hT ?_
  clear hT
  unfold mC at h1
  refine aZ aH 1 [] [(12, (aL (decide (t11 < t10))))] ?_
  refine aR ?_
  refine bM h1 (fun h1 => ?_) (fun h1 => ?_)
  · refine bN ?_
    refine bH [(1, (eI t1)), (5, (.msl 3 lo4 0 (List.length out5))), (9, (eL aF t9)), (10, (eI t10)), (11, (eI t11))] ?_
    refine cT (fun T H => ∃ out5 : List aG, ∃ lo6 : Nat, Has T [(1, (eI t1)), (5, (.msl 3 lo6 0 (List.length out5))), (9, (eL aF t9)), (10, (eI t10)), (11, (eI t11))] ∧ aO ⟨H0, [], []⟩ H [(lo6, 3, List.map aF out5)] ∧ oY t1 out5 t9 t10 t11 = some out1) ?_ ?_
    · clear hO h1
      rintro T H ⟨out5, lo6, hT, hO, h1⟩
      refine bB hT ?_
      clear hT
      unfold oY at h1
      refine aT aH 2 ?_
      refine bD ?_
      exact aK (aI (⟨rfl, _, (oI h1).symm, _, .eq (by kernel_rfl), hO⟩))
    refine bQ 1 ?_
    refine aR ?_
    refine aT aH 4 ?_
    obtain ⟨c7, h1⟩ := bJ h1
    refine pS 2 [0 ≤ t11 ∧ t11 < (lN t9)] ⟨c7, trivial⟩ ?_
    refine oK 3 (.agg [(.sl true 0 (fun _ => .bad)), (eI 0), (eI 0)]) (aF (aG.mk ([]) (aQ.mk 0 0))) (by kernel_rfl) (by kernel_rfl) (by kernel_rfl) (zN (xs := [(.sl true 0 (fun _ => .bad)), (eI 0), (eI 0)]) (ys := [(eL aM ([])), (eI 0), (eI 0)]) ⟨fM, aX.refl _, aX.refl _, trivial⟩) (by kernel_rfl) (by kernel_rfl) hO ?_
    intro lo8 H hO
    refine gM 1 lo8 3 0 (aF (aG.mk ([]) (aQ.mk 0 0))) (aF (gD t9 t11)) [(aF (aG.mk ([]) (aQ.mk 0 0)))] [(lo4, 3, List.map aF out5), (lo8, 3, [(aF (gD t9 t11))])] hO rfl (by kernel_rfl) ?_
    intro H hO
    refine cF ?_
    refine bR [] [(7, (.lp lo8 0 0))] ?_
    refine aR ?_
    refine aT aH 5 ?_
    refine bK 2 ?_
    refine jB 1 lo8 3 0 (aF (gD t9 t11)) (eI (((gD t9 t11).Span).From)) [(aF (gD t9 t11))] hO rfl ?_
    refine bK 4 ?_
    obtain ⟨x9, hx10, h1⟩ := aW h1
    refine cM (BS (((gD t9 t11).Span).From) t1 _ hx10) hO ?_
    intro H hO
    refine cF ?_
    refine bR [] [(19, (aL x9))] ?_
    refine bM h1 (fun h1 => ?_) (fun h1 => ?_)
    · refine cO [(1, (eI t1)), (5, (.msl 3 lo4 0 (List.length out5))), (7, (.lp lo8 0 0)), (9, (eL aF t9)), (10, (eI t10)), (11, (eI t11)), (19, (aL x9))] ?_
      refine vT 2 1 7 3 lo8 (aF (gD t9 t11)) [(lo4, 3, List.map aF out5)] hO (by kernel_rfl) (by kernel_rfl) (by kernel_rfl) ?_
      intro H hO
      refine iV (iU [22, 23, 26, 29, 34]) aH 17 ?_
      refine nM 3 ?_
      obtain ⟨x13, hx14, h1⟩ := aW h1
      refine vN (wA ((gD t9 t11).Row) _ hx14) hO ?_
      intro H hO
      refine nM 14 ?_
      refine xM (xs := [(aF (aG.mk x13 (aQ.mk (((gD t9 t11).Span).From) (if t1 < (((gD t9 t11).Span).To) then t1 else (((gD t9 t11).Span).To)))))]) (k := 3) (by kernel_rfl) (by kernel_rfl) ?_
      obtain ⟨c17, h1⟩ := bJ h1
      refine xB (e := aF) out5 ([aG.mk x13 (aQ.mk (((gD t9 t11).Span).From) (if t1 < (((gD t9 t11).Span).To) then t1 else (((gD t9 t11).Span).To)))]) 0 lo4 3 40 (dO [(aF (aG.mk x13 (aQ.mk (((gD t9 t11).Span).From) (if t1 < (((gD t9 t11).Span).To) then t1 else (((gD t9 t11).Span).To)))))]) (fun lo16 => [(lo16, 3, List.map aF (out5 ++ ([aG.mk x13 (aQ.mk (((gD t9 t11).Span).From) (if t1 < (((gD t9 t11).Span).To) then t1 else (((gD t9 t11).Span).To)))])))]) (by kernel_rfl) (by kernel_rfl) hO (by kernel_rfl) (by kernel_rfl) c17 (fun _ => by kernel_rfl) ?_
      intro lo16 H hO
      refine nL ?_
      exact aK (aV (aI (⟨rfl, _, _, .eq (by kernel_rfl), hO, h1⟩)))
    refine bN ?_
    replace hO := hO.pick (L' := [(lo4, 3, List.map aF out5)]) [0] (by decide) (by kernel_rfl)
    exact aK (aV (aI (⟨rfl, _, _, .eq (by kernel_rfl), hO, h1⟩)))
  refine dS 0 ?_
  obtain rfl := oI h1
  obtain rfl : _ = rr0 := ho0
  replace h0 : rG out5 = some r := h0
  exact aK (aY (aY (bO (aI (⟨rfl, _, _, .eq (by kernel_rfl), hO, h0⟩)))))

theorem LV (l0 : (List aG)) (t1 : Int) (r : (List aG)) (h0 : qU l0 t1 = some r) : bS Try.prog 38 [(eL aF l0), (eI t1)] (eL aF r) := by
  intro H0
  refine cG Try.func38 ?_
  have hO := aO.start H0
  unfold qU at h0
  refine aZ aH 1 [] [] ?_
  refine aR ?_
  refine aT aH 2 ?_
  refine qL (xs := []) (k := 3) (by kernel_rfl) (by kernel_rfl) ?_
  refine bD ?_
  refine bR [] [(5, (.sl true 0 (fun _ => .bad)))] ?_
  refine cT (fun T H => ∃ out5 : List aG, ∃ lo1 : Nat, Has T [(5, (.msl 3 lo1 0 (List.length out5)))] ∧ aO ⟨H0, [], []⟩ H [(lo1, 3, List.map aF out5)] ∧ qD out5 = some r) ?_ ?_
  · clear hO h0
    rintro T H ⟨out5, lo1, hT, hO, h0⟩
    refine bB hT ?_
    clear hT
    unfold qD at h0
    refine bW aH 2 [(4, (.msl 3 lo1 0 (List.length out5)))] ?_
    refine bL ?_
    refine dF [(4, (.msl 3 lo1 0 (List.length out5)))] ?_
    refine tC (en := aF) out5 0 0 4 3 lo1 (List.length out5) hO (by kernel_rfl) (by kernel_rfl) (by kernel_rfl) (L' := []) (by kernel_rfl) ?_
    intro H2 hO
    obtain rfl := oI h0
    exact aK (Q_r hO)
  refine aZ aH 1 [] [(6, (eI (0 : Int)))] ?_
  refine bQ 0 ?_
  refine cO [(0, (eL aF l0)), (1, (eI t1)), (5, (.sl true 0 (fun _ => .bad))), (6, (eI (0 : Int)))] ?_
  refine BJ (el := (fun _ => .bad)) 2 5 3 hO (by kernel_rfl) ?_
  intro lo21 H22 hO
  refine cK (fun T H => ∃ out5 : List aG, ∃ i6 : Int, ∃ lo4 : Nat, Has T [(0, (eL aF l0)), (1, (eI t1)), (5, (.msl 3 lo4 0 (List.length out5))), (6, (eI i6))] ∧ aO ⟨H0, [], []⟩ H [(lo4, 3, List.map aF out5)] ∧ tL l0 t1 out5 i6 = some r) ?_ ⟨([] : List aG), (0 : Int), lo21, .eq (by kernel_rfl), hO, h0⟩
  clear hO h0
  rintro T H ⟨out5, i6, lo4, hT, hO, h0⟩
  refine bB hT ?_
  clear hT
  unfold tL at h0
  obtain ⟨rr0, hl0, h0⟩ := aW h0
  refine cA (by kernel_rfl) (fun (s : List aG × Int) T H => ∃ lo4 : Nat, Has T [(0, (eL aF l0)), (1, (eI t1)), (5, (.msl 3 lo4 0 (List.length s.1))), (6, (eI s.2))] ∧ aO ⟨H0, [], []⟩ H [(lo4, 3, List.map aF s.1)]) hl0 ⟨lo4, .eq (by kernel_rfl), hO⟩ ?_
  clear hO
  rintro k0 s out1 T H ⟨lo4, hT, hO⟩ h1 ho0
  obtain ⟨out5, i6⟩ := s
  replace h1 : lF l0 t1 out5 i6 = some out1 := h1
  try dsimp only at hT
  refine bB hT ?_
  clear hT
  unfold lF at h1
  refine aR ?_
  refine aZ aH 4 [] [(12, (aL (decide (i6 < (lN l0)))))] ?_
  refine bM h1 (fun h1 => ?_) (fun h1 => ?_)
  · refine bN ?_
    refine bH [(0, (eL aF l0)), (1, (eI t1)), (5, (.msl 3 lo4 0 (List.length out5))), (6, (eI i6))] ?_
    refine cT (fun T H => ∃ out5 : List aG, ∃ lo6 : Nat, Has T [(0, (eL aF l0)), (1, (eI t1)), (5, (.msl 3 lo6 0 (List.length out5))), (6, (eI i6))] ∧ aO ⟨H0, [], []⟩ H [(lo6, 3, List.map aF out5)] ∧ oE l0 t1 out5 i6 = some out1) ?_ ?_
    · clear hO h1
      rintro T H ⟨out5, lo6, hT, hO, h1⟩
      refine bB hT ?_
      clear hT
      unfold oE at h1
      refine aT aH 3 ?_
      refine bD ?_
      exact aK (aI (⟨rfl, _, (oI h1).symm, _, .eq (by kernel_rfl), hO⟩))
    refine bQ 1 ?_
    refine aR ?_
    refine aT aH 7 ?_
    obtain ⟨c7, h1⟩ := bJ h1
    refine pS 5 [0 ≤ i6 ∧ i6 < (lN l0)] ⟨c7, trivial⟩ ?_
    refine kZ 2 (bA (aQ.mk 0 0)) (by kernel_rfl) (by kernel_rfl) hO ?_
    intro lo8 H hO
    refine gM 1 lo8 2 0 (bA (aQ.mk 0 0)) (bA ((gD l0 i6).Span)) [(bA (aQ.mk 0 0))] [(lo4, 3, List.map aF out5), (lo8, 2, [(bA ((gD l0 i6).Span))])] hO rfl (by kernel_rfl) ?_
    intro H hO
    refine cF ?_
    refine bR [] [(7, (.lp lo8 0 0))] ?_
    refine cT (fun T H => ∃ out5 : List aG, ∃ s7 : aQ, ∃ lo9 : Nat, Has T [(0, (eL aF l0)), (1, (eI t1)), (5, (.msl 3 lo9 0 (List.length out5))), (6, (eI i6)), (7, (.lp lo8 0 0))] ∧ aO ⟨H0, [], []⟩ H [(lo9, 3, List.map aF out5), (lo8, 2, [(bA s7)])] ∧ nZ l0 t1 out5 i6 s7 = some out1) ?_ ?_
    · clear hO h1
      rintro T H ⟨out5, s7, lo9, hT, hO, h1⟩
      refine bB hT ?_
      clear hT
      unfold nZ at h1
      refine aR ?_
      refine aT aH 8 ?_
      obtain ⟨c10, h1⟩ := bJ h1
      refine wB [0 ≤ i6 ∧ i6 < (lN l0)] ⟨c10, trivial⟩ ?_
      refine bR [] [(33, (aL (decide ((((gD l0 i6).Span).From) < t1))))] ?_
      refine bM h1 (fun h1 => ?_) (fun h1 => ?_)
      · refine cO [(0, (eL aF l0)), (1, (eI t1)), (5, (.msl 3 lo9 0 (List.length out5))), (6, (eI i6)), (7, (.lp lo8 0 0)), (33, (aL (decide ((((gD l0 i6).Span).From) < t1))))] ?_
        refine vT 4 1 7 2 lo8 (bA s7) [(lo9, 3, List.map aF out5)] hO (by kernel_rfl) (by kernel_rfl) (by kernel_rfl) ?_
        intro H hO
        refine iV (iU [40, 42, 44]) aH 13 ?_
        refine nM 1 ?_
        refine xM (xs := []) (k := 3) (by kernel_rfl) (by kernel_rfl) ?_
        obtain ⟨c15, h1⟩ := bJ h1
        refine dG 7 [0 ≤ i6 ∧ i6 < (lN l0)] ⟨c15, trivial⟩ ?_
        obtain ⟨c17, h1⟩ := bJ h1
        refine RO (e := aM) ((gD l0 i6).Row) (fun _ => .bad) 3 32 (eL aM ((gD l0 i6).Row)) (by kernel_rfl) (by kernel_rfl) hO (BM (fun _ => by kernel_rfl)) c17 ?_
        intro H hO
        refine nM 10 ?_
        refine xM (xs := [(aF (aG.mk ((gD l0 i6).Row) s7))]) (k := 3) (by kernel_rfl) (by kernel_rfl) ?_
        obtain ⟨c19, h1⟩ := bJ h1
        refine xB (e := aF) out5 ([aG.mk ((gD l0 i6).Row) s7]) 0 lo9 3 40 (dO [(aF (aG.mk ((gD l0 i6).Row) s7))]) (fun lo18 => [(lo18, 3, List.map aF (out5 ++ ([aG.mk ((gD l0 i6).Row) s7])))]) (by kernel_rfl) (by kernel_rfl) hO (by kernel_rfl) (by kernel_rfl) c19 (fun _ => by kernel_rfl) ?_
        intro lo18 H hO
        refine nL ?_
        exact aK (aV (aI (⟨rfl, _, _, .eq (by kernel_rfl), hO, h1⟩)))
      refine bN ?_
      replace hO := hO.pick (L' := [(lo9, 3, List.map aF out5)]) [0] (by decide) (by kernel_rfl)
      exact aK (aV (aI (⟨rfl, _, _, .eq (by kernel_rfl), hO, h1⟩)))
    refine aR ?_
    refine aT aH 4 ?_
    refine bK 1 ?_
    refine jB 1 lo8 2 0 (bA ((gD l0 i6).Span)) (eI (((gD l0 i6).Span).To)) [(bA ((gD l0 i6).Span))] hO rfl ?_
    refine bD ?_
    refine bR [] [(23, (aL (decide (t1 < (((gD l0 i6).Span).To)))))] ?_
    refine bM h1 (fun h1 => ?_) (fun h1 => ?_)
    · refine aT aH 3 ?_
      refine bK 2 ?_
      refine gM 1 lo8 2 0 (bA ((gD l0 i6).Span)) (bA (aQ.mk ((gD l0 i6).Span).From t1)) [(bA ((gD l0 i6).Span))] [(lo4, 3, List.map aF out5), (lo8, 2, [(bA (aQ.mk ((gD l0 i6).Span).From t1))])] hO rfl (by kernel_rfl) ?_
      intro H hO
      refine cF ?_
      exact aK (aI (⟨rfl, _, _, _, .eq (by kernel_rfl), hO, h1⟩))
    refine bN ?_
    exact aK (aI (⟨rfl, _, _, _, .eq (by kernel_rfl), hO, h1⟩))
  refine dS 0 ?_
  obtain rfl := oI h1
  obtain rfl : _ = rr0 := ho0
  replace h0 : qD out5 = some r := h0
  exact aK (aY (aY (bO (aI (⟨rfl, _, _, .eq (by kernel_rfl), hO, h0⟩)))))

theorem QD (l0 : (List aG)) (t1 : Int) (r : (List aG)) (h0 : uF l0 t1 = some r) : bS Try.prog 39 [(eL aF l0), (eI t1)] (eL aF r) := by
  intro H0
  refine cG Try.func39 ?_
  have hO := aO.start H0
  unfold uF at h0
  refine aZ aH 1 [] [] ?_
  refine aR ?_
  refine aT aH 2 ?_
  refine qL (xs := []) (k := 3) (by kernel_rfl) (by kernel_rfl) ?_
  refine bD ?_
  refine bR [] [(5, (.sl true 0 (fun _ => .bad)))] ?_
  refine cT (fun T H => ∃ out5 : List aG, ∃ lo1 : Nat, Has T [(5, (.msl 3 lo1 0 (List.length out5)))] ∧ aO ⟨H0, [], []⟩ H [(lo1, 3, List.map aF out5)] ∧ sC out5 = some r) ?_ ?_
  · clear hO h0
    rintro T H ⟨out5, lo1, hT, hO, h0⟩
    refine bB hT ?_
    clear hT
    unfold sC at h0
    refine bW aH 2 [(4, (.msl 3 lo1 0 (List.length out5)))] ?_
    refine bL ?_
    refine dF [(4, (.msl 3 lo1 0 (List.length out5)))] ?_
    refine tC (en := aF) out5 0 0 4 3 lo1 (List.length out5) hO (by kernel_rfl) (by kernel_rfl) (by kernel_rfl) (L' := []) (by kernel_rfl) ?_
    intro H2 hO
    obtain rfl := oI h0
    exact aK (Q_r hO)
  refine aZ aH 3 [0] [(9, (eL aF l0)), (10, (eI (lN l0))), (11, (eI (0 : Int)))] ?_
  refine bQ 0 ?_
  refine cO [(1, (eI t1)), (5, (.sl true 0 (fun _ => .bad))), (9, (eL aF l0)), (10, (eI (lN l0))), (11, (eI (0 : Int)))] ?_
  refine BJ (el := (fun _ => .bad)) 1 5 3 hO (by kernel_rfl) ?_
  intro lo18 H19 hO
  refine cK (fun T H => ∃ out5 : List aG, ∃ t9 : (List aG), ∃ t10 : Int, ∃ t11 : Int, ∃ lo4 : Nat, Has T [(1, (eI t1)), (5, (.msl 3 lo4 0 (List.length out5))), (9, (eL aF t9)), (10, (eI t10)), (11, (eI t11))] ∧ aO ⟨H0, [], []⟩ H [(lo4, 3, List.map aF out5)] ∧ wW t1 out5 t9 t10 t11 = some r) ?_ ⟨([] : List aG), l0, (lN l0), (0 : Int), lo18, .eq (by kernel_rfl), hO, h0⟩
  clear hO h0
  rintro T H ⟨out5, t9, t10, t11, lo4, hT, hO, h0⟩
  refine bB hT ?_
  clear hT
  unfold wW at h0
  obtain ⟨rr0, hl0, h0⟩ := aW h0
  refine cA (by kernel_rfl) (fun (s : List aG × Int) T H => ∃ lo4 : Nat, Has T [(1, (eI t1)), (5, (.msl 3 lo4 0 (List.length s.1))), (9, (eL aF t9)), (10, (eI t10)), (11, (eI s.2))] ∧ aO ⟨H0, [], []⟩ H [(lo4, 3, List.map aF s.1)]) hl0 ⟨lo4, .eq (by kernel_rfl), hO⟩ ?_
  clear hO
  rintro k0 s out1 T H ⟨lo4, hT, hO⟩ h1 ho0
  obtain ⟨out5, t11⟩ := s
  replace h1 : nE t1 t9 t10 out5 t11 = some out1 := h1
  try dsimp only at hT
  refine bB hT ?_
  clear hT
  unfold nE at h1
  refine aZ aH 1 [] [(12, (aL (decide (t11 < t10))))] ?_
  refine aR ?_
  refine bM h1 (fun h1 => ?_) (fun h1 => ?_)
  · refine bN ?_
    refine bH [(1, (eI t1)), (5, (.msl 3 lo4 0 (List.length out5))), (9, (eL aF t9)), (10, (eI t10)), (11, (eI t11))] ?_
    refine cT (fun T H => ∃ out5 : List aG, ∃ lo6 : Nat, Has T [(1, (eI t1)), (5, (.msl 3 lo6 0 (List.length out5))), (9, (eL aF t9)), (10, (eI t10)), (11, (eI t11))] ∧ aO ⟨H0, [], []⟩ H [(lo6, 3, List.map aF out5)] ∧ pW t1 out5 t9 t10 t11 = some out1) ?_ ?_
    · clear hO h1
      rintro T H ⟨out5, lo6, hT, hO, h1⟩
      refine bB hT ?_
      clear hT
      unfold pW at h1
      refine aT aH 2 ?_
      refine bD ?_
      exact aK (aI (⟨rfl, _, (oI h1).symm, _, .eq (by kernel_rfl), hO⟩))
    refine bQ 1 ?_
    refine aR ?_
    refine aT aH 4 ?_
    obtain ⟨c7, h1⟩ := bJ h1
    refine pS 2 [0 ≤ t11 ∧ t11 < (lN t9)] ⟨c7, trivial⟩ ?_
    refine oK 3 (.agg [(.sl true 0 (fun _ => .bad)), (eI 0), (eI 0)]) (aF (aG.mk ([]) (aQ.mk 0 0))) (by kernel_rfl) (by kernel_rfl) (by kernel_rfl) (zN (xs := [(.sl true 0 (fun _ => .bad)), (eI 0), (eI 0)]) (ys := [(eL aM ([])), (eI 0), (eI 0)]) ⟨fM, aX.refl _, aX.refl _, trivial⟩) (by kernel_rfl) (by kernel_rfl) hO ?_
    intro lo8 H hO
    refine gM 1 lo8 3 0 (aF (aG.mk ([]) (aQ.mk 0 0))) (aF (gD t9 t11)) [(aF (aG.mk ([]) (aQ.mk 0 0)))] [(lo4, 3, List.map aF out5), (lo8, 3, [(aF (gD t9 t11))])] hO rfl (by kernel_rfl) ?_
    intro H hO
    refine cF ?_
    refine bR [] [(7, (.lp lo8 0 0))] ?_
    refine aR ?_
    refine aT aH 5 ?_
    refine bK 3 ?_
    refine jB 1 lo8 3 0 (aF (gD t9 t11)) (eI (((gD t9 t11).Span).To)) [(aF (gD t9 t11))] hO rfl ?_
    obtain ⟨x9, hx10, h1⟩ := aW h1
    refine cM (BS t1 (((gD t9 t11).Span).To) _ hx10) hO ?_
    intro H hO
    refine cF ?_
    refine bR [] [(19, (aL x9))] ?_
    refine bM h1 (fun h1 => ?_) (fun h1 => ?_)
    · refine cO [(1, (eI t1)), (5, (.msl 3 lo4 0 (List.length out5))), (7, (.lp lo8 0 0)), (9, (eL aF t9)), (10, (eI t10)), (11, (eI t11)), (19, (aL x9))] ?_
      refine vT 2 1 7 3 lo8 (aF (gD t9 t11)) [(lo4, 3, List.map aF out5)] hO (by kernel_rfl) (by kernel_rfl) (by kernel_rfl) ?_
      intro H hO
      refine iV (iU [22, 23, 26, 31, 34]) aH 17 ?_
      refine nM 3 ?_
      obtain ⟨x13, hx14, h1⟩ := aW h1
      refine vN (wA ((gD t9 t11).Row) _ hx14) hO ?_
      intro H hO
      refine nM 14 ?_
      refine xM (xs := [(aF (aG.mk x13 (aQ.mk (if t1 > (((gD t9 t11).Span).From) then t1 else (((gD t9 t11).Span).From)) (((gD t9 t11).Span).To))))]) (k := 3) (by kernel_rfl) (by kernel_rfl) ?_
      obtain ⟨c17, h1⟩ := bJ h1
      refine xB (e := aF) out5 ([aG.mk x13 (aQ.mk (if t1 > (((gD t9 t11).Span).From) then t1 else (((gD t9 t11).Span).From)) (((gD t9 t11).Span).To))]) 0 lo4 3 40 (dO [(aF (aG.mk x13 (aQ.mk (if t1 > (((gD t9 t11).Span).From) then t1 else (((gD t9 t11).Span).From)) (((gD t9 t11).Span).To))))]) (fun lo16 => [(lo16, 3, List.map aF (out5 ++ ([aG.mk x13 (aQ.mk (if t1 > (((gD t9 t11).Span).From) then t1 else (((gD t9 t11).Span).From)) (((gD t9 t11).Span).To))])))]) (by kernel_rfl) (by kernel_rfl) hO (by kernel_rfl) (by kernel_rfl) c17 (fun _ => by kernel_rfl) ?_
      intro lo16 H hO
      refine nL ?_
      exact aK (aV (aI (⟨rfl, _, _, .eq (by kernel_rfl), hO, h1⟩)))
    refine bN ?_
    replace hO := hO.pick (L' := [(lo4, 3, List.map aF out5)]) [0] (by decide) (by kernel_rfl)
    exact aK (aV (aI (⟨rfl, _, _, .eq (by kernel_rfl), hO, h1⟩)))
  refine dS 0 ?_
  obtain rfl := oI h1
  obtain rfl : _ = rr0 := ho0
  replace h0 : sC out5 = some r := h0
  exact aK (aY (aY (bO (aI (⟨rfl, _, _, .eq (by kernel_rfl), hO, h0⟩)))))

theorem OA (l0 : (List aG)) (t1 : Int) (r : (List aG)) (h0 : sV l0 t1 = some r) : bS Try.prog 40 [(eL aF l0), (eI t1)] (eL aF r) := by
  intro H0
  refine cG Try.func40 ?_
  have hO := aO.start H0
  unfold sV at h0
  refine aZ aH 1 [] [] ?_
  refine aR ?_
  refine aT aH 2 ?_
  refine qL (xs := []) (k := 3) (by kernel_rfl) (by kernel_rfl) ?_
  refine bD ?_
  refine bR [] [(5, (.sl true 0 (fun _ => .bad)))] ?_
  refine cT (fun T H => ∃ out5 : List aG, ∃ lo1 : Nat, Has T [(5, (.msl 3 lo1 0 (List.length out5)))] ∧ aO ⟨H0, [], []⟩ H [(lo1, 3, List.map aF out5)] ∧ rH out5 = some r) ?_ ?_
  · clear hO h0
    rintro T H ⟨out5, lo1, hT, hO, h0⟩
    refine bB hT ?_
    clear hT
    unfold rH at h0
    refine bW aH 2 [(4, (.msl 3 lo1 0 (List.length out5)))] ?_
    refine bL ?_
    refine dF [(4, (.msl 3 lo1 0 (List.length out5)))] ?_
    refine tC (en := aF) out5 0 0 4 3 lo1 (List.length out5) hO (by kernel_rfl) (by kernel_rfl) (by kernel_rfl) (L' := []) (by kernel_rfl) ?_
    intro H2 hO
    obtain rfl := oI h0
    exact aK (Q_r hO)
  refine aZ aH 1 [] [(6, (eI (0 : Int)))] ?_
  refine bQ 0 ?_
  refine cO [(0, (eL aF l0)), (1, (eI t1)), (5, (.sl true 0 (fun _ => .bad))), (6, (eI (0 : Int)))] ?_
  refine BJ (el := (fun _ => .bad)) 2 5 3 hO (by kernel_rfl) ?_
  intro lo21 H22 hO
  refine cK (fun T H => ∃ out5 : List aG, ∃ i6 : Int, ∃ lo4 : Nat, Has T [(0, (eL aF l0)), (1, (eI t1)), (5, (.msl 3 lo4 0 (List.length out5))), (6, (eI i6))] ∧ aO ⟨H0, [], []⟩ H [(lo4, 3, List.map aF out5)] ∧ vG l0 t1 out5 i6 = some r) ?_ ⟨([] : List aG), (0 : Int), lo21, .eq (by kernel_rfl), hO, h0⟩
  clear hO h0
  rintro T H ⟨out5, i6, lo4, hT, hO, h0⟩
  refine bB hT ?_
  clear hT
  unfold vG at h0
  obtain ⟨rr0, hl0, h0⟩ := aW h0
  refine cA (by kernel_rfl) (fun (s : List aG × Int) T H => ∃ lo4 : Nat, Has T [(0, (eL aF l0)), (1, (eI t1)), (5, (.msl 3 lo4 0 (List.length s.1))), (6, (eI s.2))] ∧ aO ⟨H0, [], []⟩ H [(lo4, 3, List.map aF s.1)]) hl0 ⟨lo4, .eq (by kernel_rfl), hO⟩ ?_
  clear hO
  rintro k0 s out1 T H ⟨lo4, hT, hO⟩ h1 ho0
  obtain ⟨out5, i6⟩ := s
  replace h1 : mI l0 t1 out5 i6 = some out1 := h1
  try dsimp only at hT
  refine bB hT ?_
  clear hT
  unfold mI at h1
  refine aR ?_
  refine aZ aH 4 [] [(12, (aL (decide (i6 < (lN l0)))))] ?_
  refine bM h1 (fun h1 => ?_) (fun h1 => ?_)
  · refine bN ?_
    refine bH [(0, (eL aF l0)), (1, (eI t1)), (5, (.msl 3 lo4 0 (List.length out5))), (6, (eI i6))] ?_
    refine cT (fun T H => ∃ out5 : List aG, ∃ lo6 : Nat, Has T [(0, (eL aF l0)), (1, (eI t1)), (5, (.msl 3 lo6 0 (List.length out5))), (6, (eI i6))] ∧ aO ⟨H0, [], []⟩ H [(lo6, 3, List.map aF out5)] ∧ oZ l0 t1 out5 i6 = some out1) ?_ ?_
    · clear hO h1
      rintro T H ⟨out5, lo6, hT, hO, h1⟩
      refine bB hT ?_
      clear hT
      unfold oZ at h1
      refine aT aH 3 ?_
      refine bD ?_
      exact aK (aI (⟨rfl, _, (oI h1).symm, _, .eq (by kernel_rfl), hO⟩))
    refine bQ 1 ?_
    refine aR ?_
    refine aT aH 7 ?_
    obtain ⟨c7, h1⟩ := bJ h1
    refine pS 5 [0 ≤ i6 ∧ i6 < (lN l0)] ⟨c7, trivial⟩ ?_
    refine kZ 2 (bA (aQ.mk 0 0)) (by kernel_rfl) (by kernel_rfl) hO ?_
    intro lo8 H hO
    refine gM 1 lo8 2 0 (bA (aQ.mk 0 0)) (bA ((gD l0 i6).Span)) [(bA (aQ.mk 0 0))] [(lo4, 3, List.map aF out5), (lo8, 2, [(bA ((gD l0 i6).Span))])] hO rfl (by kernel_rfl) ?_
    intro H hO
    refine cF ?_
    refine bR [] [(7, (.lp lo8 0 0))] ?_
    refine cT (fun T H => ∃ out5 : List aG, ∃ s7 : aQ, ∃ lo9 : Nat, Has T [(0, (eL aF l0)), (1, (eI t1)), (5, (.msl 3 lo9 0 (List.length out5))), (6, (eI i6)), (7, (.lp lo8 0 0))] ∧ aO ⟨H0, [], []⟩ H [(lo9, 3, List.map aF out5), (lo8, 2, [(bA s7)])] ∧ oS l0 t1 out5 i6 s7 = some out1) ?_ ?_
    · clear hO h1
      rintro T H ⟨out5, s7, lo9, hT, hO, h1⟩
      refine bB hT ?_
      clear hT
      unfold oS at h1
      refine aR ?_
      refine aT aH 8 ?_
      obtain ⟨c10, h1⟩ := bJ h1
      refine wB [0 ≤ i6 ∧ i6 < (lN l0)] ⟨c10, trivial⟩ ?_
      refine bR [] [(33, (aL (decide (t1 < (((gD l0 i6).Span).To)))))] ?_
      refine bM h1 (fun h1 => ?_) (fun h1 => ?_)
      · refine cO [(0, (eL aF l0)), (1, (eI t1)), (5, (.msl 3 lo9 0 (List.length out5))), (6, (eI i6)), (7, (.lp lo8 0 0)), (33, (aL (decide (t1 < (((gD l0 i6).Span).To)))))] ?_
        refine vT 4 1 7 2 lo8 (bA s7) [(lo9, 3, List.map aF out5)] hO (by kernel_rfl) (by kernel_rfl) (by kernel_rfl) ?_
        intro H hO
        refine iV (iU [40, 42, 44]) aH 13 ?_
        refine nM 1 ?_
        refine xM (xs := []) (k := 3) (by kernel_rfl) (by kernel_rfl) ?_
        obtain ⟨c15, h1⟩ := bJ h1
        refine dG 7 [0 ≤ i6 ∧ i6 < (lN l0)] ⟨c15, trivial⟩ ?_
        obtain ⟨c17, h1⟩ := bJ h1
        refine RO (e := aM) ((gD l0 i6).Row) (fun _ => .bad) 3 32 (eL aM ((gD l0 i6).Row)) (by kernel_rfl) (by kernel_rfl) hO (BM (fun _ => by kernel_rfl)) c17 ?_
        intro H hO
        refine nM 10 ?_
        refine xM (xs := [(aF (aG.mk ((gD l0 i6).Row) s7))]) (k := 3) (by kernel_rfl) (by kernel_rfl) ?_
        obtain ⟨c19, h1⟩ := bJ h1
        refine xB (e := aF) out5 ([aG.mk ((gD l0 i6).Row) s7]) 0 lo9 3 40 (dO [(aF (aG.mk ((gD l0 i6).Row) s7))]) (fun lo18 => [(lo18, 3, List.map aF (out5 ++ ([aG.mk ((gD l0 i6).Row) s7])))]) (by kernel_rfl) (by kernel_rfl) hO (by kernel_rfl) (by kernel_rfl) c19 (fun _ => by kernel_rfl) ?_
        intro lo18 H hO
        refine nL ?_
        exact aK (aV (aI (⟨rfl, _, _, .eq (by kernel_rfl), hO, h1⟩)))
      refine bN ?_
      replace hO := hO.pick (L' := [(lo9, 3, List.map aF out5)]) [0] (by decide) (by kernel_rfl)
      exact aK (aV (aI (⟨rfl, _, _, .eq (by kernel_rfl), hO, h1⟩)))
    refine aR ?_
    refine aT aH 4 ?_
    refine bK 1 ?_
    refine jB 1 lo8 2 0 (bA ((gD l0 i6).Span)) (eI (((gD l0 i6).Span).From)) [(bA ((gD l0 i6).Span))] hO rfl ?_
    refine bD ?_
    refine bR [] [(23, (aL (decide ((((gD l0 i6).Span).From) < t1))))] ?_
    refine bM h1 (fun h1 => ?_) (fun h1 => ?_)
    · refine aT aH 3 ?_
      refine bK 2 ?_
      refine gM 1 lo8 2 0 (bA ((gD l0 i6).Span)) (bA (aQ.mk t1 ((gD l0 i6).Span).To)) [(bA ((gD l0 i6).Span))] [(lo4, 3, List.map aF out5), (lo8, 2, [(bA (aQ.mk t1 ((gD l0 i6).Span).To))])] hO rfl (by kernel_rfl) ?_
      intro H hO
      refine cF ?_
      exact aK (aI (⟨rfl, _, _, _, .eq (by kernel_rfl), hO, h1⟩))
    refine bN ?_
    exact aK (aI (⟨rfl, _, _, _, .eq (by kernel_rfl), hO, h1⟩))
  refine dS 0 ?_
  obtain rfl := oI h1
  obtain rfl : _ = rr0 := ho0
  replace h0 : rH out5 = some r := h0
  exact aK (aY (aY (bO (aI (⟨rfl, _, _, .eq (by kernel_rfl), hO, h0⟩)))))

theorem GS (l0 : (List aG)) (t1 : Int) (r : Bool) (h0 : qM l0 t1 = some r) : bS Try.prog 8 [(eL aF l0), (eI t1)] (aL r) := by
  intro H0
  refine cG Try.func8 ?_
  have hO := aO.start H0
  unfold qM at h0
  refine aZ aH 1 [] [] ?_
  refine aR ?_
  refine aT aH 25 ?_
  obtain ⟨x1, hx2, h0⟩ := aW h0
  refine cM (OM  _ hx2) hO ?_
  intro H hO
  refine bK 4 ?_
  obtain ⟨x4, hx5, h0⟩ := aW h0
  refine eA [(6, true)] 37 [(eL aF l0), (eI t1)] (eL aF x4) x1 (by kernel_rfl) (by kernel_rfl) (by kernel_rfl) (fun hb6 => (NZ l0 t1 _ (fG hx5 hb6))) hO ?_
  intro H hO
  refine bK 7 ?_
  obtain ⟨x7, hx8, h0⟩ := aW h0
  refine eA [(6, true)] 38 [(eL aF l0), (eI t1)] (eL aF x7) x1 (by kernel_rfl) (by kernel_rfl) (by kernel_rfl) (fun hb9 => (LV l0 t1 _ (fG hx8 hb9))) hO ?_
  intro H hO
  obtain ⟨x10, hx11, h0⟩ := aW h0
  refine eA [(6, true)] 12 [(eL aF x4), (eL aF x7)] (aL x10) x1 (by kernel_rfl) (by kernel_rfl) (by kernel_rfl) (fun hb12 => (AE x4 x7 _ (fG hx11 hb12))) hO ?_
  intro H hO
  refine bK 13 ?_
  obtain ⟨x13, hx14, h0⟩ := aW h0
  refine eA [(15, true)] 39 [(eL aF l0), (eI t1)] (eL aF x13) (x1 && x10) (by kernel_rfl) (by kernel_rfl) (by kernel_rfl) (fun hb15 => (QD l0 t1 _ (fG hx14 hb15))) hO ?_
  intro H hO
  refine bK 16 ?_
  obtain ⟨x16, hx17, h0⟩ := aW h0
  refine eA [(15, true)] 40 [(eL aF l0), (eI t1)] (eL aF x16) (x1 && x10) (by kernel_rfl) (by kernel_rfl) (by kernel_rfl) (fun hb18 => (OA l0 t1 _ (fG hx17 hb18))) hO ?_
  intro H hO
  obtain ⟨x19, hx20, h0⟩ := aW h0
  refine eA [(15, true)] 12 [(eL aF x13), (eL aF x16)] (aL x19) (x1 && x10) (by kernel_rfl) (by kernel_rfl) (by kernel_rfl) (fun hb21 => (AE x13 x16 _ (fG hx20 hb21))) hO ?_
  intro H hO
  refine bK 22 ?_
  obtain ⟨x22, hx23, h0⟩ := aW h0
  refine eA [(24, true)] 41 [(eL aF l0), (eL aF l0)] (aL x22) ((x1 && x10) && x19) (by kernel_rfl) (by kernel_rfl) (by kernel_rfl) (fun hb24 => (FV l0 l0 _ (fG hx23 hb24))) hO ?_
  intro H hO
  refine bD ?_
  refine bH [(4, (aL (((x1 && x10) && x19) && x22)))] ?_
  refine bL ?_
  obtain rfl := oI h0
  exact aK (Q_r hO)

end Go.Abs
namespace Go.Abs
open Go Go.RowKit Go.Proofs
theorem EY {H : Type} {enc : TypeId × Value → H} {w : World} : vH enc Try.prog w 79 aM zH :=
  zK Try.underlying79 (by kernel_rfl) (pR (c' := FQ) (ok' := zH) (fun (a : Int) (b : Int × ByteArray × Unit) => (aJ.mk a b.1 b.2.1 : aJ)) (by kernel_rfl) (AG Try.underlying77) (pR (c' := fun (b : Int × ByteArray × Unit) => (V.cells (vO .i64 b.1) ++ (V.cells (xE b.2.1) ++ []))) (ok' := fun b => (AU b.1 ∧ ((fun s => s.size ≤ maxLen) b.2.1 ∧ True))) (fun a b => (a, b)) (by kernel_rfl) (AG Try.underlying3) (pR (c' := fun (b : ByteArray × Unit) => (V.cells (xE b.1) ++ [])) (ok' := fun b => ((fun s => s.size ≤ maxLen) b.1 ∧ True)) (fun a b => (a, b)) (by kernel_rfl) (MS Try.underlying9) (CR ()) (fun _ _ => rfl) (fun _ _ h1 h2 => ⟨h1, h2⟩)) (fun _ _ => rfl) (fun _ _ h1 h2 => ⟨h1, h2⟩)) (fun _ _ => rfl) (fun _ _ h1 h2 => ⟨h1, h2⟩))

theorem FN {H : Type} {enc : TypeId × Value → H} {w : World} : vH enc Try.prog w 30 bA xF :=
  zK Try.underlying30 (by kernel_rfl) (pR (c' := DA) (ok' := xF) (fun (a : Int) (b : Int × Unit) => (aQ.mk a b.1 : aQ)) (by kernel_rfl) (AG Try.underlying3) (pR (c' := fun (b : Int × Unit) => (V.cells (vO .i64 b.1) ++ [])) (ok' := fun b => (AU b.1 ∧ True)) (fun a b => (a, b)) (by kernel_rfl) (AG Try.underlying3) (CR ()) (fun _ _ => rfl) (fun _ _ h1 h2 => ⟨h1, h2⟩)) (fun _ _ => rfl) (fun _ _ h1 h2 => ⟨h1, h2⟩))

theorem EU {H : Type} {enc : TypeId × Value → H} {w : World} : vH enc Try.prog w 32 aF sD :=
  zK Try.underlying32 (by kernel_rfl) (pR (c' := GB) (ok' := sD) (fun (a : (List aJ)) (b : aQ × Unit) => (aG.mk a b.1 : aG)) (by kernel_rfl) (QT Try.underlying28 (by decide +kernel) (fun _ => by kernel_rfl) (fun _ => rfl) EY (by kernel_rfl)) (pR (c' := fun (b : aQ × Unit) => (V.cells (bA b.1) ++ [])) (ok' := fun b => (xF b.1 ∧ True)) (fun a b => (a, b)) (by kernel_rfl) FN (CR ()) (fun _ _ => rfl) (fun _ _ h1 h2 => ⟨h1, h2⟩)) (fun _ _ => rfl) (fun _ _ h1 h2 => ⟨h1, h2⟩))

end Go.Abs
namespace Go.Abs
open Go
theorem iQ {n : Int} (h1 : -9223372036854775808 ≤ n) (h2 : n ≤ 9223372036854775807) : IntKind.i64.wrap n = n := by
  simp only [IntKind.wrap, IntKind.bits, IntKind.signed]
  simp
  split <;> omega

def uS {α st R : Type} (step : st → α → Option (st ⊕ R)) (fin : st → R) : st → List α → Option R
  | s, [] => some (fin s)
  | s, a :: r => match step s a with
    | some (.inl s') => uS step fin s' r
    | some (.inr x) => some x
    | none => none

theorem SZ {α st R : Type} {step : st → α → Option (st ⊕ R)} {fin : st → R} {s s' : st} {a : α} {r : List α} (h : step s a = some (.inl s')) : uS step fin s (a :: r) = uS step fin s' r := by
  simp only [uS, h]

theorem SK {α st R : Type} {step : st → α → Option (st ⊕ R)} {fin : st → R} {s : st} {x : R} {a : α} {r : List α} (h : step s a = some (.inr x)) : uS step fin s (a :: r) = some x := by
  simp only [uS, h]

theorem RZ {α S st R : Type} {body : S → Option (S ⊕ R)} {l : List α} (mk : st → Int → S) (step : st → α → Option (st ⊕ R)) (fin : st → R)
    (hn : ∀ (i : Nat) a s, l[i]? = some a → (∀ s', step s a = some (.inl s') → body (mk s i) = some (.inl (mk s' ((i + 1 : Nat) : Int)))) ∧ (∀ x, step s a = some (.inr x) → body (mk s i) = some (.inr x)))
    (he : ∀ s, body (mk s (l.length : Nat)) = some (.inr (fin s))) : ∀ (m k : Nat) (s : st) (r : R), l.length - k = m → k ≤ l.length → uS step fin s (l.drop k) = some r → lp body (mk s k) = some r
  | 0, k, s, r, hm, hk, h => by
    have : k = l.length := by omega
    subst this
    rw [List.drop_length] at h
    simp only [uS, Option.some.injEq] at h
    subst h
    exact cR (he s)
  | m + 1, k, s, r, hm, hk, h => by
    have hlt : k < l.length := by omega
    have hd : l.drop k = l[k] :: l.drop (k + 1) := List.drop_eq_getElem_cons hlt
    rw [hd] at h
    simp only [uS] at h
    obtain ⟨h1, h2⟩ := hn k l[k] s (List.getElem?_eq_getElem hlt)
    split at h
    · rename_i s' hs
      rw [eW (h1 s' hs)]
      exact RZ mk step fin hn he m (k + 1) s' r (by omega) (by omega) h
    · rename_i x hs
      simp at h; subst h
      exact cR (h2 x hs)
    · cases h

theorem WN {α S st R : Type} {body : S → Option (S ⊕ R)} {l : List α} (mk : st → Int → S) (step : st → α → Option (st ⊕ R)) (fin : st → R)
    (hn : ∀ (i : Nat) a s, l[i]? = some a → (∀ s', step s a = some (.inl s') → body (mk s i) = some (.inl (mk s' ((i + 1 : Nat) : Int)))) ∧ (∀ x, step s a = some (.inr x) → body (mk s i) = some (.inr x)))
    (he : ∀ s, body (mk s (l.length : Nat)) = some (.inr (fin s))) {s : st} {r : R} (h : uS step fin s l = some r) : lp body (mk s 0) = some r :=
  RZ mk step fin hn he _ 0 s r rfl (Nat.zero_le _) (by simpa using h)

theorem idx {α : Type} [Inhabited α] {l : List α} {i : Nat} {a : α} (h : l[i]? = some a) (hl : l.length < 4611686018427387904) :
    decide ((i : Int) < ((l.length : Nat) : Int)) = true ∧ (0 ≤ (i : Int) ∧ (i : Int) < ((l.length : Nat) : Int)) ∧ l.getD (Int.toNat (i : Int)) default = a ∧ IntKind.i64.wrap ((i : Int) + 1) = ((i + 1 : Nat) : Int) := by
  have hlt : i < l.length := (List.getElem?_eq_some_iff.1 h).1
  refine ⟨by simpa using hlt, ⟨by omega, by omega⟩, ?_, ?_⟩
  · rw [Int.toNat_natCast, List.getD_eq_getElem?_getD, h]; rfl
  · rw [iQ (by omega) (by omega)]; omega

theorem iP {n : Nat} : decide (((n : Nat) : Int) < ((n : Nat) : Int)) = false := by simp

theorem aAW {α : Type} {j : α} {r : List α} : (0 : Int) ≤ 0 ∧ (0 : Int) < ((List.length (j :: r) : Nat) : Int) := ⟨by omega, by simp⟩

theorem aAh {α : Type} [Inhabited α] {j : α} {r : List α} : List.getD (j :: r) (Int.toNat (0 : Int)) default = j := rfl

end Go.Abs
namespace Go.Abs
open Go
theorem drop_cons {α : Type} {l r : List α} {a : α} {k : Nat} (h : l.drop k = a :: r) : l[k]? = some a ∧ l.drop (k + 1) = r := by
  have hk : k < l.length := by
    apply Classical.byContradiction; intro hn
    rw [List.drop_eq_nil_of_le (by omega)] at h; cases h
  rw [List.drop_eq_getElem_cons hk] at h
  obtain ⟨h1, h2⟩ := List.cons.inj h
  exact ⟨by rw [List.getElem?_eq_getElem hk, h1], h2⟩

theorem UK {α S st R : Type} {body : S → Option (S ⊕ R)} {l : List α} (mk : st → Int → S) (G : st → List α → R) (Inv : st → List α → Prop)
    (hn : ∀ (i : Nat) a r s, l[i]? = some a → Inv s (a :: r) → (∃ s', body (mk s i) = some (.inl (mk s' ((i + 1 : Nat) : Int))) ∧ Inv s' r ∧ G s' r = G s (a :: r)) ∨ body (mk s i) = some (.inr (G s (a :: r))))
    (he : ∀ s, Inv s [] → body (mk s (l.length : Nat)) = some (.inr (G s []))) : ∀ (r : List α) (k : Nat) (s : st), l.drop k = r → k ≤ l.length → Inv s r → lp body (mk s k) = some (G s r)
  | [], k, s, hd, hk, hi => by
    have : k = l.length := by
      have := congrArg List.length hd
      simp only [List.length_drop, List.length_nil] at this; omega
    subst this
    exact cR (he s hi)
  | a :: r, k, s, hd, hk, hi => by
    obtain ⟨h1, h2⟩ := drop_cons hd
    have hlt : k < l.length := (List.getElem?_eq_some_iff.1 h1).1
    rcases hn k a r s h1 hi with ⟨s', hb, hi', hg⟩ | hb
    · rw [eW hb, UK mk G Inv hn he r (k + 1) s' h2 (by omega) hi', hg]
    · exact cR hb

theorem rN {α S st R : Type} {body : S → Option (S ⊕ R)} {l : List α} (mk : st → Int → S) (G : st → List α → R) (Inv : st → List α → Prop) (s : st)
    (hn : ∀ (i : Nat) a r s, l[i]? = some a → Inv s (a :: r) → (∃ s', body (mk s i) = some (.inl (mk s' ((i + 1 : Nat) : Int))) ∧ Inv s' r ∧ G s' r = G s (a :: r)) ∨ body (mk s i) = some (.inr (G s (a :: r))))
    (he : ∀ s, Inv s [] → body (mk s (l.length : Nat)) = some (.inr (G s []))) (hi : Inv s l) : lp body (mk s 0) = some (G s l) :=
  UK mk G Inv hn he l 0 s rfl (Nat.zero_le _) hi

end Go.Abs
namespace Go.Abs
open Go
noncomputable def xY {α : Type} [Inhabited α] (cmp3 : α → α → Option Int) (aA : List α) (a1 : Int) (b2 : Int) (i8 : Int) : Option ((List α × Int) ⊕ ((List α))) :=
  some (.inl (aA, IntKind.i64.wrap (i8 + (1 : Int))))

noncomputable def lE {α : Type} [Inhabited α] (cmp3 : α → α → Option Int) (a1 : Int) (b2 : Int) (i8 : Int) (aA : List α) (j9 : Int) : Option ((List α × Int) ⊕ ((List α))) :=
  bI ((((decide (a1 < j9))) = true → 0 ≤ j9 ∧ j9 < ((List.length aA : Nat) : Int))) <|
  bI ((((decide (a1 < j9))) = true → 0 ≤ (IntKind.i64.wrap (j9 - (1 : Int))) ∧ (IntKind.i64.wrap (j9 - (1 : Int))) < ((List.length aA : Nat) : Int))) <|
  (cL (decide (a1 < j9)) (cmp3 (List.getD aA (Int.toNat j9) default) (List.getD aA (Int.toNat (IntKind.i64.wrap (j9 - (1 : Int)))) default))).bind fun x3 =>
  cond ((decide (a1 < j9)) && (decide (x3 < (0 : Int))))
  (bI (0 ≤ (IntKind.i64.wrap (j9 - (1 : Int))) ∧ (IntKind.i64.wrap (j9 - (1 : Int))) < ((List.length aA : Nat) : Int)) <|
  bI (0 ≤ j9 ∧ j9 < ((List.length aA : Nat) : Int)) <|
  bI (0 ≤ j9 ∧ j9 < ((List.length aA : Nat) : Int)) <|
  bI (0 ≤ (IntKind.i64.wrap (j9 - (1 : Int))) ∧ (IntKind.i64.wrap (j9 - (1 : Int))) < ((List.length aA : Nat) : Int)) <|
  some (.inl (List.set (List.set aA (Int.toNat j9) (List.getD aA (Int.toNat (IntKind.i64.wrap (j9 - (1 : Int)))) default)) (Int.toNat (IntKind.i64.wrap (j9 - (1 : Int)))) (List.getD aA (Int.toNat j9) default), IntKind.i64.wrap (j9 - (1 : Int)))))
  (some (.inr aA))

noncomputable def xZ {α : Type} [Inhabited α] (cmp3 : α → α → Option Int) (aA : List α) (a1 : Int) (b2 : Int) (i8 : Int) (j9 : Int) : Option ((List α × Int) ⊕ ((List α))) :=
  (lp (fun s => lE cmp3 a1 b2 i8 s.1 s.2) (aA, j9)).bind (fun rr => xY cmp3 rr a1 b2 i8)

noncomputable def jA {α : Type} [Inhabited α] (cmp3 : α → α → Option Int) (a1 : Int) (b2 : Int) (aA : List α) (i8 : Int) : Option ((List α × Int) ⊕ ((List α))) :=
  cond (decide (i8 < b2))
  (xZ cmp3 aA a1 b2 i8 i8)
  (some (.inr aA))

noncomputable def yA {α : Type} [Inhabited α] (cmp3 : α → α → Option Int) (aA : List α) (a1 : Int) (b2 : Int) (i8 : Int) : Option (List α) :=
  (lp (fun s => jA cmp3 a1 b2 s.1 s.2) (aA, i8)).bind (fun rr => some rr)

noncomputable def mP {α : Type} [Inhabited α] (aA : (List α)) (a1 : Int) (b2 : Int) (cmp3 : α → α → Option Int) : Option (List α) :=
  yA cmp3 aA a1 b2 (IntKind.i64.wrap (a1 + (1 : Int)))

noncomputable def oG {α : Type} [Inhabited α] (cmp4 : α → α → Option Int) (a1 : Int) (b2 : Int) (n3 : Int) (aA : List α) (i10 : Int) : Option ((List α × Int) ⊕ ((List α))) :=
  cond (decide (i10 < n3))
  (bI (0 ≤ (IntKind.i64.wrap (b2 + i10)) ∧ (IntKind.i64.wrap (b2 + i10)) < ((List.length aA : Nat) : Int)) <|
  bI (0 ≤ (IntKind.i64.wrap (a1 + i10)) ∧ (IntKind.i64.wrap (a1 + i10)) < ((List.length aA : Nat) : Int)) <|
  bI (0 ≤ (IntKind.i64.wrap (a1 + i10)) ∧ (IntKind.i64.wrap (a1 + i10)) < ((List.length aA : Nat) : Int)) <|
  bI (0 ≤ (IntKind.i64.wrap (b2 + i10)) ∧ (IntKind.i64.wrap (b2 + i10)) < ((List.length aA : Nat) : Int)) <|
  some (.inl (List.set (List.set aA (Int.toNat (IntKind.i64.wrap (a1 + i10))) (List.getD aA (Int.toNat (IntKind.i64.wrap (b2 + i10))) default)) (Int.toNat (IntKind.i64.wrap (b2 + i10))) (List.getD aA (Int.toNat (IntKind.i64.wrap (a1 + i10))) default), IntKind.i64.wrap (i10 + (1 : Int)))))
  (some (.inr aA))

noncomputable def BG {α : Type} [Inhabited α] (cmp4 : α → α → Option Int) (aA : List α) (a1 : Int) (b2 : Int) (n3 : Int) (i10 : Int) : Option (List α) :=
  (lp (fun s => oG cmp4 a1 b2 n3 s.1 s.2) (aA, i10)).bind (fun rr => some rr)

noncomputable def sO {α : Type} [Inhabited α] (aA : (List α)) (a1 : Int) (b2 : Int) (n3 : Int) (cmp4 : α → α → Option Int) : Option (List α) :=
  BG cmp4 aA a1 b2 n3 (0 : Int)

noncomputable def BC {α : Type} [Inhabited α] (cmp4 : α → α → Option Int) (aA : List α) (m2 : Int) (i10 : Int) : Option (List α) :=
  (sO aA (IntKind.i64.wrap (m2 - i10)) m2 i10 cmp4).bind fun x1 =>
  some x1

noncomputable def lS {α : Type} [Inhabited α] (cmp4 : α → α → Option Int) (m2 : Int) (aA : List α) (i10 : Int) (j11 : Int) : Option ((List α × Int × Int) ⊕ ((List α × Int))) :=
  cond (!decide (i10 = j11))
  (cond (decide (j11 < i10))
  ((sO aA (IntKind.i64.wrap (m2 - i10)) m2 j11 cmp4).bind fun x4 =>
  some (.inl (x4, IntKind.i64.wrap (i10 - j11), j11)))
  ((sO aA (IntKind.i64.wrap (m2 - i10)) (IntKind.i64.wrap ((IntKind.i64.wrap (m2 + j11)) - i10)) i10 cmp4).bind fun x7 =>
  some (.inl (x7, i10, IntKind.i64.wrap (j11 - i10)))))
  (some (.inr (aA, i10)))

noncomputable def FU {α : Type} [Inhabited α] (cmp4 : α → α → Option Int) (aA : List α) (m2 : Int) (i10 : Int) (j11 : Int) : Option (List α) :=
  (lp (fun s => lS cmp4 m2 s.1 s.2.1 s.2.2) (aA, i10, j11)).bind (fun rr => BC cmp4 rr.1 m2 rr.2)

noncomputable def AL {α : Type} [Inhabited α] (aA : (List α)) (a1 : Int) (m2 : Int) (b3 : Int) (cmp4 : α → α → Option Int) : Option (List α) :=
  FU cmp4 aA m2 (IntKind.i64.wrap (m2 - a1)) (IntKind.i64.wrap (b3 - m2))

noncomputable def yJ {α : Type} [Inhabited α] (cmp4 : α → α → Option Int) (rec : (List α) → Int → Int → Int → Option (List α)) (aA : List α) (b3 : Int) (bP : Int) (dR : Int) : Option (List α) :=
  cond ((decide (bP < dR)) && (decide (dR < b3)))
  ((rec aA bP dR b3).bind fun x2 =>
  some x2)
  (some aA)

noncomputable def oU {α : Type} [Inhabited α] (cmp4 : α → α → Option Int) (rec : (List α) → Int → Int → Int → Option (List α)) (aA : List α) (a1 : Int) (b3 : Int) (bP : Int) (aS : Int) (dR : Int) : Option (List α) :=
  cond ((decide (a1 < aS)) && (decide (aS < bP)))
  ((rec aA a1 aS bP).bind fun x6 =>
  yJ cmp4 rec x6 b3 bP dR)
  (yJ cmp4 rec aA b3 bP dR)

noncomputable def DK {α : Type} [Inhabited α] (cmp4 : α → α → Option Int) (rec : (List α) → Int → Int → Int → Option (List α)) (aA : List α) (a1 : Int) (m2 : Int) (b3 : Int) (bP : Int) (n19 : Int) (aS : Int) : Option (List α) :=
  cond ((decide (aS < m2)) && (decide (m2 < (IntKind.i64.wrap (n19 - aS)))))
  ((AL aA aS m2 (IntKind.i64.wrap (n19 - aS)) cmp4).bind fun x10 =>
  oU cmp4 rec x10 a1 b3 bP aS (IntKind.i64.wrap (n19 - aS)))
  (oU cmp4 rec aA a1 b3 bP aS (IntKind.i64.wrap (n19 - aS)))

noncomputable def nK {α : Type} [Inhabited α] (cmp4 : α → α → Option Int) (rec : (List α) → Int → Int → Int → Option (List α)) (a1 : Int) (m2 : Int) (b3 : Int) (bP : Int) (n19 : Int) (p22 : Int) (aA : List α) (aS : Int) (r21 : Int) : Option ((List α × Int × Int) ⊕ ((List α × Int))) :=
  cond (decide (aS < r21))
  (bI (0 ≤ (1 : Int)) <|
  bI (0 ≤ (IntKind.i64.wrap (p22 - (IntKind.i64.wrap (Int.fdiv (IntKind.u64.wrap (IntKind.i64.wrap (aS + r21))) (2 ^ (min (Int.toNat (1 : Int)) 64)))))) ∧ (IntKind.i64.wrap (p22 - (IntKind.i64.wrap (Int.fdiv (IntKind.u64.wrap (IntKind.i64.wrap (aS + r21))) (2 ^ (min (Int.toNat (1 : Int)) 64)))))) < ((List.length aA : Nat) : Int)) <|
  bI (0 ≤ (IntKind.i64.wrap (Int.fdiv (IntKind.u64.wrap (IntKind.i64.wrap (aS + r21))) (2 ^ (min (Int.toNat (1 : Int)) 64)))) ∧ (IntKind.i64.wrap (Int.fdiv (IntKind.u64.wrap (IntKind.i64.wrap (aS + r21))) (2 ^ (min (Int.toNat (1 : Int)) 64)))) < ((List.length aA : Nat) : Int)) <|
  (cmp4 (List.getD aA (Int.toNat (IntKind.i64.wrap (p22 - (IntKind.i64.wrap (Int.fdiv (IntKind.u64.wrap (IntKind.i64.wrap (aS + r21))) (2 ^ (min (Int.toNat (1 : Int)) 64))))))) default) (List.getD aA (Int.toNat (IntKind.i64.wrap (Int.fdiv (IntKind.u64.wrap (IntKind.i64.wrap (aS + r21))) (2 ^ (min (Int.toNat (1 : Int)) 64))))) default)).bind fun x17 =>
  cond (!(decide (x17 < (0 : Int))))
  (some (.inl (aA, IntKind.i64.wrap ((IntKind.i64.wrap (Int.fdiv (IntKind.u64.wrap (IntKind.i64.wrap (aS + r21))) (2 ^ (min (Int.toNat (1 : Int)) 64)))) + (1 : Int)), r21)))
  (some (.inl (aA, aS, IntKind.i64.wrap (Int.fdiv (IntKind.u64.wrap (IntKind.i64.wrap (aS + r21))) (2 ^ (min (Int.toNat (1 : Int)) 64)))))))
  (some (.inr (aA, aS)))

noncomputable def DJ {α : Type} [Inhabited α] (cmp4 : α → α → Option Int) (rec : (List α) → Int → Int → Int → Option (List α)) (aA : List α) (a1 : Int) (m2 : Int) (b3 : Int) (bP : Int) (n19 : Int) (aS : Int) (r21 : Int) (p22 : Int) : Option (List α) :=
  (lp (fun s => nK cmp4 rec a1 m2 b3 bP n19 p22 s.1 s.2.1 s.2.2) (aA, aS, r21)).bind (fun rr => DK cmp4 rec rr.1 a1 m2 b3 bP n19 rr.2)

noncomputable def uN {α : Type} [Inhabited α] (cmp4 : α → α → Option Int) (rec : (List α) → Int → Int → Int → Option (List α)) (aA : List α) (a1 : Int) (m2 : Int) (b3 : Int) (bP : Int) (n19 : Int) (aS : Int) (r21 : Int) : Option (List α) :=
  DJ cmp4 rec aA a1 m2 b3 bP n19 aS r21 (IntKind.i64.wrap (n19 - (1 : Int)))

noncomputable def uP {α : Type} [Inhabited α] (cmp4 : α → α → Option Int) (rec : (List α) → Int → Int → Int → Option (List α)) (aA : List α) (a1 : Int) (m2 : Int) (b3 : Int) : Option (List α) :=
  bI (0 ≤ (1 : Int)) <|
  cond (decide ((IntKind.i64.wrap (Int.fdiv (IntKind.u64.wrap (IntKind.i64.wrap (a1 + b3))) (2 ^ (min (Int.toNat (1 : Int)) 64)))) < m2))
  (uN cmp4 rec aA a1 m2 b3 (IntKind.i64.wrap (Int.fdiv (IntKind.u64.wrap (IntKind.i64.wrap (a1 + b3))) (2 ^ (min (Int.toNat (1 : Int)) 64)))) (IntKind.i64.wrap ((IntKind.i64.wrap (Int.fdiv (IntKind.u64.wrap (IntKind.i64.wrap (a1 + b3))) (2 ^ (min (Int.toNat (1 : Int)) 64)))) + m2)) (IntKind.i64.wrap ((IntKind.i64.wrap ((IntKind.i64.wrap (Int.fdiv (IntKind.u64.wrap (IntKind.i64.wrap (a1 + b3))) (2 ^ (min (Int.toNat (1 : Int)) 64)))) + m2)) - b3)) (IntKind.i64.wrap (Int.fdiv (IntKind.u64.wrap (IntKind.i64.wrap (a1 + b3))) (2 ^ (min (Int.toNat (1 : Int)) 64)))))
  (uN cmp4 rec aA a1 m2 b3 (IntKind.i64.wrap (Int.fdiv (IntKind.u64.wrap (IntKind.i64.wrap (a1 + b3))) (2 ^ (min (Int.toNat (1 : Int)) 64)))) (IntKind.i64.wrap ((IntKind.i64.wrap (Int.fdiv (IntKind.u64.wrap (IntKind.i64.wrap (a1 + b3))) (2 ^ (min (Int.toNat (1 : Int)) 64)))) + m2)) a1 m2)

noncomputable def DI {α : Type} [Inhabited α] (cmp4 : α → α → Option Int) (rec : (List α) → Int → Int → Int → Option (List α)) (aA : List α) : Option (List α) :=
  some aA

noncomputable def mW {α : Type} [Inhabited α] (cmp4 : α → α → Option Int) (rec : (List α) → Int → Int → Int → Option (List α)) (i14 : Int) (aA : List α) (k17 : Int) : Option ((List α × Int) ⊕ ((List α))) :=
  cond (decide (i14 < k17))
  (bI (0 ≤ (IntKind.i64.wrap (k17 - (1 : Int))) ∧ (IntKind.i64.wrap (k17 - (1 : Int))) < ((List.length aA : Nat) : Int)) <|
  bI (0 ≤ k17 ∧ k17 < ((List.length aA : Nat) : Int)) <|
  bI (0 ≤ k17 ∧ k17 < ((List.length aA : Nat) : Int)) <|
  bI (0 ≤ (IntKind.i64.wrap (k17 - (1 : Int))) ∧ (IntKind.i64.wrap (k17 - (1 : Int))) < ((List.length aA : Nat) : Int)) <|
  some (.inl (List.set (List.set aA (Int.toNat k17) (List.getD aA (Int.toNat (IntKind.i64.wrap (k17 - (1 : Int)))) default)) (Int.toNat (IntKind.i64.wrap (k17 - (1 : Int)))) (List.getD aA (Int.toNat k17) default), IntKind.i64.wrap (k17 - (1 : Int)))))
  (some (.inr aA))

noncomputable def BR {α : Type} [Inhabited α] (cmp4 : α → α → Option Int) (rec : (List α) → Int → Int → Int → Option (List α)) (aA : List α) (i14 : Int) (k17 : Int) : Option (List α) :=
  (lp (fun s => mW cmp4 rec i14 s.1 s.2) (aA, k17)).bind (fun rr => DI cmp4 rec rr)

noncomputable def DL {α : Type} [Inhabited α] (cmp4 : α → α → Option Int) (rec : (List α) → Int → Int → Int → Option (List α)) (aA : List α) (m2 : Int) (i14 : Int) : Option (List α) :=
  BR cmp4 rec aA i14 m2

noncomputable def mU {α : Type} [Inhabited α] (cmp4 : α → α → Option Int) (rec : (List α) → Int → Int → Int → Option (List α)) (m2 : Int) (aA : List α) (i14 : Int) (j15 : Int) : Option ((List α × Int × Int) ⊕ ((List α × Int))) :=
  cond (decide (i14 < j15))
  (bI (0 ≤ (1 : Int)) <|
  bI (0 ≤ m2 ∧ m2 < ((List.length aA : Nat) : Int)) <|
  bI (0 ≤ (IntKind.i64.wrap (Int.fdiv (IntKind.u64.wrap (IntKind.i64.wrap (i14 + j15))) (2 ^ (min (Int.toNat (1 : Int)) 64)))) ∧ (IntKind.i64.wrap (Int.fdiv (IntKind.u64.wrap (IntKind.i64.wrap (i14 + j15))) (2 ^ (min (Int.toNat (1 : Int)) 64)))) < ((List.length aA : Nat) : Int)) <|
  (cmp4 (List.getD aA (Int.toNat m2) default) (List.getD aA (Int.toNat (IntKind.i64.wrap (Int.fdiv (IntKind.u64.wrap (IntKind.i64.wrap (i14 + j15))) (2 ^ (min (Int.toNat (1 : Int)) 64))))) default)).bind fun x31 =>
  cond (!(decide (x31 < (0 : Int))))
  (some (.inl (aA, IntKind.i64.wrap ((IntKind.i64.wrap (Int.fdiv (IntKind.u64.wrap (IntKind.i64.wrap (i14 + j15))) (2 ^ (min (Int.toNat (1 : Int)) 64)))) + (1 : Int)), j15)))
  (some (.inl (aA, i14, IntKind.i64.wrap (Int.fdiv (IntKind.u64.wrap (IntKind.i64.wrap (i14 + j15))) (2 ^ (min (Int.toNat (1 : Int)) 64)))))))
  (some (.inr (aA, i14)))

noncomputable def BO {α : Type} [Inhabited α] (cmp4 : α → α → Option Int) (rec : (List α) → Int → Int → Int → Option (List α)) (aA : List α) (m2 : Int) (i14 : Int) (j15 : Int) : Option (List α) :=
  (lp (fun s => mU cmp4 rec m2 s.1 s.2.1 s.2.2) (aA, i14, j15)).bind (fun rr => DL cmp4 rec rr.1 m2 rr.2)

noncomputable def yO {α : Type} [Inhabited α] (cmp4 : α → α → Option Int) (rec : (List α) → Int → Int → Int → Option (List α)) (aA : List α) (a1 : Int) (m2 : Int) (b3 : Int) : Option (List α) :=
  cond (decide ((IntKind.i64.wrap (b3 - m2)) = (1 : Int)))
  (BO cmp4 rec aA m2 a1 m2)
  (uP cmp4 rec aA a1 m2 b3)

noncomputable def CB {α : Type} [Inhabited α] (cmp4 : α → α → Option Int) (rec : (List α) → Int → Int → Int → Option (List α)) (aA : List α) : Option (List α) :=
  some aA

noncomputable def mV {α : Type} [Inhabited α] (cmp4 : α → α → Option Int) (rec : (List α) → Int → Int → Int → Option (List α)) (i10 : Int) (aA : List α) (k13 : Int) : Option ((List α × Int) ⊕ ((List α))) :=
  cond (decide (k13 < (IntKind.i64.wrap (i10 - (1 : Int)))))
  (bI (0 ≤ (IntKind.i64.wrap (k13 + (1 : Int))) ∧ (IntKind.i64.wrap (k13 + (1 : Int))) < ((List.length aA : Nat) : Int)) <|
  bI (0 ≤ k13 ∧ k13 < ((List.length aA : Nat) : Int)) <|
  bI (0 ≤ k13 ∧ k13 < ((List.length aA : Nat) : Int)) <|
  bI (0 ≤ (IntKind.i64.wrap (k13 + (1 : Int))) ∧ (IntKind.i64.wrap (k13 + (1 : Int))) < ((List.length aA : Nat) : Int)) <|
  some (.inl (List.set (List.set aA (Int.toNat k13) (List.getD aA (Int.toNat (IntKind.i64.wrap (k13 + (1 : Int)))) default)) (Int.toNat (IntKind.i64.wrap (k13 + (1 : Int)))) (List.getD aA (Int.toNat k13) default), IntKind.i64.wrap (k13 + (1 : Int)))))
  (some (.inr aA))

noncomputable def CA {α : Type} [Inhabited α] (cmp4 : α → α → Option Int) (rec : (List α) → Int → Int → Int → Option (List α)) (aA : List α) (i10 : Int) (k13 : Int) : Option (List α) :=
  (lp (fun s => mV cmp4 rec i10 s.1 s.2) (aA, k13)).bind (fun rr => CB cmp4 rec rr)

noncomputable def BV {α : Type} [Inhabited α] (cmp4 : α → α → Option Int) (rec : (List α) → Int → Int → Int → Option (List α)) (aA : List α) (a1 : Int) (i10 : Int) : Option (List α) :=
  CA cmp4 rec aA i10 a1

noncomputable def mX {α : Type} [Inhabited α] (cmp4 : α → α → Option Int) (rec : (List α) → Int → Int → Int → Option (List α)) (a1 : Int) (aA : List α) (i10 : Int) (j11 : Int) : Option ((List α × Int × Int) ⊕ ((List α × Int))) :=
  cond (decide (i10 < j11))
  (bI (0 ≤ (1 : Int)) <|
  bI (0 ≤ (IntKind.i64.wrap (Int.fdiv (IntKind.u64.wrap (IntKind.i64.wrap (i10 + j11))) (2 ^ (min (Int.toNat (1 : Int)) 64)))) ∧ (IntKind.i64.wrap (Int.fdiv (IntKind.u64.wrap (IntKind.i64.wrap (i10 + j11))) (2 ^ (min (Int.toNat (1 : Int)) 64)))) < ((List.length aA : Nat) : Int)) <|
  bI (0 ≤ a1 ∧ a1 < ((List.length aA : Nat) : Int)) <|
  (cmp4 (List.getD aA (Int.toNat (IntKind.i64.wrap (Int.fdiv (IntKind.u64.wrap (IntKind.i64.wrap (i10 + j11))) (2 ^ (min (Int.toNat (1 : Int)) 64))))) default) (List.getD aA (Int.toNat a1) default)).bind fun x45 =>
  cond (decide (x45 < (0 : Int)))
  (some (.inl (aA, IntKind.i64.wrap ((IntKind.i64.wrap (Int.fdiv (IntKind.u64.wrap (IntKind.i64.wrap (i10 + j11))) (2 ^ (min (Int.toNat (1 : Int)) 64)))) + (1 : Int)), j11)))
  (some (.inl (aA, i10, IntKind.i64.wrap (Int.fdiv (IntKind.u64.wrap (IntKind.i64.wrap (i10 + j11))) (2 ^ (min (Int.toNat (1 : Int)) 64)))))))
  (some (.inr (aA, i10)))

noncomputable def BH {α : Type} [Inhabited α] (cmp4 : α → α → Option Int) (rec : (List α) → Int → Int → Int → Option (List α)) (aA : List α) (a1 : Int) (i10 : Int) (j11 : Int) : Option (List α) :=
  (lp (fun s => mX cmp4 rec a1 s.1 s.2.1 s.2.2) (aA, i10, j11)).bind (fun rr => BV cmp4 rec rr.1 a1 rr.2)

noncomputable def dV {α : Type} [Inhabited α] (cmp4 : α → α → Option Int) (rec : (List α) → Int → Int → Int → Option (List α)) (aA : (List α)) (a1 : Int) (m2 : Int) (b3 : Int) : Option (List α) :=
  cond (decide ((IntKind.i64.wrap (m2 - a1)) = (1 : Int)))
  (BH cmp4 rec aA a1 m2 b3)
  (yO cmp4 rec aA a1 m2 b3)

noncomputable def dW {α : Type} [Inhabited α] (cmp4 : α → α → Option Int) : Nat → (List α) → Int → Int → Int → Option (List α)
  | 0 => fun _ _ _ _ => none
  | k + 1 => dV cmp4 (dW cmp4 k)

noncomputable def nY {α : Type} [Inhabited α] (aA : (List α)) (a1 : Int) (m2 : Int) (b3 : Int) (cmp4 : α → α → Option Int) : Option (List α) := GK (fun k => dW cmp4 k aA a1 m2 b3)

noncomputable def xK {α : Type} [Inhabited α] (cmp2 : α → α → Option Int) (aA : List α) (n1 : Int) (aP : Int) : Option ((List α × Int) ⊕ ((List α))) :=
  some (.inl (aA, IntKind.i64.wrap (aP * (2 : Int))))

noncomputable def uK {α : Type} [Inhabited α] (cmp2 : α → α → Option Int) (aA : List α) (n1 : Int) (aP : Int) (a7 : Int) : Option ((List α × Int) ⊕ ((List α))) :=
  cond (decide ((IntKind.i64.wrap (a7 + aP)) < n1))
  ((nY aA a7 (IntKind.i64.wrap (a7 + aP)) n1 cmp2).bind fun x4 =>
  xK cmp2 x4 n1 aP)
  (xK cmp2 aA n1 aP)

noncomputable def lT {α : Type} [Inhabited α] (cmp2 : α → α → Option Int) (n1 : Int) (aP : Int) (aA : List α) (a7 : Int) (b8 : Int) : Option ((List α × Int × Int) ⊕ ((List α × Int))) :=
  cond (decide (b8 ≤ n1))
  ((nY aA a7 (IntKind.i64.wrap (a7 + aP)) b8 cmp2).bind fun x8 =>
  some (.inl (x8, b8, IntKind.i64.wrap (b8 + (IntKind.i64.wrap ((2 : Int) * aP))))))
  (some (.inr (aA, a7)))

noncomputable def tY {α : Type} [Inhabited α] (cmp2 : α → α → Option Int) (aA : List α) (n1 : Int) (aP : Int) (a7 : Int) (b8 : Int) : Option ((List α × Int) ⊕ ((List α))) :=
  (lp (fun s => lT cmp2 n1 aP s.1 s.2.1 s.2.2) (aA, a7, b8)).bind (fun rr => uK cmp2 rr.1 n1 aP rr.2)

noncomputable def jF {α : Type} [Inhabited α] (cmp2 : α → α → Option Int) (n1 : Int) (aA : List α) (aP : Int) : Option ((List α × Int) ⊕ ((List α))) :=
  cond (decide (aP < n1))
  (tY cmp2 aA n1 aP (0 : Int) (IntKind.i64.wrap ((2 : Int) * aP)))
  (some (.inr aA))

noncomputable def xP {α : Type} [Inhabited α] (cmp2 : α → α → Option Int) (aA : List α) (n1 : Int) (aP : Int) : Option (List α) :=
  (lp (fun s => jF cmp2 n1 s.1 s.2) (aA, aP)).bind (fun rr => some rr)

noncomputable def xT {α : Type} [Inhabited α] (cmp2 : α → α → Option Int) (aA : List α) (n1 : Int) (aP : Int) (a7 : Int) : Option (List α) :=
  (mP aA a7 n1 cmp2).bind fun x1 =>
  xP cmp2 x1 n1 aP

noncomputable def lQ {α : Type} [Inhabited α] (cmp2 : α → α → Option Int) (n1 : Int) (aP : Int) (aA : List α) (a7 : Int) (b8 : Int) : Option ((List α × Int × Int) ⊕ ((List α × Int))) :=
  cond (decide (b8 ≤ n1))
  ((mP aA a7 b8 cmp2).bind fun x13 =>
  some (.inl (x13, b8, IntKind.i64.wrap (b8 + aP))))
  (some (.inr (aA, a7)))

noncomputable def xR {α : Type} [Inhabited α] (cmp2 : α → α → Option Int) (aA : List α) (n1 : Int) (aP : Int) (a7 : Int) (b8 : Int) : Option (List α) :=
  (lp (fun s => lQ cmp2 n1 aP s.1 s.2.1 s.2.2) (aA, a7, b8)).bind (fun rr => xT cmp2 rr.1 n1 aP rr.2)

noncomputable def vR {α : Type} [Inhabited α] (aA : (List α)) (n1 : Int) (cmp2 : α → α → Option Int) : Option (List α) :=
  xR cmp2 aA n1 (20 : Int) (0 : Int) (20 : Int)

end Go.Abs
namespace Go.Abs
open Go
variable {α : Type} [Inhabited α]
structure Cmp {β : Type} (ok : β → Prop) (le : β → β → Prop) (cmp : β → β → Option Int) : Prop where
  ans : ∀ x y, ok x → ok y → ∃ v, cmp x y = some v ∧ (v < 0 ↔ ¬ le y x)
  trans : ∀ x y z, ok x → ok y → ok z → le x y → le y z → le x z
  total : ∀ x y, ok x → ok y → le x y ∨ le y x

abbrev Srt {β : Type} (le : β → β → Prop) (l : List β) : Prop := l.Pairwise le

abbrev Oks {β : Type} (ok : β → Prop) (l : List β) : Prop := ∀ x ∈ l, ok x

theorem WT {Q R : List α} {x : α} : (Q ++ x :: R).getD Q.length default = x := by simp [List.getD_eq_getElem?_getD]

theorem ZZ {β : Type} {Q R : List β} {x y : β} : (Q ++ x :: R).set Q.length y = Q ++ y :: R := by simp

theorem oX {Q R d : List α} {x : α} {n : Nat} (hd : d = Q ++ x :: R) (hn : n = Q.length) : d.getD n default = x := by subst hd; subst hn; exact WT

theorem BK {β : Type} {Q R d : List β} {x y : β} {n : Nat} (hd : d = Q ++ x :: R) (hn : n = Q.length) : d.set n y = Q ++ y :: R := by subst hd; subst hn; exact ZZ

theorem wr {n : Int} (h1 : -1099511627776 ≤ n) (h2 : n ≤ 8796093022208) : IntKind.i64.wrap n = n := iQ (by omega) (by omega)

theorem OF {β : Type} {Q M R d : List β} {x y : β} {a b : Nat} (hd : d = Q ++ x :: (M ++ y :: R)) (ha : a = Q.length) (hb : b = Q.length + 1 + M.length) : (d.set a y).set b x = Q ++ y :: (M ++ x :: R) := by
  rw [BK hd ha, BK (Q := Q ++ y :: M) (x := y) (R := R) (by simp) (by simp; omega)]
  simp

section ins
variable {ok : α → Prop} {le : α → α → Prop} {cmp : α → α → Option Int}
theorem DP {A T : List α} {x : α} {a b i : Int} {P : List α} (ha : a = (P.length : Nat)) (hl : (P ++ A ++ x :: T).length ≤ 1099511627776)
    (hs : A = [] ∨ ∃ A' y v, A = A' ++ [y] ∧ cmp x y = some v ∧ ¬ v < 0) : lE cmp a b i (P ++ A ++ x :: T) ((P.length + A.length : Nat) : Int) = some (.inr (P ++ A ++ x :: T)) := by
  simp only [List.length_append, List.length_cons] at hl
  unfold lE
  rcases hs with rfl | ⟨A', y, v, rfl, hc, hv⟩
  · have h : decide (a < ((P.length + ([] : List α).length : Nat) : Int)) = false := by subst ha; simp
    rw [h, bE (fun h => by cases h), bE (fun h => by cases h)]
    simp [cL]
  · simp only [List.length_append, List.length_cons, List.length_nil] at hl ⊢
    have h : decide (a < ((P.length + (A'.length + (0 + 1)) : Nat) : Int)) = true := by subst ha; simp; omega
    have hw : IntKind.i64.wrap (((P.length + (A'.length + (0 + 1)) : Nat) : Int) - 1) = ((P.length + A'.length : Nat) : Int) := by rw [wr (by omega) (by omega)]; omega
    have g1 : (P ++ (A' ++ [y]) ++ x :: T).getD (P.length + (A'.length + (0 + 1))) default = x := oX (Q := P ++ (A' ++ [y])) rfl (by simp)
    have g2 : (P ++ (A' ++ [y]) ++ x :: T).getD (P.length + A'.length) default = y := oX (Q := P ++ A') (R := x :: T) (by simp) (by simp)
    rw [h, hw, bE (fun _ => ⟨by omega, by omega⟩), bE (fun _ => ⟨by omega, by omega⟩)]
    rw [Int.toNat_natCast, Int.toNat_natCast, g1, g2]
    simp [cL, hc, hv]

theorem QI {A T : List α} {x y : α} {v : Int} {a b i : Int} {P : List α} (ha : a = (P.length : Nat)) (hl : (P ++ (A ++ [y]) ++ x :: T).length ≤ 1099511627776)
    (hc : cmp x y = some v) (hv : v < 0) : lE cmp a b i (P ++ (A ++ [y]) ++ x :: T) ((P.length + (A ++ [y]).length : Nat) : Int) = some (.inl (P ++ A ++ x :: (y :: T), ((P.length + A.length : Nat) : Int))) := by
  simp only [List.length_append, List.length_cons, List.length_nil] at hl ⊢
  unfold lE
  have h : decide (a < ((P.length + (A.length + (0 + 1)) : Nat) : Int)) = true := by subst ha; simp; omega
  have hw : IntKind.i64.wrap (((P.length + (A.length + (0 + 1)) : Nat) : Int) - 1) = ((P.length + A.length : Nat) : Int) := by rw [wr (by omega) (by omega)]; omega
  have g1 : (P ++ (A ++ [y]) ++ x :: T).getD (P.length + (A.length + (0 + 1))) default = x := oX (Q := P ++ (A ++ [y])) rfl (by simp)
  have g2 : (P ++ (A ++ [y]) ++ x :: T).getD (P.length + A.length) default = y := oX (Q := P ++ A) (R := x :: T) (by simp) (by simp)
  have hs : ((P ++ (A ++ [y]) ++ x :: T).set (P.length + (A.length + (0 + 1))) y).set (P.length + A.length) x = P ++ A ++ x :: (y :: T) := by
    rw [BK (Q := P ++ (A ++ [y])) (x := x) (R := T) rfl (by simp), BK (Q := P ++ A) (x := y) (R := y :: T) (by simp) (by simp)]
  have b1 : 0 ≤ ((P.length + (A.length + (0 + 1)) : Nat) : Int) ∧ ((P.length + (A.length + (0 + 1)) : Nat) : Int) < ((List.length (P ++ (A ++ [y]) ++ x :: T) : Nat) : Int) := ⟨by omega, by simp only [List.length_append, List.length_cons, List.length_nil]; omega⟩
  have b2 : 0 ≤ ((P.length + A.length : Nat) : Int) ∧ ((P.length + A.length : Nat) : Int) < ((List.length (P ++ (A ++ [y]) ++ x :: T) : Nat) : Int) := ⟨by omega, by simp only [List.length_append, List.length_cons, List.length_nil]; omega⟩
  rw [h, hw, bE (fun _ => b1), bE (fun _ => b2), Int.toNat_natCast, Int.toNat_natCast, g1, g2]
  simp only [cL, cond_true, hc, Option.bind_some, Bool.true_and, decide_eq_true hv]
  rw [bE b2, bE b1, bE b1, bE b2, hs]

theorem VP (C : Cmp ok le cmp) {x : α} (hx : ok x) {a b i : Int} {P : List α} (ha : a = (P.length : Nat)) : ∀ (n : Nat) (A B T : List α), A.length = n → Oks ok A → Oks ok B → Srt le (A ++ B) → (∀ y ∈ B, ¬ le y x) → (P ++ A ++ x :: (B ++ T)).length ≤ 1099511627776 →
    ∃ D, D.Perm (A ++ x :: B) ∧ Srt le D ∧ lp (fun s : List α × Int => lE cmp a b i s.1 s.2) (P ++ A ++ x :: (B ++ T), ((P.length + A.length : Nat) : Int)) = some (P ++ D ++ T) := by
  intro n
  induction n with
  | zero =>
    intro A B T hn _ hB hs hlt hl
    have hA : A = [] := List.length_eq_zero_iff.1 hn
    subst hA
    refine ⟨x :: B, List.Perm.refl _, ?_, ?_⟩
    · refine List.pairwise_cons.2 ⟨fun y hy => ?_, by simpa using hs⟩
      rcases C.total x y hx (hB y hy) with h | h
      · exact h
      · exact absurd h (hlt y hy)
    · rw [cR (DP ha hl (Or.inl rfl))]; simp
  | succ n ih =>
    intro A B T hn hA hB hs hlt hl
    obtain ⟨A', y, rfl⟩ : ∃ A' y, A = A' ++ [y] := by
      rcases List.eq_nil_or_concat A with h | ⟨A', y, h⟩
      · rw [h] at hn; simp at hn
      · exact ⟨A', y, by simpa using h⟩
    have hy : ok y := hA y (by simp)
    obtain ⟨v, hc, hv⟩ := C.ans x y hx hy
    by_cases hneg : v < 0
    · have hb := QI (i := i) (b := b) ha hl hc hneg
      have hl' : (P ++ A' ++ x :: ((y :: B) ++ T)).length ≤ 1099511627776 := by
        simp only [List.length_append, List.length_cons, List.length_nil] at hl ⊢; omega
      obtain ⟨D, d1, d2, d3⟩ := ih A' (y :: B) T (by simpa using hn) (fun z hz => hA z (by simp [hz])) (fun z hz => by rcases List.mem_cons.1 hz with rfl | hz; exact hy; exact hB z hz) (by simpa using hs)
        (fun z hz => by rcases List.mem_cons.1 hz with rfl | hz; exact hv.1 hneg; exact hlt z hz) hl'
      refine ⟨D, d1.trans ?_, d2, ?_⟩
      · simp only [List.append_assoc, List.singleton_append]
        exact List.Perm.append_left _ (List.Perm.swap ..)
      · rw [eW hb]; simpa using d3
    · refine ⟨A' ++ [y] ++ x :: B, List.Perm.refl _, ?_, ?_⟩
      · have hyx : le y x := Classical.byContradiction fun h => hneg (hv.2 h)
        simp only [Srt, List.pairwise_append] at hs ⊢
        obtain ⟨s1, s2, s3⟩ := hs
        refine ⟨s1, List.pairwise_cons.2 ⟨fun z hz => ?_, s2⟩, ?_⟩
        · rcases C.total x z hx (hB z hz) with h | h
          · exact h
          · exact absurd h (hlt z hz)
        · intro z hz w hw
          rcases List.mem_cons.1 hw with rfl | hw
          · rcases List.mem_append.1 hz with hz' | hz'
            · exact C.trans z y w (hA z hz) hy hx (s1.2.2 z hz' y (by simp)) hyx
            · rw [List.mem_singleton] at hz'; subst hz'; exact hyx
          · exact s3 z hz w hw
      · rw [cR (DP ha hl (Or.inr ⟨A', y, v, rfl, hc, hneg⟩))]
        simp

theorem KQ (C : Cmp ok le cmp) {a b : Int} {P : List α} (ha : a = (P.length : Nat)) : ∀ (B A T : List α), Oks ok A → Oks ok B → Srt le A → b = ((P.length + A.length + B.length : Nat) : Int) → (P ++ A ++ (B ++ T)).length ≤ 1099511627776 →
    ∃ D, D.Perm (A ++ B) ∧ Srt le D ∧ lp (fun s : List α × Int => jA cmp a b s.1 s.2) (P ++ A ++ (B ++ T), ((P.length + A.length : Nat) : Int)) = some (P ++ D ++ T)
  | [], A, T, _, _, hs, hb, _ => by
    refine ⟨A, by simp, hs, cR ?_⟩
    have : decide (((P.length + A.length : Nat) : Int) < b) = false := by subst hb; simp
    simp only [jA, this, cond_false, List.nil_append]
  | x :: B, A, T, hA, hB, hs, hb, hl => by
    obtain ⟨D, d1, d2, d3⟩ := VP C (hB x (by simp)) (b := b) (i := ((P.length + A.length : Nat) : Int)) ha A.length A [] (B ++ T) rfl hA (by intro z hz; simp at hz) (by simpa using hs) (by simp) (by simpa using hl)
    have hD : D.length = A.length + 1 := by rw [d1.length_eq]; simp
    have hlt : decide (((P.length + A.length : Nat) : Int) < b) = true := by subst hb; simp; omega
    have hbod : (fun s : List α × Int => jA cmp a b s.1 s.2) (P ++ A ++ (x :: B ++ T), ((P.length + A.length : Nat) : Int)) = some (.inl (P ++ D ++ (B ++ T), ((P.length + D.length : Nat) : Int))) := by
      show jA cmp a b _ _ = _
      simp only [jA, hlt, cond_true, xZ]
      rw [show P ++ A ++ (x :: B ++ T) = P ++ A ++ x :: ([] ++ (B ++ T)) by simp, d3]
      simp only [Option.bind_some, xY]
      rw [wr (by omega) (by simp only [List.length_append, List.length_cons] at hl; omega), hD]
      congr 1
    have hl' : (P ++ D ++ (B ++ T)).length ≤ 1099511627776 := by simp only [List.length_append, List.length_cons] at hl ⊢; omega
    obtain ⟨E, e1, e2, e3⟩ := KQ C (b := b) ha B D T (fun z hz => by
      have := d1.mem_iff.1 hz
      rcases List.mem_append.1 this with h | h
      · exact hA z h
      · rw [List.mem_singleton] at h; subst h; exact hB z (by simp)) (fun z hz => hB z (by simp [hz])) d2 (by rw [hb]; simp only [List.length_cons]; congr 1; omega) hl'
    refine ⟨E, e1.trans ?_, e2, by rw [eW hbod]; exact e3⟩
    have := d1.append_right B
    simpa using this

theorem VT (C : Cmp ok le cmp) {P A T : List α} {a b : Int} (ha : a = (P.length : Nat)) (hb : b = ((P.length + A.length : Nat) : Int)) (hA : Oks ok A) (hl : (P ++ A ++ T).length ≤ 1099511627776) :
    ∃ D, D.Perm A ∧ Srt le D ∧ mP (P ++ A ++ T) a b cmp = some (P ++ D ++ T) := by
  unfold mP yA
  simp only [List.length_append] at hl
  cases A with
  | nil =>
    refine ⟨[], List.Perm.refl _, List.Pairwise.nil, ?_⟩
    rw [cR (r := P ++ [] ++ T)]
    · rfl
    · have : decide (IntKind.i64.wrap (a + 1) < b) = false := by
        rw [wr (by omega) (by omega)]; subst ha; subst hb; simp; omega
      simp only [jA, this, cond_false]
  | cons x A =>
    simp only [List.length_cons] at hl
    have hw : IntKind.i64.wrap (a + 1) = ((P.length + [x].length : Nat) : Int) := by rw [wr (by omega) (by omega)]; subst ha; simp
    obtain ⟨D, d1, d2, d3⟩ := KQ C (b := b) ha A [x] T (fun z hz => by rw [List.mem_singleton] at hz; subst hz; exact hA z (by simp)) (fun z hz => hA z (by simp [hz])) (by simp) (by rw [hb]; simp only [List.length_cons, List.length_nil]; congr 1; omega) (by simp only [List.length_append, List.length_cons, List.length_nil]; omega)
    refine ⟨D, by simpa using d1, d2, ?_⟩
    rw [hw, show P ++ x :: A ++ T = P ++ [x] ++ (A ++ T) by simp, d3]
    rfl

end ins
theorem DS {cmp : α → α → Option Int} {a b n : Int} : ∀ (X Y Q Z R : List α) (i : Nat), X.length = Y.length → a + i = (Q.length : Nat) → b + i = ((Q.length + X.length + Z.length : Nat) : Int) → n = ((i + X.length : Nat) : Int) → 0 ≤ a → 0 ≤ b → (Q ++ X ++ Z ++ Y ++ R).length ≤ 1099511627776 →
    lp (fun s : List α × Int => oG cmp a b n s.1 s.2) (Q ++ X ++ Z ++ Y ++ R, ((i : Nat) : Int)) = some (Q ++ Y ++ Z ++ X ++ R)
  | [], Y, Q, Z, R, i, hxy, ha, hb, hn, _, _, hl => by
    have : Y = [] := List.length_eq_zero_iff.1 hxy.symm
    subst this
    refine cR ?_
    have : decide (((i : Nat) : Int) < n) = false := by subst hn; simp
    simp only [oG, this, cond_false]
  | x :: X, [], Q, Z, R, i, hxy, _, _, _, _, _, _ => by simp at hxy
  | x :: X, y :: Y, Q, Z, R, i, hxy, ha, hb, hn, ha0, hb0, hl => by
    simp only [List.length_append, List.length_cons] at hl hb hn hxy
    have hlt : decide (((i : Nat) : Int) < n) = true := by subst hn; simp; omega
    have wa : IntKind.i64.wrap (a + i) = ((Q.length : Nat) : Int) := by rw [wr (by omega) (by omega)]; exact ha
    have wb : IntKind.i64.wrap (b + i) = ((Q.length + 1 + (X ++ Z).length : Nat) : Int) := by rw [wr (by omega) (by omega), hb]; simp only [List.length_append]; congr 1; omega
    have wi : IntKind.i64.wrap (((i : Nat) : Int) + 1) = ((i + 1 : Nat) : Int) := by rw [wr (by omega) (by omega)]; omega
    have hd : Q ++ x :: X ++ Z ++ y :: Y ++ R = Q ++ x :: ((X ++ Z) ++ y :: (Y ++ R)) := by simp
    have b1 : 0 ≤ ((Q.length : Nat) : Int) ∧ ((Q.length : Nat) : Int) < ((List.length (Q ++ x :: X ++ Z ++ y :: Y ++ R) : Nat) : Int) := ⟨by omega, by simp only [List.length_append, List.length_cons]; omega⟩
    have b2 : 0 ≤ ((Q.length + 1 + (X ++ Z).length : Nat) : Int) ∧ ((Q.length + 1 + (X ++ Z).length : Nat) : Int) < ((List.length (Q ++ x :: X ++ Z ++ y :: Y ++ R) : Nat) : Int) := ⟨by omega, by simp only [List.length_append, List.length_cons]; omega⟩
    have g1 : (Q ++ x :: X ++ Z ++ y :: Y ++ R).getD Q.length default = x := oX hd rfl
    have g2 : (Q ++ x :: X ++ Z ++ y :: Y ++ R).getD (Q.length + 1 + (X ++ Z).length) default = y := oX (Q := Q ++ x :: X ++ Z) (R := Y ++ R) (by simp) (by simp; omega)
    have hbod : (fun s : List α × Int => oG cmp a b n s.1 s.2) (Q ++ x :: X ++ Z ++ y :: Y ++ R, ((i : Nat) : Int)) = some (.inl ((Q ++ [y]) ++ X ++ (Z ++ [x]) ++ Y ++ R, ((i + 1 : Nat) : Int))) := by
      show oG cmp a b n _ _ = _
      simp only [oG, hlt, cond_true, wa, wb, wi, bE b1, bE b2, Int.toNat_natCast, g1, g2]
      rw [OF hd rfl rfl]
      simp
    rw [eW hbod, DS X Y (Q ++ [y]) (Z ++ [x]) R (i + 1) (by omega) (by simp; omega) (by simp; omega) (by rw [hn]; congr 1; omega) ha0 hb0 (by simp only [List.length_append, List.length_cons, List.length_nil]; omega)]
    simp

theorem JZ {cmp : α → α → Option Int} {a b n : Int} {X Y Q Z R d : List α} (hd : d = Q ++ X ++ Z ++ Y ++ R) (hxy : X.length = Y.length) (ha : a = (Q.length : Nat)) (hb : b = ((Q.length + X.length + Z.length : Nat) : Int)) (hn : n = (X.length : Nat)) (hl : d.length ≤ 1099511627776) :
    sO d a b n cmp = some (Q ++ Y ++ Z ++ X ++ R) := by
  subst hd
  unfold sO BG
  have := DS (cmp := cmp) (a := a) (b := b) (n := n) X Y Q Z R 0 hxy (by omega) (by omega) (by omega) (by omega) (by omega) hl
  simp only [Int.natCast_zero] at this
  rw [this]; rfl

theorem UF {cmp : α → α → Option Int} {m : Int} : ∀ (n : Nat) (X Y Q R : List α), X.length + Y.length ≤ n → X ≠ [] → Y ≠ [] → m = ((Q.length + X.length : Nat) : Int) → (Q ++ X ++ Y ++ R).length ≤ 1099511627776 →
    (lp (fun s : List α × Int × Int => lS cmp m s.1 s.2.1 s.2.2) (Q ++ X ++ Y ++ R, ((X.length : Nat) : Int), ((Y.length : Nat) : Int))).bind (fun rr => BC cmp rr.1 m rr.2) = some (Q ++ Y ++ X ++ R) := by
  intro n
  induction n with
  | zero => intro X Y Q R hn hX; exact absurd (List.length_eq_zero_iff.1 (by omega)) hX
  | succ n ih =>
    intro X Y Q R hn hX hY hm hl
    have hX' : 0 < X.length := List.length_pos_iff.2 hX
    have hY' : 0 < Y.length := List.length_pos_iff.2 hY
    simp only [List.length_append] at hl
    rcases Nat.lt_trichotomy X.length Y.length with h | h | h
    · -- the second is longer
      obtain ⟨Y1, Y2, rfl, hY2⟩ : ∃ Y1 Y2, Y = Y1 ++ Y2 ∧ Y2.length = X.length := ⟨Y.take (Y.length - X.length), Y.drop (Y.length - X.length), (List.take_append_drop _ _).symm, by rw [List.length_drop]; omega⟩
      simp only [List.length_append] at hn hl h
      have hne : decide (((X.length : Nat) : Int) = (((Y1 ++ Y2).length : Nat) : Int)) = false := by simp only [List.length_append]; simp; omega
      have hlt : decide ((((Y1 ++ Y2).length : Nat) : Int) < ((X.length : Nat) : Int)) = false := by simp only [List.length_append]; simp; omega
      have e1 : IntKind.i64.wrap (m - ((X.length : Nat) : Int)) = ((Q.length : Nat) : Int) := by rw [wr (by omega) (by omega)]; omega
      have e0 : IntKind.i64.wrap (m + (((Y1 ++ Y2).length : Nat) : Int)) = m + (((Y1 ++ Y2).length : Nat) : Int) := by simp only [List.length_append]; exact wr (by omega) (by omega)
      have e2 : IntKind.i64.wrap (m + (((Y1 ++ Y2).length : Nat) : Int) - ((X.length : Nat) : Int)) = ((Q.length + X.length + Y1.length : Nat) : Int) := by simp only [List.length_append]; rw [wr (by omega) (by omega)]; omega
      have e3 : IntKind.i64.wrap ((((Y1 ++ Y2).length : Nat) : Int) - ((X.length : Nat) : Int)) = ((Y1.length : Nat) : Int) := by simp only [List.length_append]; rw [wr (by omega) (by omega)]; omega
      have hbod : (fun s : List α × Int × Int => lS cmp m s.1 s.2.1 s.2.2) (Q ++ X ++ (Y1 ++ Y2) ++ R, ((X.length : Nat) : Int), (((Y1 ++ Y2).length : Nat) : Int)) = some (.inl (Q ++ Y2 ++ Y1 ++ (X ++ R), ((Y2.length : Nat) : Int), ((Y1.length : Nat) : Int))) := by
        show lS cmp m _ _ _ = _
        simp only [lS, hne, Bool.not_false, cond_true, hlt, cond_false, e0, e1, e2, e3]
        rw [JZ (X := X) (Y := Y2) (Q := Q) (Z := Y1) (R := R) (by simp) hY2.symm rfl rfl rfl (by simp only [List.length_append]; omega)]
        simp [hY2]
      rw [eW hbod, ih Y2 Y1 Q (X ++ R) (by omega) (fun h => by rw [h] at hY2; simp at hY2; omega) (fun h' => by rw [h'] at h; simp at h; omega) (by rw [hm]; congr 1; omega) (by simp only [List.length_append]; omega)]
      simp
    · -- alike
      have hne : decide (((X.length : Nat) : Int) = ((Y.length : Nat) : Int)) = true := by simp; omega
      rw [cR (r := (Q ++ X ++ Y ++ R, ((X.length : Nat) : Int))) (by show lS cmp m _ _ _ = _; simp only [lS, hne, Bool.not_true, cond_false])]
      simp only [Option.bind_some, BC]
      have e1 : IntKind.i64.wrap (m - ((X.length : Nat) : Int)) = ((Q.length : Nat) : Int) := by rw [wr (by omega) (by omega)]; omega
      rw [e1, JZ (X := X) (Y := Y) (Q := Q) (Z := []) (R := R) (by simp) h rfl (by rw [hm]; simp) rfl (by simp only [List.length_append]; omega)]
      simp
    · -- the first is longer
      obtain ⟨X1, X2, rfl, hX1⟩ : ∃ X1 X2, X = X1 ++ X2 ∧ X1.length = Y.length := ⟨X.take Y.length, X.drop Y.length, (List.take_append_drop _ _).symm, by rw [List.length_take]; omega⟩
      simp only [List.length_append] at hn hl h hm
      have hne : decide ((((X1 ++ X2).length : Nat) : Int) = ((Y.length : Nat) : Int)) = false := by simp only [List.length_append]; simp; omega
      have hlt : decide (((Y.length : Nat) : Int) < (((X1 ++ X2).length : Nat) : Int)) = true := by simp only [List.length_append]; simp; omega
      have e1 : IntKind.i64.wrap (m - (((X1 ++ X2).length : Nat) : Int)) = ((Q.length : Nat) : Int) := by simp only [List.length_append]; rw [wr (by omega) (by omega)]; omega
      have e3 : IntKind.i64.wrap ((((X1 ++ X2).length : Nat) : Int) - ((Y.length : Nat) : Int)) = ((X2.length : Nat) : Int) := by simp only [List.length_append]; rw [wr (by omega) (by omega)]; omega
      have hbod : (fun s : List α × Int × Int => lS cmp m s.1 s.2.1 s.2.2) (Q ++ (X1 ++ X2) ++ Y ++ R, (((X1 ++ X2).length : Nat) : Int), ((Y.length : Nat) : Int)) = some (.inl ((Q ++ Y) ++ X2 ++ X1 ++ R, ((X2.length : Nat) : Int), ((X1.length : Nat) : Int))) := by
        show lS cmp m _ _ _ = _
        simp only [lS, hne, Bool.not_false, cond_true, hlt, e1, e3]
        rw [JZ (X := X1) (Y := Y) (Q := Q) (Z := X2) (R := R) (by simp) hX1 rfl (by rw [hm]; congr 1; omega) (by rw [hX1]) (by simp only [List.length_append]; omega)]
        simp [hX1]
      rw [eW hbod, ih X2 X1 (Q ++ Y) R (by omega) (fun h' => by rw [h'] at h; simp at h; omega) (fun h => by rw [h] at hX1; simp at hX1; omega) (by rw [hm]; simp only [List.length_append]; congr 1; omega) (by simp only [List.length_append]; omega)]
      simp

theorem aAq {cmp : α → α → Option Int} {a m b : Int} {X Y Q R d : List α} (hd : d = Q ++ X ++ Y ++ R) (hX : X ≠ []) (hY : Y ≠ []) (ha : a = (Q.length : Nat)) (hm : m = ((Q.length + X.length : Nat) : Int)) (hb : b = ((Q.length + X.length + Y.length : Nat) : Int)) (hl : d.length ≤ 1099511627776) :
    AL d a m b cmp = some (Q ++ Y ++ X ++ R) := by
  subst hd
  unfold AL FU
  have hl' := hl
  simp only [List.length_append] at hl'
  rw [show IntKind.i64.wrap (m - a) = ((X.length : Nat) : Int) by rw [wr (by omega) (by omega)]; omega, show IntKind.i64.wrap (b - m) = ((Y.length : Nat) : Int) by rw [wr (by omega) (by omega)]; omega]
  exact UF _ X Y Q R (Nat.le_refl _) hX hY hm hl

end Go.Abs
namespace Go.Abs
open Go
variable {α : Type} [Inhabited α]
theorem half {s : Nat} (h : s ≤ 4398046511104) : IntKind.i64.wrap (Int.fdiv (IntKind.u64.wrap (IntKind.i64.wrap (s : Int))) (2 ^ (min (Int.toNat (1 : Int)) 64))) = ((s / 2 : Nat) : Int) := by
  rw [wr (n := (s : Int)) (by omega) (by omega)]
  have hu : IntKind.u64.wrap (s : Int) = (s : Int) := by
    simp only [IntKind.wrap, IntKind.bits, IntKind.signed]
    simp
    omega
  have hp : (2 : Int) ^ (min (Int.toNat (1 : Int)) 64) = 2 := by decide
  rw [hu, hp, Int.fdiv_eq_ediv_of_nonneg _ (by omega), wr (by omega) (by omega)]
  omega

theorem CE {P B S d : List α} {n k : Nat} (hd : d = P ++ B ++ S) (hn : n = P.length + k) (hk : k < B.length) : d.getD n default = B.getD k default := by
  subst hd; subst hn
  simp only [List.getD_eq_getElem?_getD]
  rw [List.append_assoc, List.getElem?_append_right (by omega), List.getElem?_append_left (by omega)]
  congr 2; omega

theorem CS {l : List α} {t : Nat} {y : α} (h : y ∈ l.take t) : ∃ i, i < t ∧ i < l.length ∧ y = l.getD i default := by
  obtain ⟨i, hi, rfl⟩ := List.mem_iff_getElem.1 h
  rw [List.length_take] at hi
  refine ⟨i, by omega, by omega, ?_⟩
  rw [List.getElem_take, List.getD_eq_getElem?_getD, List.getElem?_eq_getElem (by omega)]; rfl

theorem tG {l : List α} {t : Nat} {y : α} (h : y ∈ l.drop t) : ∃ i, t ≤ i ∧ i < l.length ∧ y = l.getD i default := by
  obtain ⟨i, hi, rfl⟩ := List.mem_iff_getElem.1 h
  rw [List.length_drop] at hi
  refine ⟨t + i, by omega, by omega, ?_⟩
  rw [List.getElem_drop, List.getD_eq_getElem?_getD, List.getElem?_eq_getElem (by omega)]; rfl

theorem cZ {l : List α} {i : Nat} (h : i < l.length) : l.getD i default ∈ l := by
  rw [List.getD_eq_getElem?_getD, List.getElem?_eq_getElem h]; exact List.getElem_mem h

section sym
variable {ok : α → Prop} {le : α → α → Prop} {cmp : α → α → Option Int}
theorem Cmp.refl {β : Type} {ok : β → Prop} {le : β → β → Prop} {cmp : β → β → Option Int} (C : Cmp ok le cmp) {x : β} (h : ok x) : le x x := by rcases C.total x x h h with h | h <;> exact h

theorem qR (C : Cmp ok le cmp) {l : List α} (ho : Oks ok l) (hs : Srt le l) {i j : Nat} (hij : i ≤ j) (hj : j < l.length) : le (l.getD i default) (l.getD j default) := by
  rcases Nat.lt_or_eq_of_le hij with h | h
  · have := List.pairwise_iff_getElem.1 hs i j (by omega) hj h
    simpa [List.getD_eq_getElem?_getD, List.getElem?_eq_getElem hj, List.getElem?_eq_getElem (show i < l.length by omega)] using this
  · subst h; exact C.refl (ho _ (cZ hj))

theorem ND {β : Type} {le : β → β → Prop} {l : List β} (h : Srt le l) (t : Nat) : Srt le (l.take t) := List.Pairwise.sublist (List.take_sublist t l) h

theorem MV {β : Type} {le : β → β → Prop} {l : List β} (h : Srt le l) (t : Nat) : Srt le (l.drop t) := List.Pairwise.sublist (List.drop_sublist t l) h

theorem NA {β : Type} {body : (List β × Int × Int) → Option ((List β × Int × Int) ⊕ (List β × Int))} {d : List β} {f : Nat → Prop} {lo hi : Nat}
    (hb : ∀ i j : Nat, lo ≤ i → i < j → j ≤ hi → ∃ t : Bool, (t = true ↔ f ((i + j) / 2)) ∧ body (d, (i : Int), (j : Int)) = some (.inl (if t then (d, (((i + j) / 2 + 1 : Nat) : Int), (j : Int)) else (d, (i : Int), (((i + j) / 2 : Nat) : Int)))))
    (he : ∀ i : Nat, body (d, (i : Int), (i : Int)) = some (.inr (d, (i : Int)))) :
    ∀ (n i j : Nat), j - i ≤ n → lo ≤ i → i ≤ j → j ≤ hi → (i = lo ∨ f (i - 1)) → (j = hi ∨ ¬ f j) → ∃ s, lo ≤ s ∧ s ≤ hi ∧ (s = lo ∨ f (s - 1)) ∧ (s = hi ∨ ¬ f s) ∧ lp body (d, (i : Int), (j : Int)) = some (d, ((s : Nat) : Int)) := by
  intro n
  induction n with
  | zero =>
    intro i j hn h1 h2 h3 h4 h5
    have : i = j := by omega
    subst this
    exact ⟨i, h1, h3, h4, h5, cR (he i)⟩
  | succ n ih =>
    intro i j hn h1 h2 h3 h4 h5
    by_cases hij : i = j
    · subst hij; exact ⟨i, h1, h3, h4, h5, cR (he i)⟩
    · obtain ⟨t, ht, hbt⟩ := hb i j h1 (by omega) h3
      cases t
      · obtain ⟨s, r1, r2, r3, r4, r5⟩ := ih i ((i + j) / 2) (by omega) h1 (by omega) (by omega) h4 (Or.inr (fun h => by have := ht.2 h; cases this))
        refine ⟨s, r1, r2, r3, r4, ?_⟩
        rw [eW hbt]; exact r5
      · obtain ⟨s, r1, r2, r3, r4, r5⟩ := ih ((i + j) / 2 + 1) j (by omega) (by omega) (by omega) h3 (Or.inr (by simpa using ht.1 rfl)) h5
        refine ⟨s, r1, r2, r3, r4, ?_⟩
        rw [eW hbt]; exact r5

def HU (le : α → α → Prop) (P A B S r : List α) : Prop := ∃ D, D.Perm (A ++ B) ∧ Srt le D ∧ r = P ++ D ++ S

theorem YQ {cmp : α → α → Option Int} {rec : List α → Int → Int → Int → Option (List α)} {e : Int} {x : α} : ∀ (B Q R : List α) (k : Nat), k = Q.length → e = ((Q.length + B.length + 1 : Nat) : Int) → (Q ++ x :: B ++ R).length ≤ 1099511627776 →
    lp (fun s : List α × Int => mV cmp rec e s.1 s.2) (Q ++ x :: B ++ R, (k : Int)) = some (Q ++ B ++ x :: R)
  | [], Q, R, k, hk, he, hl => by
    simp only [List.length_append, List.length_cons, List.length_nil] at hl he
    refine cR ?_
    show mV cmp rec e _ _ = _
    have : decide ((k : Int) < IntKind.i64.wrap (e - 1)) = false := by rw [wr (by omega) (by omega)]; simp; omega
    simp only [mV, this, cond_false]
    simp
  | y :: B, Q, R, k, hk, he, hl => by
    simp only [List.length_append, List.length_cons] at hl he
    have h1 : decide ((k : Int) < IntKind.i64.wrap (e - 1)) = true := by rw [wr (by omega) (by omega)]; simp; omega
    have hw : IntKind.i64.wrap ((k : Int) + 1) = ((k + 1 : Nat) : Int) := by rw [wr (by omega) (by omega)]; omega
    have b1 : 0 ≤ (k : Int) ∧ (k : Int) < ((List.length (Q ++ x :: y :: B ++ R) : Nat) : Int) := ⟨by omega, by simp only [List.length_append, List.length_cons]; omega⟩
    have b2 : 0 ≤ ((k + 1 : Nat) : Int) ∧ ((k + 1 : Nat) : Int) < ((List.length (Q ++ x :: y :: B ++ R) : Nat) : Int) := ⟨by omega, by simp only [List.length_append, List.length_cons]; omega⟩
    have hd : Q ++ x :: y :: B ++ R = Q ++ x :: ([] ++ y :: (B ++ R)) := by simp
    have g1 : (Q ++ x :: y :: B ++ R).getD k default = x := oX hd hk
    have g2 : (Q ++ x :: y :: B ++ R).getD (k + 1) default = y := oX (Q := Q ++ [x]) (R := B ++ R) (by simp) (by simp; omega)
    have hb : (fun s : List α × Int => mV cmp rec e s.1 s.2) (Q ++ x :: y :: B ++ R, (k : Int)) = some (.inl ((Q ++ [y]) ++ x :: B ++ R, ((k + 1 : Nat) : Int))) := by
      show mV cmp rec e _ _ = _
      simp only [mV, h1, cond_true, hw, bE b1, bE b2, Int.toNat_natCast, g1, g2]
      rw [OF (M := []) hd hk (by simp; omega)]
      simp
    rw [eW hb, YQ B (Q ++ [y]) R (k + 1) (by simp; omega) (by rw [he]; simp only [List.length_append, List.length_cons, List.length_nil]; congr 1; omega) (by simp only [List.length_append, List.length_cons, List.length_nil]; omega)]
    simp

theorem ZH {cmp : α → α → Option Int} {rec : List α → Int → Int → Int → Option (List α)} {e : Int} {x : α} {Q : List α} (he : e = (Q.length : Nat)) : ∀ (n : Nat) (A R : List α) (k : Nat), A.length = n → k = Q.length + A.length → (Q ++ A ++ x :: R).length ≤ 1099511627776 →
    lp (fun s : List α × Int => mW cmp rec e s.1 s.2) (Q ++ A ++ x :: R, (k : Int)) = some (Q ++ x :: A ++ R) := by
  intro n
  induction n with
  | zero =>
    intro A R k hn hk hl
    have hA : A = [] := List.length_eq_zero_iff.1 hn
    subst hA
    refine cR ?_
    show mW cmp rec e _ _ = _
    have : decide (e < (k : Int)) = false := by simp only [List.length_nil] at hk; simp; omega
    simp only [mW, this, cond_false]
    simp
  | succ n ih =>
    intro A R k hn hk hl
    obtain ⟨A', y, rfl⟩ : ∃ A' y, A = A' ++ [y] := by
      rcases List.eq_nil_or_concat A with h | ⟨A', y, h⟩
      · rw [h] at hn; simp at hn
      · exact ⟨A', y, by simpa using h⟩
    simp only [List.length_append, List.length_cons, List.length_nil] at hl hk hn
    have h1 : decide (e < (k : Int)) = true := by simp; omega
    have hw : IntKind.i64.wrap ((k : Int) - 1) = ((Q.length + A'.length : Nat) : Int) := by rw [wr (by omega) (by omega)]; omega
    have b1 : 0 ≤ (k : Int) ∧ (k : Int) < ((List.length (Q ++ (A' ++ [y]) ++ x :: R) : Nat) : Int) := ⟨by omega, by simp only [List.length_append, List.length_cons, List.length_nil]; omega⟩
    have b2 : 0 ≤ ((Q.length + A'.length : Nat) : Int) ∧ ((Q.length + A'.length : Nat) : Int) < ((List.length (Q ++ (A' ++ [y]) ++ x :: R) : Nat) : Int) := ⟨by omega, by simp only [List.length_append, List.length_cons, List.length_nil]; omega⟩
    have g1 : (Q ++ (A' ++ [y]) ++ x :: R).getD k default = x := oX (Q := Q ++ (A' ++ [y])) rfl (by simp; omega)
    have g2 : (Q ++ (A' ++ [y]) ++ x :: R).getD (Q.length + A'.length) default = y := oX (Q := Q ++ A') (R := x :: R) (by simp) (by simp)
    have hb : (fun s : List α × Int => mW cmp rec e s.1 s.2) (Q ++ (A' ++ [y]) ++ x :: R, (k : Int)) = some (.inl (Q ++ A' ++ x :: (y :: R), ((Q.length + A'.length : Nat) : Int))) := by
      show mW cmp rec e _ _ = _
      simp only [mW, h1, cond_true, hw, bE b1, bE b2, Int.toNat_natCast, g1, g2]
      rw [BK (Q := Q ++ (A' ++ [y])) (x := x) (R := R) rfl (by simp; omega), BK (Q := Q ++ A') (x := y) (R := y :: R) (by simp) (by simp)]
    rw [eW hb, ih A' (y :: R) (Q.length + A'.length) (by omega) rfl (by simp only [List.length_append, List.length_cons]; omega)]
    simp

def RH (cmp : α → α → Option Int) (le : α → α → Prop) (P A B S : List α) (d : List α) (a m b : Int) : Prop :=
  (∃ r, HU le P A B S r ∧ ∀ rec, dV cmp rec d a m b = some r) ∨
  (∃ A1 A2 B1 B2, A = A1 ++ A2 ∧ B = B1 ++ B2 ∧ 0 < A1.length + B1.length ∧ 0 < A2.length + B2.length ∧ (∀ x ∈ A1 ++ B1, ∀ y ∈ A2 ++ B2, le x y) ∧
    ∀ rec, dV cmp rec d a m b = (cond (decide (A1 ≠ [] ∧ B1 ≠ [])) (rec (P ++ A1 ++ B1 ++ A2 ++ B2 ++ S) a (a + (A1.length : Nat)) (a + ((A1.length + B1.length : Nat) : Int))) (some (P ++ A1 ++ B1 ++ A2 ++ B2 ++ S))).bind fun x =>
      cond (decide (A2 ≠ [] ∧ B2 ≠ [])) (rec x (a + ((A1.length + B1.length : Nat) : Int)) (a + ((A1.length + B1.length + A2.length : Nat) : Int)) b) (some x))

theorem WD (C : Cmp ok le cmp) {P B S : List α} {x : α} {a m b : Int} (hx : ok x) (hB : Oks ok B) (hs : Srt le B) (ha : a = (P.length : Nat)) (hm : m = ((P.length + 1 : Nat) : Int)) (hb : b = ((P.length + 1 + B.length : Nat) : Int)) (hl : (P ++ x :: B ++ S).length ≤ 1099511627776) :
    ∃ r, HU le P [x] B S r ∧ ∀ rec, dV cmp rec (P ++ x :: B ++ S) a m b = some r := by
  have hl' := hl
  simp only [List.length_append, List.length_cons] at hl'
  have hgx : (P ++ x :: B ++ S).getD P.length default = x := oX (Q := P) (R := B ++ S) (by simp) rfl
  have hgb : ∀ k, k < B.length → (P ++ x :: B ++ S).getD (P.length + 1 + k) default = B.getD k default := fun k hk => CE (P := P ++ [x]) (B := B) (S := S) (by simp) (by simp) hk
  have hbin : ∀ rec, ∃ s : Nat, P.length + 1 ≤ s ∧ s ≤ P.length + 1 + B.length ∧ (s = P.length + 1 ∨ ¬ le x (B.getD (s - 1 - (P.length + 1)) default)) ∧ (s = P.length + 1 + B.length ∨ ¬ ¬ le x (B.getD (s - (P.length + 1)) default)) ∧
      lp (fun s : List α × Int × Int => mX cmp rec a s.1 s.2.1 s.2.2) (P ++ x :: B ++ S, m, b) = some (P ++ x :: B ++ S, ((s : Nat) : Int)) := by
    intro rec
    rw [hm, hb]
    refine NA (lo := P.length + 1) (hi := P.length + 1 + B.length) (f := fun k => ¬ le x (B.getD (k - (P.length + 1)) default)) ?_ ?_ _ _ _ (Nat.le_refl _) (Nat.le_refl _) (by omega) (Nat.le_refl _) (Or.inl rfl) (Or.inl rfl)
    · intro i j h1 h2 h3
      have hh : (i + j) / 2 - (P.length + 1) < B.length := by omega
      have e1 : (P ++ x :: B ++ S).getD ((i + j) / 2) default = B.getD ((i + j) / 2 - (P.length + 1)) default := by
        have := hgb ((i + j) / 2 - (P.length + 1)) hh
        rwa [show P.length + 1 + ((i + j) / 2 - (P.length + 1)) = (i + j) / 2 by omega] at this
      obtain ⟨v, hc, hv⟩ := C.ans _ x (hB _ (cZ hh)) hx
      refine ⟨decide (v < 0), by simpa using hv, ?_⟩
      show mX cmp rec a _ _ _ = _
      have hlt : decide ((i : Int) < (j : Int)) = true := by simpa using h2
      have hadd : ((i : Int) + (j : Int)) = ((i + j : Nat) : Int) := by omega
      have w1 : IntKind.i64.wrap ((((i + j) / 2 : Nat) : Int) + 1) = (((i + j) / 2 + 1 : Nat) : Int) := by rw [wr (by omega) (by omega)]; omega
      simp only [mX, hlt, cond_true, hadd, half (s := i + j) (by omega), Int.toNat_natCast, ha, e1, hgx, hc, Option.bind_some, w1]
      rw [bE (by omega), bE ⟨by omega, by simp only [List.length_append, List.length_cons]; omega⟩, bE ⟨by omega, by simp only [List.length_append, List.length_cons]; omega⟩]
      by_cases hneg : v < 0 <;> simp [hneg]
    · intro i
      show mX cmp rec a _ _ _ = _
      have hlt : decide ((i : Int) < (i : Int)) = false := by simp
      simp only [mX, hlt, cond_false]
  obtain ⟨s, s1, s2, s3, s4, s5⟩ := hbin (fun _ _ _ _ => none)
  obtain ⟨t, rfl⟩ : ∃ t, s = P.length + 1 + t := ⟨s - (P.length + 1), by omega⟩
  have ht : t ≤ B.length := by omega
  have hx1 : ∀ i, i < t → le (B.getD i default) x := fun i hi => by
    have h3 : ¬ le x (B.getD (t - 1) default) := by
      rcases s3 with h | h
      · omega
      · rwa [show P.length + 1 + t - 1 - (P.length + 1) = t - 1 by omega] at h
    have h4 : le (B.getD (t - 1) default) x := by
      rcases C.total x _ hx (hB _ (cZ (show t - 1 < B.length by omega))) with h | h
      · exact absurd h h3
      · exact h
    exact C.trans _ _ _ (hB _ (cZ (by omega))) (hB _ (cZ (by omega))) hx (qR C hB hs (show i ≤ t - 1 by omega) (by omega)) h4
  have hx2 : ∀ j, t ≤ j → j < B.length → le x (B.getD j default) := fun j hj hj' => by
    have h3 : le x (B.getD t default) := by
      rcases s4 with h | h
      · omega
      · rw [show P.length + 1 + t - (P.length + 1) = t by omega] at h
        exact Classical.not_not.1 h
    exact C.trans _ _ _ hx (hB _ (cZ (by omega))) (hB _ (cZ hj')) h3 (qR C hB hs hj hj')
  have hBs : B.take t ++ B.drop t = B := List.take_append_drop t B
  have hlt : (B.take t).length = t := by rw [List.length_take]; omega
  refine ⟨P ++ (B.take t ++ x :: B.drop t) ++ S, ⟨_, ?_, ?_, rfl⟩, fun rec => ?_⟩
  · have := List.perm_middle (a := x) (l₁ := B.take t) (l₂ := B.drop t)
    rw [hBs] at this; exact this
  · simp only [Srt, List.pairwise_append, List.pairwise_cons]
    refine ⟨ND hs t, ⟨fun z hz => ?_, MV hs t⟩, fun y hy z hz => ?_⟩
    · obtain ⟨j, j1, j2, rfl⟩ := tG hz
      exact hx2 j j1 j2
    · obtain ⟨i, i1, i2, rfl⟩ := CS hy
      rcases List.mem_cons.1 hz with rfl | hz
      · exact hx1 i i1
      · obtain ⟨j, j1, j2, rfl⟩ := tG hz
        exact qR C hB hs (by omega) j2
  · have h1 : decide (IntKind.i64.wrap (m - a) = 1) = true := by rw [wr (by omega) (by omega)]; simp; omega
    have s5' : lp (fun s : List α × Int × Int => mX cmp rec a s.1 s.2.1 s.2.2) (P ++ x :: B ++ S, m, b) = some (P ++ x :: B ++ S, ((P.length + 1 + t : Nat) : Int)) := s5
    simp only [dV, h1, cond_true, BH, s5', Option.bind_some, BV, CA]
    have hmv := YQ (cmp := cmp) (rec := rec) (e := ((P.length + 1 + t : Nat) : Int)) (x := x) (B.take t) P (B.drop t ++ S) P.length rfl (by rw [hlt]; congr 1; omega) (by simp only [List.length_append, List.length_cons, List.length_drop]; omega)
    have hd : P ++ x :: B.take t ++ (B.drop t ++ S) = P ++ x :: B ++ S := by
      have : P ++ x :: B.take t ++ (B.drop t ++ S) = P ++ x :: (B.take t ++ B.drop t) ++ S := by simp only [List.append_assoc, List.cons_append]
      rw [this, hBs]
    rw [hd] at hmv
    rw [ha, hmv]
    simp [CB]

theorem WO (C : Cmp ok le cmp) {P A S : List α} {x : α} {a m b : Int} (hx : ok x) (hA : Oks ok A) (hs : Srt le A) (hA1 : A.length ≠ 1) (ha : a = (P.length : Nat)) (hm : m = ((P.length + A.length : Nat) : Int)) (hb : b = ((P.length + A.length + 1 : Nat) : Int)) (hl : (P ++ A ++ x :: S).length ≤ 1099511627776) :
    ∃ r, HU le P A [x] S r ∧ ∀ rec, dV cmp rec (P ++ A ++ x :: S) a m b = some r := by
  have hl' := hl
  simp only [List.length_append, List.length_cons] at hl'
  have hgx : (P ++ A ++ x :: S).getD (P.length + A.length) default = x := oX (Q := P ++ A) (R := S) rfl (by simp)
  have hga : ∀ k, k < A.length → (P ++ A ++ x :: S).getD (P.length + k) default = A.getD k default := fun k hk => CE (P := P) (B := A) (S := x :: S) rfl rfl hk
  have hbin : ∀ rec, ∃ s : Nat, P.length ≤ s ∧ s ≤ P.length + A.length ∧ (s = P.length ∨ le (A.getD (s - 1 - P.length) default) x) ∧ (s = P.length + A.length ∨ ¬ le (A.getD (s - P.length) default) x) ∧
      lp (fun s : List α × Int × Int => mU cmp rec m s.1 s.2.1 s.2.2) (P ++ A ++ x :: S, a, m) = some (P ++ A ++ x :: S, ((s : Nat) : Int)) := by
    intro rec
    rw [ha, hm]
    refine NA (lo := P.length) (hi := P.length + A.length) (f := fun k => le (A.getD (k - P.length) default) x) ?_ ?_ _ _ _ (Nat.le_refl _) (Nat.le_refl _) (by omega) (Nat.le_refl _) (Or.inl rfl) (Or.inl rfl)
    · intro i j h1 h2 h3
      have hh : (i + j) / 2 - P.length < A.length := by omega
      have e1 : (P ++ A ++ x :: S).getD ((i + j) / 2) default = A.getD ((i + j) / 2 - P.length) default := by
        have := hga ((i + j) / 2 - P.length) hh
        rwa [show P.length + ((i + j) / 2 - P.length) = (i + j) / 2 by omega] at this
      obtain ⟨v, hc, hv⟩ := C.ans x _ hx (hA _ (cZ hh))
      refine ⟨!decide (v < 0), by simp only [Bool.not_eq_true', decide_eq_false_iff_not, hv, Classical.not_not], ?_⟩
      show mU cmp rec _ _ _ _ = _
      have hlt : decide ((i : Int) < (j : Int)) = true := by simpa using h2
      have hadd : ((i : Int) + (j : Int)) = ((i + j : Nat) : Int) := by omega
      have w1 : IntKind.i64.wrap ((((i + j) / 2 : Nat) : Int) + 1) = (((i + j) / 2 + 1 : Nat) : Int) := by rw [wr (by omega) (by omega)]; omega
      simp only [mU, hlt, cond_true, hadd, half (s := i + j) (by omega), Int.toNat_natCast, e1, hgx, hc, Option.bind_some, w1]
      rw [bE (by omega), bE ⟨by omega, by simp only [List.length_append, List.length_cons]; omega⟩, bE ⟨by omega, by simp only [List.length_append, List.length_cons]; omega⟩]
      by_cases hneg : v < 0 <;> simp [hneg]
    · intro i
      show mU cmp rec _ _ _ _ = _
      have hlt : decide ((i : Int) < (i : Int)) = false := by simp
      simp only [mU, hlt, cond_false]
  obtain ⟨s, s1, s2, s3, s4, s5⟩ := hbin (fun _ _ _ _ => none)
  obtain ⟨t, rfl⟩ : ∃ t, s = P.length + t := ⟨s - P.length, by omega⟩
  have ht : t ≤ A.length := by omega
  have hx1 : ∀ i, i < t → le (A.getD i default) x := fun i hi => by
    have h4 : le (A.getD (t - 1) default) x := by
      rcases s3 with h | h
      · omega
      · rwa [show P.length + t - 1 - P.length = t - 1 by omega] at h
    exact C.trans _ _ _ (hA _ (cZ (by omega))) (hA _ (cZ (by omega))) hx (qR C hA hs (show i ≤ t - 1 by omega) (by omega)) h4
  have hx2 : ∀ j, t ≤ j → j < A.length → le x (A.getD j default) := fun j hj hj' => by
    have h3 : le x (A.getD t default) := by
      rcases s4 with h | h
      · omega
      · rw [show P.length + t - P.length = t by omega] at h
        rcases C.total x _ hx (hA _ (cZ (show t < A.length by omega))) with h' | h'
        · exact h'
        · exact absurd h' h
    exact C.trans _ _ _ hx (hA _ (cZ (by omega))) (hA _ (cZ hj')) h3 (qR C hA hs hj hj')
  have hAs : A.take t ++ A.drop t = A := List.take_append_drop t A
  have hlt : (A.take t).length = t := by rw [List.length_take]; omega
  refine ⟨P ++ (A.take t ++ x :: A.drop t) ++ S, ⟨_, ?_, ?_, rfl⟩, fun rec => ?_⟩
  · have := List.perm_middle (a := x) (l₁ := A.take t) (l₂ := A.drop t)
    rw [hAs] at this
    exact this.trans (by simpa using (List.perm_append_comm (l₁ := [x]) (l₂ := A)))
  · simp only [Srt, List.pairwise_append, List.pairwise_cons]
    refine ⟨ND hs t, ⟨fun z hz => ?_, MV hs t⟩, fun y hy z hz => ?_⟩
    · obtain ⟨j, j1, j2, rfl⟩ := tG hz
      exact hx2 j j1 j2
    · obtain ⟨i, i1, i2, rfl⟩ := CS hy
      rcases List.mem_cons.1 hz with rfl | hz
      · exact hx1 i i1
      · obtain ⟨j, j1, j2, rfl⟩ := tG hz
        exact qR C hA hs (by omega) j2
  · have h1 : decide (IntKind.i64.wrap (m - a) = 1) = false := by rw [wr (by omega) (by omega)]; simp; omega
    have h2 : decide (IntKind.i64.wrap (b - m) = 1) = true := by rw [wr (by omega) (by omega)]; simp; omega
    have s5' : lp (fun s : List α × Int × Int => mU cmp rec m s.1 s.2.1 s.2.2) (P ++ A ++ x :: S, a, m) = some (P ++ A ++ x :: S, ((P.length + t : Nat) : Int)) := s5
    simp only [dV, h1, cond_false, yO, h2, cond_true, BO, s5', Option.bind_some, DL, BR]
    have hmv := ZH (cmp := cmp) (rec := rec) (e := ((P.length + t : Nat) : Int)) (x := x) (Q := P ++ A.take t) (by simp [hlt]) (A.drop t).length (A.drop t) S (P.length + A.length) rfl (by simp only [List.length_append, List.length_drop, hlt]; omega) (by simp only [List.length_append, List.length_cons, List.length_drop, hlt]; omega)
    have hd : P ++ A.take t ++ A.drop t ++ x :: S = P ++ A ++ x :: S := by
      have : P ++ A.take t ++ A.drop t ++ x :: S = P ++ (A.take t ++ A.drop t) ++ x :: S := by simp only [List.append_assoc]
      rw [this, hAs]
    rw [hd] at hmv
    rw [hm, hmv]
    simp [DI]

theorem ZW (C : Cmp ok le cmp) {P A B S : List α} {a m b : Int} (hA : Oks ok A) (hB : Oks ok B) (hsA : Srt le A) (hsB : Srt le B) (hA2 : 2 ≤ A.length) (hB2 : 2 ≤ B.length)
    (ha : a = (P.length : Nat)) (hm : m = ((P.length + A.length : Nat) : Int)) (hb : b = ((P.length + A.length + B.length : Nat) : Int)) (hl : (P ++ A ++ B ++ S).length ≤ 1099511627776) :
    RH cmp le P A B S (P ++ A ++ B ++ S) a m b := by
  right
  have hl' := hl
  simp only [List.length_append] at hl'
  -- the middle
  obtain ⟨mid, hmid⟩ : ∃ mid : Nat, mid = (P.length + (P.length + A.length + B.length)) / 2 := ⟨_, rfl⟩
  have hga : ∀ k, P.length ≤ k → k < P.length + A.length → (P ++ A ++ B ++ S).getD k default = A.getD (k - P.length) default := fun k h1 h2 => CE (P := P) (B := A) (S := B ++ S) (by simp) (by omega) (by omega)
  have hgb : ∀ k, P.length + A.length ≤ k → k < P.length + A.length + B.length → (P ++ A ++ B ++ S).getD k default = B.getD (k - (P.length + A.length)) default := fun k h1 h2 => CE (P := P ++ A) (B := B) (S := S) (by simp) (by simp; omega) (by omega)
  -- the search
  obtain ⟨lo, hi, hlo, hhi, hbnd, hlohi, hrange, hinit⟩ : ∃ lo hi : Nat, (lo = P.length ∨ lo + (P.length + A.length + B.length) = mid + (P.length + A.length)) ∧ (hi = P.length + A.length ∨ hi = mid) ∧ (P.length ≤ lo ∧ mid + (P.length + A.length) ≤ lo + (P.length + A.length + B.length) ∧ hi ≤ P.length + A.length ∧ hi ≤ mid) ∧ lo ≤ hi ∧
      (∀ c, lo ≤ c → c < hi → P.length ≤ c ∧ c < P.length + A.length ∧ P.length + A.length ≤ mid + (P.length + A.length) - 1 - c ∧ mid + (P.length + A.length) - 1 - c < P.length + A.length + B.length) ∧
      (∀ rec, uP cmp rec (P ++ A ++ B ++ S) a m b = uN cmp rec (P ++ A ++ B ++ S) a m b (mid : Int) ((mid + (P.length + A.length) : Nat) : Int) (lo : Int) (hi : Int)) := by
    have hw0 : IntKind.i64.wrap (Int.fdiv (IntKind.u64.wrap (IntKind.i64.wrap (a + b))) (2 ^ (min (Int.toNat (1 : Int)) 64))) = ((mid : Nat) : Int) := by
      rw [show a + b = ((P.length + (P.length + A.length + B.length) : Nat) : Int) by omega, half (by omega), hmid]
    have hw1 : IntKind.i64.wrap ((mid : Int) + m) = ((mid + (P.length + A.length) : Nat) : Int) := by rw [wr (by omega) (by omega)]; omega
    by_cases hc : mid < P.length + A.length
    · refine ⟨mid + (P.length + A.length) - (P.length + A.length + B.length), mid, Or.inr (by omega), Or.inr (by omega), by omega, by omega, fun c h1 h2 => ⟨by omega, by omega, by omega, by omega⟩, fun rec => ?_⟩
      have hlt : decide ((mid : Int) < m) = true := by simp; omega
      simp only [uP, hw0, hlt, cond_true, hw1]
      rw [bE (by omega), show IntKind.i64.wrap (((mid + (P.length + A.length) : Nat) : Int) - b) = ((mid + (P.length + A.length) - (P.length + A.length + B.length) : Nat) : Int) by rw [wr (by omega) (by omega)]; omega]
    · refine ⟨P.length, P.length + A.length, Or.inl rfl, Or.inl rfl, by omega, by omega, fun c h1 h2 => ⟨by omega, by omega, by omega, by omega⟩, fun rec => ?_⟩
      have hlt : decide ((mid : Int) < m) = false := by simp; omega
      simp only [uP, hw0, hlt, cond_false, hw1]
      rw [bE (by omega)]
      rw [ha, hm]
  have hbin : ∀ rec, ∃ s : Nat, lo ≤ s ∧ s ≤ hi ∧ (s = lo ∨ le (A.getD (s - 1 - P.length) default) (B.getD (mid + (P.length + A.length) - 1 - (s - 1) - (P.length + A.length)) default)) ∧ (s = hi ∨ ¬ le (A.getD (s - P.length) default) (B.getD (mid + (P.length + A.length) - 1 - s - (P.length + A.length)) default)) ∧
      lp (fun s : List α × Int × Int => nK cmp rec a m b (mid : Int) ((mid + (P.length + A.length) : Nat) : Int) ((mid + (P.length + A.length) - 1 : Nat) : Int) s.1 s.2.1 s.2.2) (P ++ A ++ B ++ S, (lo : Int), (hi : Int)) = some (P ++ A ++ B ++ S, ((s : Nat) : Int)) := by
    intro rec
    refine NA (lo := lo) (hi := hi) (f := fun k => le (A.getD (k - P.length) default) (B.getD (mid + (P.length + A.length) - 1 - k - (P.length + A.length)) default)) ?_ ?_ _ _ _ (Nat.le_refl _) (Nat.le_refl _) hlohi (Nat.le_refl _) (Or.inl rfl) (Or.inl rfl)
    · intro i j h1 h2 h3
      obtain ⟨r1, r2, r3, r4⟩ := hrange ((i + j) / 2) (by omega) (by omega)
      have e1 := hga ((i + j) / 2) r1 r2
      have e2 := hgb (mid + (P.length + A.length) - 1 - (i + j) / 2) r3 r4
      obtain ⟨v, hc, hv⟩ := C.ans (B.getD (mid + (P.length + A.length) - 1 - (i + j) / 2 - (P.length + A.length)) default) (A.getD ((i + j) / 2 - P.length) default) (hB _ (cZ (by omega))) (hA _ (cZ (by omega)))
      refine ⟨!decide (v < 0), by simp only [Bool.not_eq_true', decide_eq_false_iff_not, hv, Classical.not_not], ?_⟩
      show nK cmp rec _ _ _ _ _ _ _ _ _ = _
      have hlt : decide ((i : Int) < (j : Int)) = true := by simpa using h2
      have hadd : ((i : Int) + (j : Int)) = ((i + j : Nat) : Int) := by omega
      have w1 : IntKind.i64.wrap ((((i + j) / 2 : Nat) : Int) + 1) = (((i + j) / 2 + 1 : Nat) : Int) := by rw [wr (by omega) (by omega)]; omega
      have w2 : IntKind.i64.wrap (((mid + (P.length + A.length) - 1 : Nat) : Int) - (((i + j) / 2 : Nat) : Int)) = ((mid + (P.length + A.length) - 1 - (i + j) / 2 : Nat) : Int) := by rw [wr (by omega) (by omega)]; omega
      simp only [nK, hlt, cond_true, hadd, half (s := i + j) (by omega), w1, w2, Int.toNat_natCast, e1, e2, hc, Option.bind_some]
      rw [bE (by omega), bE ⟨by omega, by simp only [List.length_append]; omega⟩, bE ⟨by omega, by simp only [List.length_append]; omega⟩]
      by_cases hneg : v < 0 <;> simp [hneg]
    · intro i
      show nK cmp rec _ _ _ _ _ _ _ _ _ = _
      have hlt : decide ((i : Int) < (i : Int)) = false := by simp
      simp only [nK, hlt, cond_false]
  obtain ⟨s, s1, s2, s3, s4, s5⟩ := hbin (fun _ _ _ _ => none)
  have hsA0 : P.length ≤ s ∧ s ≤ P.length + A.length := by
    omega
  have hsB0 : P.length + A.length ≤ mid + (P.length + A.length) - s ∧ mid + (P.length + A.length) - s ≤ P.length + A.length + B.length := by
    omega
  obtain ⟨t, rfl⟩ : ∃ t, s = P.length + t := ⟨s - P.length, by omega⟩
  obtain ⟨u, hu⟩ : ∃ u, mid + (P.length + A.length) - (P.length + t) = P.length + A.length + u := ⟨mid + (P.length + A.length) - (P.length + t) - (P.length + A.length), by omega⟩
  have htA : t ≤ A.length := by omega
  have huB : u ≤ B.length := by omega
  have hmtu : mid = P.length + t + u := by omega
  have hAs : A.take t ++ A.drop t = A := List.take_append_drop t A
  have hBs : B.take u ++ B.drop u = B := List.take_append_drop u B
  have hlA1 : (A.take t).length = t := by rw [List.length_take]; omega
  have hlA2 : (A.drop t).length = A.length - t := by rw [List.length_drop]
  have hlB1 : (B.take u).length = u := by rw [List.length_take]; omega
  have hlB2 : (B.drop u).length = B.length - u := by rw [List.length_drop]
  refine ⟨A.take t, A.drop t, B.take u, B.drop u, hAs.symm, hBs.symm, by rw [hlA1, hlB1]; omega, by rw [hlA2, hlB2]; omega, ?_, fun rec => ?_⟩
  · -- who stands ahead of whom
    intro x hx y hy
    rcases List.mem_append.1 hx with hx | hx
    · obtain ⟨i, i1, i2, rfl⟩ := CS hx
      rcases List.mem_append.1 hy with hy | hy
      · obtain ⟨j, j1, j2, rfl⟩ := tG hy
        exact qR C hA hsA (by omega) j2
      · obtain ⟨j, j1, j2, rfl⟩ := tG hy
        have h3 : le (A.getD (t - 1) default) (B.getD u default) := by
          rcases s3 with h | h
          · rcases hlo with h' | h' <;> omega
          · rwa [show P.length + t - 1 - P.length = t - 1 by omega, show mid + (P.length + A.length) - 1 - (P.length + t - 1) - (P.length + A.length) = u by omega] at h
        exact C.trans _ _ _ (hA _ (cZ i2)) (hA _ (cZ (by omega))) (hB _ (cZ j2)) (qR C hA hsA (show i ≤ t - 1 by omega) (by omega))
          (C.trans _ _ _ (hA _ (cZ (by omega))) (hB _ (cZ (by omega))) (hB _ (cZ j2)) h3 (qR C hB hsB j1 j2))
    · obtain ⟨i, i1, i2, rfl⟩ := CS hx
      rcases List.mem_append.1 hy with hy | hy
      · obtain ⟨j, j1, j2, rfl⟩ := tG hy
        have h3 : le (B.getD (u - 1) default) (A.getD t default) := by
          have h0 : ¬ le (A.getD t default) (B.getD (u - 1) default) := by
            rcases s4 with h | h
            · rcases hhi with h' | h' <;> omega
            · rwa [show P.length + t - P.length = t by omega, show mid + (P.length + A.length) - 1 - (P.length + t) - (P.length + A.length) = u - 1 by omega] at h
          rcases C.total _ _ (hA _ (cZ (show t < A.length by omega))) (hB _ (cZ (show u - 1 < B.length by omega))) with h | h
          · exact absurd h h0
          · exact h
        exact C.trans _ _ _ (hB _ (cZ i2)) (hB _ (cZ (by omega))) (hA _ (cZ j2)) (qR C hB hsB (show i ≤ u - 1 by omega) (by omega))
          (C.trans _ _ _ (hB _ (cZ (by omega))) (hA _ (cZ (by omega))) (hA _ (cZ j2)) h3 (qR C hA hsA j1 j2))
      · obtain ⟨j, j1, j2, rfl⟩ := tG hy
        exact qR C hB hsB (by omega) j2
  · have h1 : decide (IntKind.i64.wrap (m - a) = 1) = false := by rw [wr (by omega) (by omega)]; simp; omega
    have h2 : decide (IntKind.i64.wrap (b - m) = 1) = false := by rw [wr (by omega) (by omega)]; simp; omega
    have s5' : lp (fun s : List α × Int × Int => nK cmp rec a m b (mid : Int) ((mid + (P.length + A.length) : Nat) : Int) ((mid + (P.length + A.length) - 1 : Nat) : Int) s.1 s.2.1 s.2.2) (P ++ A ++ B ++ S, (lo : Int), (hi : Int)) = some (P ++ A ++ B ++ S, ((P.length + t : Nat) : Int)) := s5
    have hp : IntKind.i64.wrap (((mid + (P.length + A.length) : Nat) : Int) - 1) = ((mid + (P.length + A.length) - 1 : Nat) : Int) := by rw [wr (by omega) (by omega)]; omega
    have he : IntKind.i64.wrap (((mid + (P.length + A.length) : Nat) : Int) - ((P.length + t : Nat) : Int)) = ((P.length + A.length + u : Nat) : Int) := by rw [wr (by omega) (by omega)]; omega
    simp only [dV, h1, cond_false, yO, h2, hinit rec, uN, DJ, hp, s5', Option.bind_some, DK, he]
    -- the turn
    have hd : P ++ A ++ B ++ S = (P ++ A.take t) ++ A.drop t ++ B.take u ++ (B.drop u ++ S) := by
      have : (P ++ A.take t) ++ A.drop t ++ B.take u ++ (B.drop u ++ S) = P ++ (A.take t ++ A.drop t) ++ (B.take u ++ B.drop u) ++ S := by simp only [List.append_assoc]
      rw [this, hAs, hBs]
    have hrot : cond (decide (((P.length + t : Nat) : Int) < m) && decide (m < ((P.length + A.length + u : Nat) : Int)))
        ((AL (P ++ A ++ B ++ S) ((P.length + t : Nat) : Int) m ((P.length + A.length + u : Nat) : Int) cmp).bind fun x10 => oU cmp rec x10 a b (mid : Int) ((P.length + t : Nat) : Int) ((P.length + A.length + u : Nat) : Int))
        (oU cmp rec (P ++ A ++ B ++ S) a b (mid : Int) ((P.length + t : Nat) : Int) ((P.length + A.length + u : Nat) : Int))
        = oU cmp rec (P ++ A.take t ++ B.take u ++ A.drop t ++ B.drop u ++ S) a b (mid : Int) ((P.length + t : Nat) : Int) ((P.length + A.length + u : Nat) : Int) := by
      by_cases hc : t < A.length ∧ 0 < u
      · have : (decide (((P.length + t : Nat) : Int) < m) && decide (m < ((P.length + A.length + u : Nat) : Int))) = true := by simp; omega
        rw [this, cond_true, aAq (Q := P ++ A.take t) (X := A.drop t) (Y := B.take u) (R := B.drop u ++ S) hd (fun h => by rw [h] at hlA2; simp at hlA2; omega) (fun h => by rw [h] at hlB1; simp at hlB1; omega)
          (by simp only [List.length_append, hlA1]) (by simp only [List.length_append, hlA1, hlA2]; rw [hm]; congr 1; omega) (by simp only [List.length_append, hlA1, hlA2, hlB1]; congr 1; omega) hl]
        simp
      · have : (decide (((P.length + t : Nat) : Int) < m) && decide (m < ((P.length + A.length + u : Nat) : Int))) = false := by
          rw [Bool.eq_false_iff]; intro h; simp at h; apply hc; omega
        rw [this, cond_false, hd]
        congr 1
        by_cases h0 : t < A.length
        · have : u = 0 := by omega
          subst this; simp
        · have hz : A.drop t = [] := List.drop_eq_nil_of_le (by omega)
          simp only [hz, List.append_nil, List.append_assoc, List.nil_append]
    rw [hrot]
    have hne1 : decide (A.take t ≠ [] ∧ B.take u ≠ []) = (decide (a < ((P.length + t : Nat) : Int)) && decide (((P.length + t : Nat) : Int) < (mid : Int))) := by
      have q1 : A.take t ≠ [] ↔ 0 < t := by rw [← List.length_pos_iff, hlA1]
      have q2 : B.take u ≠ [] ↔ 0 < u := by rw [← List.length_pos_iff, hlB1]
      rw [Bool.eq_iff_iff]; simp [q1, q2]; omega
    have hne2 : decide (A.drop t ≠ [] ∧ B.drop u ≠ []) = (decide ((mid : Int) < ((P.length + A.length + u : Nat) : Int)) && decide (((P.length + A.length + u : Nat) : Int) < b)) := by
      have q1 : A.drop t ≠ [] ↔ t < A.length := by rw [← List.length_pos_iff, hlA2]; omega
      have q2 : B.drop u ≠ [] ↔ u < B.length := by rw [← List.length_pos_iff, hlB2]; omega
      rw [Bool.eq_iff_iff]; simp [q1, q2]; omega
    rw [hne1, hne2, hlA1, hlB1, hlA2]
    have f1 : a + ((t : Nat) : Int) = ((P.length + t : Nat) : Int) := by omega
    have f2 : a + ((t + u : Nat) : Int) = (mid : Int) := by omega
    have f3 : a + ((t + u + (A.length - t) : Nat) : Int) = ((P.length + A.length + u : Nat) : Int) := by omega
    rw [f1, f2, f3]
    simp only [oU, yJ]
    cases (decide (a < ((P.length + t : Nat) : Int)) && decide (((P.length + t : Nat) : Int) < (mid : Int))) <;> simp only [cond_true, cond_false, Option.bind_some, Option.bind_fun_some]

end sym
end Go.Abs
namespace Go.Abs
open Go
variable {α : Type} [Inhabited α] {ok : α → Prop} {le : α → α → Prop} {cmp : α → α → Option Int}
theorem ZI (C : Cmp ok le cmp) {P A B S : List α} {a m b : Int} (hA : A ≠ []) (hB : B ≠ []) (oA : Oks ok A) (oB : Oks ok B) (sA : Srt le A) (sB : Srt le B)
    (ha : a = (P.length : Nat)) (hm : m = ((P.length + A.length : Nat) : Int)) (hb : b = ((P.length + A.length + B.length : Nat) : Int)) (hl : (P ++ A ++ B ++ S).length ≤ 1099511627776) : RH cmp le P A B S (P ++ A ++ B ++ S) a m b := by
  by_cases h1 : A.length = 1
  · obtain ⟨x, rfl⟩ := List.length_eq_one_iff.1 h1
    left
    obtain ⟨r, h, h'⟩ := WD C (P := P) (S := S) (x := x) (oA x (by simp)) oB sB ha (by simpa using hm) (by simpa using hb) (by simpa using hl)
    exact ⟨r, h, fun rec => by have := h' rec; simpa using this⟩
  · by_cases h2 : B.length = 1
    · obtain ⟨x, rfl⟩ := List.length_eq_one_iff.1 h2
      left
      obtain ⟨r, h, h'⟩ := WO C (P := P) (S := S) (x := x) (oB x (by simp)) oA sA h1 ha hm (by simpa using hb) (by simpa using hl)
      exact ⟨r, h, fun rec => by have := h' rec; simpa using this⟩
    · have p1 := List.length_pos_iff.2 hA
      have p2 := List.length_pos_iff.2 hB
      exact ZW C oA oB sA sB (by omega) (by omega) ha hm hb hl

theorem HF (C : Cmp ok le cmp) : ∀ (k : Nat) (P A B S : List α) (a m b : Int), A ≠ [] → B ≠ [] → Oks ok A → Oks ok B → Srt le A → Srt le B →
    a = (P.length : Nat) → m = ((P.length + A.length : Nat) : Int) → b = ((P.length + A.length + B.length : Nat) : Int) → (P ++ A ++ B ++ S).length ≤ 1099511627776 →
    (∀ r, dW cmp k (P ++ A ++ B ++ S) a m b = some r → HU le P A B S r) ∧ (A.length + B.length ≤ k → ∃ r, dW cmp k (P ++ A ++ B ++ S) a m b = some r)
  | 0, P, A, B, S, a, m, b, hA, hB, oA, oB, sA, sB, ha, hm, hb, hl => by
    refine ⟨fun r h => by simp [dW] at h, fun h => ?_⟩
    exact absurd (List.length_eq_zero_iff.1 (by omega)) hA
  | k + 1, P, A, B, S, a, m, b, hA, hB, oA, oB, sA, sB, ha, hm, hb, hl => by
    have part : ∀ (P' A' B' S' : List α) (a' m' b' : Int), Oks ok A' → Oks ok B' → Srt le A' → Srt le B' → a' = (P'.length : Nat) → m' = ((P'.length + A'.length : Nat) : Int) → b' = ((P'.length + A'.length + B'.length : Nat) : Int) → (P' ++ A' ++ B' ++ S').length ≤ 1099511627776 →
        (∀ r, cond (decide (A' ≠ [] ∧ B' ≠ [])) (dW cmp k (P' ++ A' ++ B' ++ S') a' m' b') (some (P' ++ A' ++ B' ++ S')) = some r → HU le P' A' B' S' r) ∧
        (A'.length + B'.length ≤ k → ∃ r, cond (decide (A' ≠ [] ∧ B' ≠ [])) (dW cmp k (P' ++ A' ++ B' ++ S') a' m' b') (some (P' ++ A' ++ B' ++ S')) = some r) := by
      intro P' A' B' S' a' m' b' oA' oB' sA' sB' ha' hm' hb' hl'
      by_cases h : A' ≠ [] ∧ B' ≠ []
      · rw [decide_eq_true h, cond_true]
        exact HF C k P' A' B' S' a' m' b' h.1 h.2 oA' oB' sA' sB' ha' hm' hb' hl'
      · rw [decide_eq_false h, cond_false]
        refine ⟨fun r hr => ?_, fun _ => ⟨_, rfl⟩⟩
        cases hr
        refine ⟨A' ++ B', List.Perm.refl _, ?_, by simp⟩
        by_cases h1 : A' = []
        · subst h1; simpa using sB'
        · have h2 : B' = [] := Classical.byContradiction fun h2 => h ⟨h1, h2⟩
          subst h2; simpa using sA'
    rcases ZI C hA hB oA oB sA sB ha hm hb hl with ⟨r, hr, hs⟩ | ⟨A1, A2, B1, B2, rfl, rfl, p1, p2, hcross, hs⟩
    · have e : dW cmp (k + 1) (P ++ A ++ B ++ S) a m b = some r := hs _
      exact ⟨fun r' h => by rw [e] at h; cases h; exact hr, fun _ => ⟨r, e⟩⟩
    · have e := hs (dW cmp k)
      rw [show dV cmp (dW cmp k) = dW cmp (k + 1) from rfl] at e
      have q1 := part P A1 B1 (A2 ++ B2 ++ S) a (a + (A1.length : Nat)) (a + ((A1.length + B1.length : Nat) : Int)) (fun x hx => oA x (by simp [hx])) (fun x hx => oB x (by simp [hx]))
        (List.pairwise_append.1 sA).1 (List.pairwise_append.1 sB).1 ha (by omega) (by omega) (by simp only [List.length_append] at hl ⊢; omega)
      have hd1 : P ++ A1 ++ B1 ++ A2 ++ B2 ++ S = P ++ A1 ++ B1 ++ (A2 ++ B2 ++ S) := by simp
      rw [hd1] at e
      have q2 : ∀ D1 : List α, D1.Perm (A1 ++ B1) → _ := fun D1 hD1 => part (P ++ D1) A2 B2 S (a + ((A1.length + B1.length : Nat) : Int)) (a + ((A1.length + B1.length + A2.length : Nat) : Int)) b (fun x hx => oA x (by simp [hx])) (fun x hx => oB x (by simp [hx]))
        (List.pairwise_append.1 sA).2.1 (List.pairwise_append.1 sB).2.1 (by have := hD1.length_eq; simp only [List.length_append] at this ⊢; omega) (by have := hD1.length_eq; simp only [List.length_append] at this ⊢; omega)
        (by have := hD1.length_eq; rw [hb]; simp only [List.length_append] at this ⊢; congr 1; omega) (by have := hD1.length_eq; simp only [List.length_append] at hl this ⊢; omega)
      refine ⟨fun r h => ?_, fun hk => ?_⟩
      · rw [e] at h
        obtain ⟨x, h1, h2⟩ := Option.bind_eq_some_iff.1 h
        obtain ⟨D1, d1, d2, rfl⟩ := q1.1 x h1
        have h2' : cond (decide (A2 ≠ [] ∧ B2 ≠ [])) (dW cmp k (P ++ D1 ++ A2 ++ B2 ++ S) (a + ((A1.length + B1.length : Nat) : Int)) (a + ((A1.length + B1.length + A2.length : Nat) : Int)) b) (some (P ++ D1 ++ A2 ++ B2 ++ S)) = some r := by
          have : P ++ D1 ++ (A2 ++ B2 ++ S) = P ++ D1 ++ A2 ++ B2 ++ S := by simp
          rw [this] at h2; exact h2
        obtain ⟨D2, f1, f2, rfl⟩ := (q2 D1 d1).1 r h2'
        refine ⟨D1 ++ D2, ?_, ?_, by simp⟩
        · refine (d1.append f1).trans ?_
          have : (B1 ++ (A2 ++ B2)).Perm (A2 ++ (B1 ++ B2)) := by
            have := (List.perm_append_comm (l₁ := B1) (l₂ := A2)).append_right B2
            simpa using this
          have := this.append_left A1
          simpa using this
        · rw [Srt, List.pairwise_append]
          exact ⟨d2, f2, fun x hx y hy => hcross x (d1.mem_iff.1 hx) y (f1.mem_iff.1 hy)⟩
      · simp only [List.length_append] at hk
        obtain ⟨x, hx⟩ := q1.2 (by omega)
        obtain ⟨D1, d1, d2, rfl⟩ := q1.1 x hx
        obtain ⟨r, hr⟩ := (q2 D1 d1).2 (by omega)
        refine ⟨r, ?_⟩
        rw [e, hx]
        have : P ++ D1 ++ (A2 ++ B2 ++ S) = P ++ D1 ++ A2 ++ B2 ++ S := by simp
        rw [this]; exact hr

theorem TE {β : Type} {g : Nat → Option β} (h : ∃ k r, g k = some r) : ∃ r, GK g = some r := by
  unfold GK
  rw [dif_pos h]
  exact Classical.choose_spec h

theorem VE (C : Cmp ok le cmp) {P A B S d : List α} {a m b : Int} (hd : d = P ++ A ++ B ++ S) (hA : A ≠ []) (hB : B ≠ []) (oA : Oks ok A) (oB : Oks ok B) (sA : Srt le A) (sB : Srt le B)
    (ha : a = (P.length : Nat)) (hm : m = ((P.length + A.length : Nat) : Int)) (hb : b = ((P.length + A.length + B.length : Nat) : Int)) (hl : d.length ≤ 1099511627776) :
    ∃ D, D.Perm (A ++ B) ∧ Srt le D ∧ nY d a m b cmp = some (P ++ D ++ S) := by
  subst hd
  unfold nY
  obtain ⟨r, hr⟩ := (HF C (A.length + B.length) P A B S a m b hA hB oA oB sA sB ha hm hb hl).2 (Nat.le_refl _)
  obtain ⟨r', hr'⟩ := TE (g := fun k => dW cmp k (P ++ A ++ B ++ S) a m b) ⟨_, r, hr⟩
  obtain ⟨k, hk⟩ := EH hr'
  obtain ⟨D, d1, d2, rfl⟩ := (HF C k P A B S a m b hA hB oA oB sA sB ha hm hb hl).1 r' hk
  exact ⟨D, d1, d2, hr'⟩

inductive mL {β : Type} (le : β → β → Prop) (n : Nat) : List β → Prop
  | last {l : List β} : l.length ≤ n → Srt le l → mL le n l
  | cons {x l : List β} : x.length = n → Srt le x → mL le n l → mL le n (x ++ l)

theorem mL.srt {β : Type} {le : β → β → Prop} {n : Nat} {l : List β} (h : mL le n l) (hl : l.length ≤ n) : Srt le l := by
  cases h with
  | last _ h => exact h
  | cons hx hs hr =>
    rename_i x r
    have : r = [] := List.length_eq_zero_iff.1 (by simp only [List.length_append] at hl; omega)
    subst this; simpa using hs

theorem mL.split {β : Type} {le : β → β → Prop} {n : Nat} {l : List β} (h : mL le n l) (hl : n < l.length) : ∃ x r, l = x ++ r ∧ x.length = n ∧ Srt le x ∧ mL le n r := by
  cases h with
  | last h' _ => omega
  | cons hx hs hr => exact ⟨_, _, rfl, hx, hs, hr⟩

theorem mL.aAi {β : Type} {le : β → β → Prop} {n : Nat} {l : List β} (hn : 0 < n) (h : mL le n l) (hl : 2 * n ≤ l.length) : ∃ x y r, l = x ++ y ++ r ∧ x.length = n ∧ y.length = n ∧ Srt le x ∧ Srt le y ∧ mL le n r := by
  obtain ⟨x, r, rfl, h1, h2, h3⟩ := h.split (by omega)
  simp only [List.length_append] at hl
  by_cases he : r.length = n
  · exact ⟨x, r, [], by simp, h1, he, h2, h3.srt (by omega), mL.last (by simp) List.Pairwise.nil⟩
  · obtain ⟨y, r', rfl, e1, e2, e3⟩ := h3.split (by omega)
    exact ⟨x, y, r', by simp, h1, e1, h2, e2, e3⟩

theorem Oks.perm {β : Type} {ok : β → Prop} {l l' : List β} (h : Oks ok l) (hp : l'.Perm l) : Oks ok l' := fun x hx => h x (hp.mem_iff.1 hx)

theorem aAj (C : Cmp ok le cmp) {n1 : Int} : ∀ (n : Nat) (F G : List α), G.length ≤ n → Oks ok G → n1 = ((F.length + G.length : Nat) : Int) → (F ++ G).length ≤ 1099511627776 →
    ∃ G1 G2, (G1 ++ G2).Perm G ∧ G2.length < 20 ∧ (∀ H, H.length ≤ 20 → Srt le H → mL le 20 (G1 ++ H)) ∧
      lp (fun s : List α × Int × Int => lQ cmp n1 20 s.1 s.2.1 s.2.2) (F ++ G, ((F.length : Nat) : Int), ((F.length + 20 : Nat) : Int)) = some (F ++ G1 ++ G2, ((F.length + G1.length : Nat) : Int)) := by
  intro n
  induction n with
  | zero =>
    intro F G hn hG h1 hl
    refine ⟨[], G, by simp, by omega, fun H h2 h3 => mL.last (by simpa using h2) (by simpa using h3), ?_⟩
    rw [cR (r := (F ++ G, ((F.length : Nat) : Int)))]
    · simp
    · have : decide (((F.length + 20 : Nat) : Int) ≤ n1) = false := by subst h1; simp; omega
      simp only [lQ, this, cond_false]
  | succ n ih =>
    intro F G hn hG h1 hl
    by_cases hg : G.length < 20
    · refine ⟨[], G, by simp, by omega, fun H h2 h3 => mL.last (by simpa using h2) (by simpa using h3), ?_⟩
      rw [cR (r := (F ++ G, ((F.length : Nat) : Int)))]
      · simp
      · have : decide (((F.length + 20 : Nat) : Int) ≤ n1) = false := by subst h1; simp; omega
        simp only [lQ, this, cond_false]
    · obtain ⟨X, R, rfl, hX⟩ : ∃ X R, G = X ++ R ∧ X.length = 20 := ⟨G.take 20, G.drop 20, (List.take_append_drop _ _).symm, by rw [List.length_take]; omega⟩
      simp only [List.length_append] at hn hl h1 hg
      obtain ⟨D, d1, d2, d3⟩ := VT C (P := F) (A := X) (T := R) (a := ((F.length : Nat) : Int)) (b := ((F.length + 20 : Nat) : Int)) rfl (by rw [hX]) (fun x hx => hG x (by simp [hx])) (by simp only [List.length_append]; omega)
      have hD : D.length = 20 := by rw [d1.length_eq, hX]
      obtain ⟨G1, G2, g1, g2, g3, g4⟩ := ih (F ++ D) R (by omega) (fun x hx => hG x (by simp [hx])) (by rw [h1]; simp only [List.length_append]; congr 1; omega) (by simp only [List.length_append]; omega)
      refine ⟨D ++ G1, G2, ?_, g2, fun H h2 h3 => ?_, ?_⟩
      · have := d1.append g1
        simpa using this
      · rw [List.append_assoc]; exact mL.cons hD d2 (g3 H h2 h3)
      · have hb : (fun s : List α × Int × Int => lQ cmp n1 20 s.1 s.2.1 s.2.2) (F ++ (X ++ R), ((F.length : Nat) : Int), ((F.length + 20 : Nat) : Int)) = some (.inl (F ++ D ++ R, (((F ++ D).length : Nat) : Int), (((F ++ D).length + 20 : Nat) : Int))) := by
          show lQ cmp n1 20 _ _ _ = _
          have : decide (((F.length + 20 : Nat) : Int) ≤ n1) = true := by subst h1; simp; omega
          simp only [lQ, this, cond_true]
          rw [show F ++ (X ++ R) = F ++ X ++ R by simp, d3]
          simp only [Option.bind_some, List.length_append, hD]
          rw [wr (by omega) (by omega)]
          congr 1
        rw [eW hb, g4]
        simp only [List.length_append, List.append_assoc]
        congr 2
        congr 1; omega

theorem aAB (C : Cmp ok le cmp) {n1 : Int} {bs : Nat} (hbs : 0 < bs) (hbs' : bs ≤ 1099511627776) : ∀ (n : Nat) (F G : List α), G.length ≤ n → Oks ok G → mL le bs G → n1 = ((F.length + G.length : Nat) : Int) → (F ++ G).length ≤ 1099511627776 →
    ∃ G1 G2, (G1 ++ G2).Perm G ∧ G2.length < 2 * bs ∧ mL le bs G2 ∧ (∀ H, H.length ≤ 2 * bs → Srt le H → mL le (2 * bs) (G1 ++ H)) ∧
      lp (fun s : List α × Int × Int => lT cmp n1 (bs : Int) s.1 s.2.1 s.2.2) (F ++ G, ((F.length : Nat) : Int), ((F.length + 2 * bs : Nat) : Int)) = some (F ++ G1 ++ G2, ((F.length + G1.length : Nat) : Int)) := by
  have stop : ∀ (F G : List α), mL le bs G → G.length < 2 * bs → n1 = ((F.length + G.length : Nat) : Int) → ∃ G1 G2, (G1 ++ G2).Perm G ∧ G2.length < 2 * bs ∧ mL le bs G2 ∧ (∀ H, H.length ≤ 2 * bs → Srt le H → mL le (2 * bs) (G1 ++ H)) ∧
      lp (fun s : List α × Int × Int => lT cmp n1 (bs : Int) s.1 s.2.1 s.2.2) (F ++ G, ((F.length : Nat) : Int), ((F.length + 2 * bs : Nat) : Int)) = some (F ++ G1 ++ G2, ((F.length + G1.length : Nat) : Int)) := by
    intro F G hG hg h1
    refine ⟨[], G, by simp, hg, hG, fun H h2 h3 => mL.last (by simpa using h2) (by simpa using h3), ?_⟩
    rw [cR (r := (F ++ G, ((F.length : Nat) : Int)))]
    · simp
    · have : decide (((F.length + 2 * bs : Nat) : Int) ≤ n1) = false := by subst h1; simp; omega
      show lT cmp n1 _ _ _ _ = _
      simp only [lT, this, cond_false]
  intro n
  induction n with
  | zero => intro F G hn _ hB h1 _; exact stop F G hB (by omega) h1
  | succ n ih =>
    intro F G hn hG hB h1 hl
    by_cases hg : G.length < 2 * bs
    · exact stop F G hB hg h1
    · obtain ⟨x, y, R, rfl, x1, y1, sx, sy, hR⟩ := hB.aAi hbs (by omega)
      simp only [List.length_append] at hn hl h1 hg
      obtain ⟨D, d1, d2, d3⟩ := VE C (P := F) (A := x) (B := y) (S := R) (d := F ++ (x ++ y ++ R)) (a := ((F.length : Nat) : Int)) (m := ((F.length + bs : Nat) : Int)) (b := ((F.length + 2 * bs : Nat) : Int)) (by simp) (fun h => by rw [h] at x1; simp at x1; omega) (fun h => by rw [h] at y1; simp at y1; omega)
        (fun z hz => hG z (by simp [hz])) (fun z hz => hG z (by simp [hz])) sx sy rfl (by rw [x1]) (by rw [x1, y1]; congr 1; omega) (by simp only [List.length_append]; omega)
      have hD : D.length = 2 * bs := by rw [d1.length_eq]; simp only [List.length_append]; omega
      obtain ⟨G1, G2, g1, g2, g3, g4, g5⟩ := ih (F ++ D) R (by omega) (fun z hz => hG z (by simp [hz])) hR (by rw [h1]; simp only [List.length_append]; congr 1; omega) (by simp only [List.length_append]; omega)
      refine ⟨D ++ G1, G2, ?_, g2, g3, fun H h2 h3 => ?_, ?_⟩
      · have := d1.append g1
        simpa using this
      · rw [List.append_assoc]; exact mL.cons hD d2 (g4 H h2 h3)
      · have hb : (fun s : List α × Int × Int => lT cmp n1 (bs : Int) s.1 s.2.1 s.2.2) (F ++ (x ++ y ++ R), ((F.length : Nat) : Int), ((F.length + 2 * bs : Nat) : Int)) = some (.inl (F ++ D ++ R, (((F ++ D).length : Nat) : Int), (((F ++ D).length + 2 * bs : Nat) : Int))) := by
          show lT cmp n1 _ _ _ _ = _
          have : decide (((F.length + 2 * bs : Nat) : Int) ≤ n1) = true := by subst h1; simp; omega
          have w1 : IntKind.i64.wrap (((F.length : Nat) : Int) + (bs : Int)) = ((F.length + bs : Nat) : Int) := by rw [wr (by omega) (by omega)]; omega
          have w2 : IntKind.i64.wrap (2 * (bs : Int)) = 2 * (bs : Int) := wr (by omega) (by omega)
          have w3 : IntKind.i64.wrap (((F.length + 2 * bs : Nat) : Int) + 2 * (bs : Int)) = ((F.length + 2 * bs + 2 * bs : Nat) : Int) := by rw [wr (by omega) (by omega)]; omega
          simp only [lT, this, cond_true, w1, w2, w3, d3, Option.bind_some, List.length_append, hD]
        rw [eW hb, g5]
        simp only [List.length_append, List.append_assoc]
        congr 2
        congr 1; omega

theorem TS (C : Cmp ok le cmp) {d : List α} {bs : Nat} (hbs : 0 < bs) (hbs' : bs < d.length) (ho : Oks ok d) (hB : mL le bs d) (hl : d.length ≤ 1099511627776) :
    ∃ r, r.Perm d ∧ mL le (2 * bs) r ∧ jF cmp ((d.length : Nat) : Int) d (bs : Int) = some (.inl (r, ((2 * bs : Nat) : Int))) := by
  obtain ⟨G1, G2, g1, g2, g3, g4, g5⟩ := aAB C (n1 := ((d.length : Nat) : Int)) hbs (by omega) d.length [] d (Nat.le_refl _) ho hB (by simp) (by simpa using hl)
  have hlen := g1.length_eq
  simp only [List.length_append] at hlen
  have w2 : IntKind.i64.wrap (2 * (bs : Int)) = ((2 * bs : Nat) : Int) := by rw [wr (by omega) (by omega)]; omega
  have w4 : IntKind.i64.wrap ((bs : Int) * 2) = ((2 * bs : Nat) : Int) := by rw [wr (by omega) (by omega)]; omega
  have hlt : decide ((bs : Int) < ((d.length : Nat) : Int)) = true := by simp; omega
  simp only [List.nil_append, List.length_nil, Nat.zero_add, Int.natCast_zero] at g5
  have w1 : IntKind.i64.wrap (((G1.length : Nat) : Int) + (bs : Int)) = ((G1.length + bs : Nat) : Int) := by rw [wr (by omega) (by omega)]; omega
  by_cases hg : bs < G2.length
  · obtain ⟨x, y, rfl, x1, sx, hy⟩ := g3.split hg
    simp only [List.length_append] at g2 hg hlen
    have sy : Srt le y := hy.srt (by omega)
    have og : Oks ok (G1 ++ (x ++ y)) := ho.perm g1
    obtain ⟨D, d1, d2, d3⟩ := VE C (P := G1) (A := x) (B := y) (S := []) (d := G1 ++ (x ++ y)) (a := ((G1.length : Nat) : Int)) (m := ((G1.length + bs : Nat) : Int)) (b := ((d.length : Nat) : Int)) (by simp) (fun h => by rw [h] at x1; simp at x1; omega) (fun h => by rw [h] at hg; simp at hg; omega)
      (fun z hz => og z (by simp [hz])) (fun z hz => og z (by simp [hz])) sx sy rfl (by rw [x1]) (by congr 1; omega) (by simp only [List.length_append]; omega)
    refine ⟨G1 ++ D, ?_, ?_, ?_⟩
    · exact (d1.append_left G1).trans g1
    · exact g4 D (by rw [d1.length_eq]; simp only [List.length_append]; omega) d2
    · have hc : decide (((G1.length + bs : Nat) : Int) < ((d.length : Nat) : Int)) = true := by simp; omega
      simp only [jF, hlt, cond_true, w2, tY, g5, Option.bind_some, uK, w1, hc, d3, xK, w4]
      simp
  · refine ⟨G1 ++ G2, g1, g4 G2 (by omega) (g3.srt (by omega)), ?_⟩
    have hc : decide (((G1.length + bs : Nat) : Int) < ((d.length : Nat) : Int)) = false := by simp; omega
    simp only [jF, hlt, cond_true, w2, tY, g5, Option.bind_some, uK, w1, hc, cond_false, xK, w4]

theorem UO (C : Cmp ok le cmp) : ∀ (n : Nat) (d : List α) (bs : Nat), d.length - bs ≤ n → 0 < bs → Oks ok d → mL le bs d → d.length ≤ 1099511627776 →
    ∃ r, r.Perm d ∧ Srt le r ∧ lp (fun s : List α × Int => jF cmp ((d.length : Nat) : Int) s.1 s.2) (d, (bs : Int)) = some r := by
  have stop : ∀ (d : List α) (bs : Nat), d.length ≤ bs → mL le bs d → ∃ r, r.Perm d ∧ Srt le r ∧ lp (fun s : List α × Int => jF cmp ((d.length : Nat) : Int) s.1 s.2) (d, (bs : Int)) = some r := by
    intro d bs h hB
    refine ⟨d, List.Perm.refl _, hB.srt h, cR ?_⟩
    show jF cmp _ _ _ = _
    have : decide ((bs : Int) < ((d.length : Nat) : Int)) = false := by simp; omega
    simp only [jF, this, cond_false]
  intro n
  induction n with
  | zero => intro d bs hn _ _ hB _; exact stop d bs (by omega) hB
  | succ n ih =>
    intro d bs hn hbs ho hB hl
    by_cases h : d.length ≤ bs
    · exact stop d bs h hB
    · obtain ⟨r, r1, r2, r3⟩ := TS C hbs (by omega) ho hB hl
      obtain ⟨r', e1, e2, e3⟩ := ih r (2 * bs) (by rw [r1.length_eq]; omega) (by omega) (ho.perm r1) r2 (by rw [r1.length_eq]; exact hl)
      rw [r1.length_eq] at e3
      refine ⟨r', e1.trans r1, e2, ?_⟩
      rw [eW (show (fun s : List α × Int => jF cmp ((d.length : Nat) : Int) s.1 s.2) (d, (bs : Int)) = _ from r3)]
      exact e3

end Go.Abs
