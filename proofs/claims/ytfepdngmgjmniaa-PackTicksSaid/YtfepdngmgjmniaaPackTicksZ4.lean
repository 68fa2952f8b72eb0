/- What the law PackTicks stands on: the framework, the given functions as plain functions, their walks, and the plain laws; part 4. -/
import Derived.Test.YtfepdngmgjmniaaPackTicksZ3
set_option linter.unusedSimpArgs false
set_option linter.unusedVariables false
namespace Go.Abs
open Go Go.RowKit Go.Proofs
theorem xG (lo0p : Nat) (aA : (List aB)) (n1 : Int) (cmp2_f : Nat) (cmp2_a cmp2_c : List V) (cmp2 : aB → aB → Option Int) (cmp2_h : ∀ a0 a1 r, cmp2 a0 a1 = some r → bT Try.prog cmp2_f (cmp2_a ++ [(aD a0), (aD a1)] ++ cmp2_c) (eI r)) (r : List aB) (h0 : fA aA n1 cmp2 = some r) : kY Try.prog 133 lo0p 2 (List.map aD aA) (List.map aD r) [(.msl 2 lo0p 0 (List.length aA)), (eI n1), (.fn (.func cmp2_f) cmp2_a cmp2_c)] (.tup []) := by
  intro H0 hl0
  refine cI Try.func133 ?_
  have hO := aO.pZ hl0
  clear hl0
  obtain ⟨N0, hN0⟩ : ∃ n, n = List.length aA := ⟨_, rfl⟩
  have hN : List.length aA = N0 := hN0.symm
  unfold fA at h0
  refine aY aG 1 [] [(6, (eI (20 : Int)))] ?_
  refine aY aG 3 [] [(7, (eI (0 : Int))), (8, (eI (20 : Int)))] ?_
  refine dB (fun T H => ∃ aA : List aB, ∃ aP : Int, ∃ a7 : Int, Has T [(0, (.msl 2 lo0p 0 (List.length aA))), (1, (eI n1)), (2, (.fn (.func cmp2_f) cmp2_a cmp2_c)), (6, (eI aP)), (7, (eI a7))] ∧ aO ⟨H0, [lo0p], []⟩ H [(lo0p, 2, List.map aD aA)] ∧ List.length aA = N0 ∧ eV cmp2 aA n1 aP a7 = some r) ?_ ?_
  · clear hO hN h0
    rintro T H ⟨aA, aP, a7, hT, hO, hN, h0⟩
    refine bB hT ?_
    clear hT
    unfold eV at h0
    refine aQ ?_
    refine aT aG 5 ?_
    refine bM 4 ?_
    obtain ⟨x1, hx2, h0⟩ := aV h0
    refine oG [(lo0p, 2, List.map aD x1)] 0 (mX lo0p aA a7 n1 cmp2_f cmp2_a cmp2_c cmp2 cmp2_h _ hx2) hO ?_
    intro H hO hl3
    simp only [List.length_map] at hl3
    replace hN := hl3.trans hN
    refine cH ?_
    refine cS (l := [(0, (.msl 2 lo0p 0 (List.length x1))), (1, (eI n1)), (2, (.fn (.func cmp2_f) cmp2_a cmp2_c)), (6, (eI aP))]) ⟨[(0, (.msl 2 lo0p 0 (List.length aA))), (1, (eI n1)), (2, (.fn (.func cmp2_f) cmp2_a cmp2_c)), (6, (eI aP))], by kernel_rfl, rfl, ⟨aX.eq (by simp [hl3]), aX.refl _, aX.refl _, aX.refl _, trivial⟩⟩ ?_
    refine aI (aH (?_))
    refine bP 2 ?_
    refine cT [(0, (.msl 2 lo0p 0 (List.length x1))), (1, (eI n1)), (2, (.fn (.func cmp2_f) cmp2_a cmp2_c)), (6, (eI aP))] ?_
    refine cL (fun T H => ∃ aA : List aB, ∃ aP : Int, Has T [(0, (.msl 2 lo0p 0 (List.length aA))), (1, (eI n1)), (2, (.fn (.func cmp2_f) cmp2_a cmp2_c)), (6, (eI aP))] ∧ aO ⟨H0, [lo0p], []⟩ H [(lo0p, 2, List.map aD aA)] ∧ List.length aA = N0 ∧ hM cmp2 aA n1 aP = some r) ?_ ⟨x1, aP, .eq (by kernel_rfl), hO, hN, h0⟩
    clear hO hN h0
    rintro T H ⟨aA, aP, hT, hO, hN, h0⟩
    refine bB hT ?_
    clear hT
    unfold hM at h0
    obtain ⟨rr0, hl0, h0⟩ := aV h0
    refine cB (by kernel_rfl) (fun (s : List aB × Int) T H => Has T [(0, (.msl 2 lo0p 0 (List.length s.1))), (1, (eI n1)), (2, (.fn (.func cmp2_f) cmp2_a cmp2_c)), (6, (eI s.2))] ∧ aO ⟨H0, [lo0p], []⟩ H [(lo0p, 2, List.map aD s.1)] ∧ List.length s.1 = N0) hl0 ⟨.eq (by kernel_rfl), hO, hN⟩ ?_
    clear hO hN
    rintro k0 s out1 T H ⟨hT, hO, hN⟩ h1 ho0
    obtain ⟨aA, aP⟩ := s
    replace h1 : iD cmp2 n1 aA aP = some out1 := h1
    try dsimp only at hT
    refine bB hT ?_
    clear hT
    unfold iD at h1
    refine aQ ?_
    refine aY aG 3 [] [(30, (aL (decide (aP < n1))))] ?_
    refine bL h1 (fun h1 => ?_) (fun h1 => ?_)
    · refine bN ?_
      refine bF [(0, (.msl 2 lo0p 0 (List.length aA))), (1, (eI n1)), (2, (.fn (.func cmp2_f) cmp2_a cmp2_c)), (6, (eI aP))] ?_
      refine bP 3 ?_
      refine aY aG 4 [] [(7, (eI (0 : Int))), (8, (eI (wR ((2 : Int) * aP))))] ?_
      refine dB (fun T H => ∃ aA : List aB, ∃ a7 : Int, Has T [(0, (.msl 2 lo0p 0 (List.length aA))), (1, (eI n1)), (2, (.fn (.func cmp2_f) cmp2_a cmp2_c)), (6, (eI aP)), (7, (eI a7))] ∧ aO ⟨H0, [lo0p], []⟩ H [(lo0p, 2, List.map aD aA)] ∧ List.length aA = N0 ∧ eU cmp2 aA n1 aP a7 = some out1) ?_ ?_
      · clear hO hN h1
        rintro T H ⟨aA, a7, hT, hO, hN, h1⟩
        refine bB hT ?_
        clear hT
        unfold eU at h1
        refine dB (fun T H => ∃ aA : List aB, Has T [(0, (.msl 2 lo0p 0 (List.length aA))), (1, (eI n1)), (2, (.fn (.func cmp2_f) cmp2_a cmp2_c)), (6, (eI aP))] ∧ aO ⟨H0, [lo0p], []⟩ H [(lo0p, 2, List.map aD aA)] ∧ List.length aA = N0 ∧ gS cmp2 aA n1 aP = some out1) ?_ ?_
        · clear hO hN h1
          rintro T H ⟨aA, hT, hO, hN, h1⟩
          refine bB hT ?_
          clear hT
          unfold gS at h1
          refine aT aG 3 ?_
          refine bC ?_
          exact aI (aU (aH (⟨rfl, _, (oI h1).symm, .eq (by kernel_rfl), hO, hN⟩)))
        refine aY aG 4 [] [(9, (eI (wR (a7 + aP))))] ?_
        refine aY aG 3 [] [(54, (aL (decide ((wR (a7 + aP)) < n1))))] ?_
        refine bL h1 (fun h1 => ?_) (fun h1 => ?_)
        · refine aT aG 6 ?_
          refine bM 5 ?_
          obtain ⟨x6, hx7, h1⟩ := aV h1
          refine oG [(lo0p, 2, List.map aD x6)] 0 (oK lo0p aA a7 (wR (a7 + aP)) n1 cmp2_f cmp2_a cmp2_c cmp2 cmp2_h _ hx7) hO ?_
          intro H hO hl8
          simp only [List.length_map] at hl8
          replace hN := hl8.trans hN
          refine cH ?_
          refine cS (l := [(0, (.msl 2 lo0p 0 (List.length x6))), (1, (eI n1)), (2, (.fn (.func cmp2_f) cmp2_a cmp2_c)), (6, (eI aP))]) ⟨[(0, (.msl 2 lo0p 0 (List.length aA))), (1, (eI n1)), (2, (.fn (.func cmp2_f) cmp2_a cmp2_c)), (6, (eI aP))], by kernel_rfl, rfl, ⟨aX.eq (by simp [hl8]), aX.refl _, aX.refl _, aX.refl _, trivial⟩⟩ ?_
          exact aI (aH (⟨rfl, _, .eq (by kernel_rfl), hO, hN, h1⟩))
        refine bN ?_
        exact aI (aH (⟨rfl, _, .eq (by kernel_rfl), hO, hN, h1⟩))
      refine bP 4 ?_
      refine cT [(0, (.msl 2 lo0p 0 (List.length aA))), (1, (eI n1)), (2, (.fn (.func cmp2_f) cmp2_a cmp2_c)), (6, (eI aP)), (7, (eI (0 : Int))), (8, (eI (wR ((2 : Int) * aP))))] ?_
      refine cL (fun T H => ∃ aA : List aB, ∃ a7 : Int, ∃ b8 : Int, Has T [(0, (.msl 2 lo0p 0 (List.length aA))), (1, (eI n1)), (2, (.fn (.func cmp2_f) cmp2_a cmp2_c)), (6, (eI aP)), (7, (eI a7)), (8, (eI b8))] ∧ aO ⟨H0, [lo0p], []⟩ H [(lo0p, 2, List.map aD aA)] ∧ List.length aA = N0 ∧ gY cmp2 aA n1 aP a7 b8 = some out1) ?_ ⟨aA, (0 : Int), wR ((2 : Int) * aP), .eq (by kernel_rfl), hO, hN, h1⟩
      clear hO hN h1
      rintro T H ⟨aA, a7, b8, hT, hO, hN, h1⟩
      refine bB hT ?_
      clear hT
      unfold gY at h1
      obtain ⟨rr1, hl1, h1⟩ := aV h1
      refine cB (by kernel_rfl) (fun (s : List aB × Int × Int) T H => Has T [(0, (.msl 2 lo0p 0 (List.length s.1))), (1, (eI n1)), (2, (.fn (.func cmp2_f) cmp2_a cmp2_c)), (6, (eI aP)), (7, (eI s.2.1)), (8, (eI s.2.2))] ∧ aO ⟨H0, [lo0p], []⟩ H [(lo0p, 2, List.map aD s.1)] ∧ List.length s.1 = N0) hl1 ⟨.eq (by kernel_rfl), hO, hN⟩ ?_
      clear hO hN
      rintro k1 s out2 T H ⟨hT, hO, hN⟩ h2 ho1
      obtain ⟨aA, a7, b8⟩ := s
      replace h2 : iE cmp2 n1 aP aA a7 b8 = some out2 := h2
      try dsimp only at hT
      refine bB hT ?_
      clear hT
      unfold iE at h2
      refine aQ ?_
      refine aY aG 3 [] [(35, (aL (decide (b8 ≤ n1))))] ?_
      refine bL h2 (fun h2 => ?_) (fun h2 => ?_)
      · refine bN ?_
        refine bF [(0, (.msl 2 lo0p 0 (List.length aA))), (1, (eI n1)), (2, (.fn (.func cmp2_f) cmp2_a cmp2_c)), (6, (eI aP)), (7, (eI a7)), (8, (eI b8))] ?_
        refine bP 5 ?_
        refine aQ ?_
        refine aT aG 8 ?_
        refine bM 7 ?_
        obtain ⟨x10, hx11, h2⟩ := aV h2
        refine oG [(lo0p, 2, List.map aD x10)] 0 (oK lo0p aA a7 (wR (a7 + aP)) b8 cmp2_f cmp2_a cmp2_c cmp2 cmp2_h _ hx11) hO ?_
        intro H hO hl12
        simp only [List.length_map] at hl12
        replace hN := hl12.trans hN
        refine cH ?_
        refine cS (l := [(0, (.msl 2 lo0p 0 (List.length x10))), (1, (eI n1)), (2, (.fn (.func cmp2_f) cmp2_a cmp2_c)), (6, (eI aP)), (8, (eI b8))]) ⟨[(0, (.msl 2 lo0p 0 (List.length aA))), (1, (eI n1)), (2, (.fn (.func cmp2_f) cmp2_a cmp2_c)), (6, (eI aP)), (8, (eI b8))], by kernel_rfl, rfl, ⟨aX.eq (by simp [hl12]), aX.refl _, aX.refl _, aX.refl _, aX.refl _, trivial⟩⟩ ?_
        refine aI (aH (?_))
        refine aY aG 2 [] [(7, (eI b8))] ?_
        refine aT aG 5 ?_
        refine bC ?_
        exact aI (aU (aH (⟨rfl, _, (oI h2).symm, .eq (by kernel_rfl), hO, hN⟩)))
      refine dU 4 ?_
      obtain rfl := oI h2
      obtain rfl : _ = rr1 := ho1
      replace h1 : eU cmp2 aA n1 aP a7 = some out1 := h1
      exact aI (aZ (aZ (bO (aH (⟨rfl, _, _, .eq (by kernel_rfl), hO, hN, h1⟩)))))
    refine dU 2 ?_
    obtain rfl := oI h1
    obtain rfl : _ = rr0 := ho0
    replace h0 : some aA = some r := h0
    obtain rfl := oI h0
    exact aI (aZ (aZ (bO (qN (x := (.tup [])) (by kernel_rfl) (aX.refl _) ⟨rfl, hO.ext, hO.at 0 (by kernel_rfl), by simp only [List.length_map]; exact hN.trans hN0⟩))))
  refine bP 0 ?_
  refine cT [(0, (.msl 2 lo0p 0 (List.length aA))), (1, (eI n1)), (2, (.fn (.func cmp2_f) cmp2_a cmp2_c)), (6, (eI (20 : Int))), (7, (eI (0 : Int))), (8, (eI (20 : Int)))] ?_
  refine cL (fun T H => ∃ aA : List aB, ∃ aP : Int, ∃ a7 : Int, ∃ b8 : Int, Has T [(0, (.msl 2 lo0p 0 (List.length aA))), (1, (eI n1)), (2, (.fn (.func cmp2_f) cmp2_a cmp2_c)), (6, (eI aP)), (7, (eI a7)), (8, (eI b8))] ∧ aO ⟨H0, [lo0p], []⟩ H [(lo0p, 2, List.map aD aA)] ∧ List.length aA = N0 ∧ iG cmp2 aA n1 aP a7 b8 = some r) ?_ ⟨aA, (20 : Int), (0 : Int), (20 : Int), .eq (by kernel_rfl), hO, hN, h0⟩
  clear hO hN h0
  rintro T H ⟨aA, aP, a7, b8, hT, hO, hN, h0⟩
  refine bB hT ?_
  clear hT
  unfold iG at h0
  obtain ⟨rr0, hl0, h0⟩ := aV h0
  refine cB (by kernel_rfl) (fun (s : List aB × Int × Int) T H => Has T [(0, (.msl 2 lo0p 0 (List.length s.1))), (1, (eI n1)), (2, (.fn (.func cmp2_f) cmp2_a cmp2_c)), (6, (eI aP)), (7, (eI s.2.1)), (8, (eI s.2.2))] ∧ aO ⟨H0, [lo0p], []⟩ H [(lo0p, 2, List.map aD s.1)] ∧ List.length s.1 = N0) hl0 ⟨.eq (by kernel_rfl), hO, hN⟩ ?_
  clear hO hN
  rintro k0 s out1 T H ⟨hT, hO, hN⟩ h1 ho0
  obtain ⟨aA, a7, b8⟩ := s
  replace h1 : iA cmp2 n1 aP aA a7 b8 = some out1 := h1
  try dsimp only at hT
  refine bB hT ?_
  clear hT
  unfold iA at h1
  refine aQ ?_
  refine aY aG 3 [] [(13, (aL (decide (b8 ≤ n1))))] ?_
  refine bL h1 (fun h1 => ?_) (fun h1 => ?_)
  · refine bN ?_
    refine bF [(0, (.msl 2 lo0p 0 (List.length aA))), (1, (eI n1)), (2, (.fn (.func cmp2_f) cmp2_a cmp2_c)), (6, (eI aP)), (7, (eI a7)), (8, (eI b8))] ?_
    refine bP 1 ?_
    refine aQ ?_
    refine aT aG 5 ?_
    refine bM 4 ?_
    obtain ⟨x14, hx15, h1⟩ := aV h1
    refine oG [(lo0p, 2, List.map aD x14)] 0 (mX lo0p aA a7 b8 cmp2_f cmp2_a cmp2_c cmp2 cmp2_h _ hx15) hO ?_
    intro H hO hl16
    simp only [List.length_map] at hl16
    replace hN := hl16.trans hN
    refine cH ?_
    refine cS (l := [(0, (.msl 2 lo0p 0 (List.length x14))), (1, (eI n1)), (2, (.fn (.func cmp2_f) cmp2_a cmp2_c)), (6, (eI aP)), (8, (eI b8))]) ⟨[(0, (.msl 2 lo0p 0 (List.length aA))), (1, (eI n1)), (2, (.fn (.func cmp2_f) cmp2_a cmp2_c)), (6, (eI aP)), (8, (eI b8))], by kernel_rfl, rfl, ⟨aX.eq (by simp [hl16]), aX.refl _, aX.refl _, aX.refl _, aX.refl _, trivial⟩⟩ ?_
    refine aI (aH (?_))
    refine aY aG 2 [] [(7, (eI b8))] ?_
    refine aT aG 4 ?_
    refine bC ?_
    exact aI (aU (aH (⟨rfl, _, (oI h1).symm, .eq (by kernel_rfl), hO, hN⟩)))
  refine dU 0 ?_
  obtain rfl := oI h1
  obtain rfl : _ = rr0 := ho0
  replace h0 : eV cmp2 aA n1 aP a7 = some r := h0
  exact aI (aZ (aZ (bO (aH (⟨rfl, _, _, _, .eq (by kernel_rfl), hO, hN, h0⟩)))))

theorem rF (lo0p : Nat) (x0 : (List aB)) (cmp1_f : Nat) (cmp1_a cmp1_c : List V) (cmp1 : aB → aB → Option Int) (cmp1_h : ∀ a0 a1 r, cmp1 a0 a1 = some r → bT Try.prog cmp1_f (cmp1_a ++ [(aD a0), (aD a1)] ++ cmp1_c) (eI r)) (r : List aB) (h0 : cY x0 cmp1 = some r) : kY Try.prog 112 lo0p 2 (List.map aD x0) (List.map aD r) [(.msl 2 lo0p 0 (List.length x0)), (.fn (.func cmp1_f) cmp1_a cmp1_c)] (.tup []) := by
  intro H0 hl0
  refine cI Try.func112 ?_
  have hO := aO.pZ hl0
  clear hl0
  obtain ⟨N0, hN0⟩ : ∃ n, n = List.length x0 := ⟨_, rfl⟩
  have hN : List.length x0 = N0 := hN0.symm
  unfold cY at h0
  refine aT aG 5 ?_
  refine bM 4 ?_
  obtain ⟨x1, hx2, h0⟩ := aV h0
  refine oG [(lo0p, 2, List.map aD x1)] 0 (xG lo0p x0 (lN x0) cmp1_f cmp1_a cmp1_c cmp1 cmp1_h _ hx2) hO ?_
  intro H hO hl3
  simp only [List.length_map] at hl3
  replace hN := hl3.trans hN
  refine cH ?_
  refine cS (l := [(0, (.msl 2 lo0p 0 (List.length x1)))]) ⟨[(0, (.msl 2 lo0p 0 (List.length x0)))], by kernel_rfl, rfl, ⟨aX.eq (by simp [hl3]), trivial⟩⟩ ?_
  obtain rfl := oI h0
  exact aI (qN (x := (.tup [])) (by kernel_rfl) (aX.refl _) ⟨rfl, hO.ext, hO.at 0 (by kernel_rfl), by simp only [List.length_map]; exact hN.trans hN0⟩)

theorem OF (a0 : aB) (b1 : aB) (r : Int) (h0 : mM a0 b1 = some r) : bT Try.prog 113 [(aD a0), (aD b1)] (eI r) := by
  intro H0
  refine cI Try.func113 ?_
  have hO := aO.start H0
  unfold mM at h0
  refine aQ ?_
  refine aT aG 3 ?_
  refine gO 2 (aD a0) (by kernel_rfl) (by kernel_rfl) ?_
  refine gO 2 (aD b1) (by kernel_rfl) (by kernel_rfl) ?_
  refine bC ?_
  refine bF [(2, (.rp (aD a0))), (3, (.rp (aD b1)))] ?_
  refine aQ ?_
  refine aT aG 6 ?_
  refine bM 4 ?_
  obtain ⟨x1, hx2, h0⟩ := aV h0
  refine cJ (vG a0.At b1.At _ hx2) hO ?_
  intro H hO
  refine bC ?_
  refine bF [(4, (eI x1))] ?_
  refine bH ?_
  obtain rfl := oI h0
  exact aI (Q_r hO)

theorem AG (f0 : (List aB)) (r : Bool) (h0 : oH f0 = some r) : bT Try.prog 68 [(eL aD f0)] (aL r) := by
  intro H0
  refine cI Try.func68 ?_
  have hO := aO.start H0
  unfold oH at h0
  refine aY aG 1 [] [] ?_
  refine aQ ?_
  refine aY aG 3 [] [(8, (aL (decide ((1024 : Int) < (lN f0)))))] ?_
  refine bL h0 (fun h0 => ?_) (fun h0 => ?_)
  · refine bV aG 1 [(2, (aL false))] ?_
    refine bH ?_
    obtain rfl := oI h0
    exact aI (bA (Q_r hO))
  refine bN ?_
  refine bF [(0, (eL aD f0))] ?_
  refine aY aG 1 [] [(3, (eI (-2 : Int)))] ?_
  refine dB (fun T H => Has T [] ∧ aO ⟨H0, [], []⟩ H [] ∧ vN  = some r) ?_ ?_
  · clear hO h0
    rintro T H ⟨hT, hO, h0⟩
    refine bB hT ?_
    clear hT
    unfold vN at h0
    refine bV aG 1 [(2, (aL true))] ?_
    refine bH ?_
    obtain rfl := oI h0
    exact aI (Q_r hO)
  refine aY aG 3 [0] [(9, (eL aD f0)), (10, (eI (lN f0))), (11, (eI (0 : Int)))] ?_
  refine bP 0 ?_
  refine cT [(3, (eI (-2 : Int))), (9, (eL aD f0)), (10, (eI (lN f0))), (11, (eI (0 : Int)))] ?_
  refine cL (fun T H => ∃ qL : Int, ∃ t9 : (List aB), ∃ t10 : Int, ∃ t11 : Int, Has T [(3, (eI qL)), (9, (eL aD t9)), (10, (eI t10)), (11, (eI t11))] ∧ aO ⟨H0, [], []⟩ H [] ∧ yT qL t9 t10 t11 = some r) ?_ ⟨(-2 : Int), f0, (lN f0), (0 : Int), .eq (by kernel_rfl), hO, h0⟩
  clear hO h0
  rintro T H ⟨qL, t9, t10, t11, hT, hO, h0⟩
  refine bB hT ?_
  clear hT
  unfold yT at h0
  obtain ⟨rr0, hl0, h0⟩ := aV h0
  refine cB (by kernel_rfl) (fun (s : Int × Int) T H => Has T [(3, (eI s.1)), (9, (eL aD t9)), (10, (eI t10)), (11, (eI s.2))] ∧ aO ⟨H0, [], []⟩ H []) hl0 ⟨.eq (by kernel_rfl), hO⟩ ?_
  clear hO
  rintro k0 s out1 T H ⟨hT, hO⟩ h1 ho0
  obtain ⟨qL, t11⟩ := s
  replace h1 : mA t9 t10 qL t11 = some out1 := h1
  try dsimp only at hT
  refine bB hT ?_
  clear hT
  unfold mA at h1
  refine aY aG 1 [] [(12, (aL (decide (t11 < t10))))] ?_
  refine aQ ?_
  refine bL h1 (fun h1 => ?_) (fun h1 => ?_)
  · refine bN ?_
    refine bF [(3, (eI qL)), (9, (eL aD t9)), (10, (eI t10)), (11, (eI t11))] ?_
    refine aQ ?_
    refine bP 1 ?_
    refine aQ ?_
    refine aT aG 4 ?_
    obtain ⟨c3, h1⟩ := bJ h1
    refine qG 2 [0 ≤ t11 ∧ t11 < (lN t9)] ⟨c3, trivial⟩ ?_
    refine nB 2 (aD (aB.mk 0 0)) (by kernel_rfl) (by kernel_rfl) hO ?_
    intro lo4 H hO
    refine iW 0 lo4 2 0 (aD (aB.mk 0 0)) (aD (gD t9 t11)) [(aD (aB.mk 0 0))] [(lo4, 2, [(aD (gD t9 t11))])] hO rfl (by kernel_rfl) ?_
    intro H hO
    refine cH ?_
    refine bS [] [(5, (.lp lo4 0 0))] ?_
    refine aQ ?_
    refine aQ ?_
    refine aT aG 20 ?_
    refine bM 1 ?_
    refine lM 0 lo4 2 0 (aD (gD t9 t11)) (eI ((gD t9 t11).At)) [(aD (gD t9 t11))] hO rfl ?_
    refine bM 6 ?_
    refine yN [(19, false)] 0 lo4 2 0 (aD (gD t9 t11)) (eI ((gD t9 t11).At)) [(aD (gD t9 t11))] (by kernel_rfl) (by kernel_rfl) hO (by kernel_rfl) (!(decide (((gD t9 t11).At) ≤ qL))) (by kernel_rfl) (fun hb5 => rfl) ?_
    refine bM 11 ?_
    refine yN [(24, false)] 0 lo4 2 0 (aD (gD t9 t11)) (eI ((gD t9 t11).Net)) [(aD (gD t9 t11))] (by kernel_rfl) (by kernel_rfl) hO (by kernel_rfl) (!((decide (((gD t9 t11).At) ≤ qL)) || (decide ((1125899906842624 : Int) ≤ ((gD t9 t11).At))))) (by kernel_rfl) (fun hb6 => rfl) ?_
    refine bM 16 ?_
    refine yN [(29, false)] 0 lo4 2 0 (aD (gD t9 t11)) (eI ((gD t9 t11).Net)) [(aD (gD t9 t11))] (by kernel_rfl) (by kernel_rfl) hO (by kernel_rfl) (!(((decide (((gD t9 t11).At) ≤ qL)) || (decide ((1125899906842624 : Int) ≤ ((gD t9 t11).At)))) || (decide (((gD t9 t11).Net) = (0 : Int))))) (by kernel_rfl) (fun hb7 => rfl) ?_
    obtain ⟨x8, hx9, h1⟩ := aV h1
    refine gQ [(29, false)] 109 [(eI ((gD t9 t11).Net))] (aL x8) (!(((decide (((gD t9 t11).At) ≤ qL)) || (decide ((1125899906842624 : Int) ≤ ((gD t9 t11).At)))) || (decide (((gD t9 t11).Net) = (0 : Int))))) (by kernel_rfl) (by kernel_rfl) (by kernel_rfl) (fun hb10 => (IA ((gD t9 t11).Net) _ (jH hx9 hb10))) hO ?_
    intro H hO
    refine bC ?_
    refine bS [3] [(34, (aL ((((decide (((gD t9 t11).At) ≤ qL)) || (decide ((1125899906842624 : Int) ≤ ((gD t9 t11).At)))) || (decide (((gD t9 t11).Net) = (0 : Int)))) || (!x8))))] ?_
    refine bL h1 (fun h1 => ?_) (fun h1 => ?_)
    · refine aQ ?_
      refine aT aG 1 ?_
      refine bC ?_
      refine dD [(2, (aL false))] ?_
      replace hO := hO.pick (L' := []) [] (by decide) (by kernel_rfl)
      refine aI (aH (?_))
      refine bH ?_
      obtain rfl := oI h1
      obtain rfl : _ = rr0 := ho0
      replace h0 : some false = some r := h0
      obtain rfl := oI h0
      exact aI (bA (bR (bA (bA (bR (bA (Q_r hO)))))))
    refine bN ?_
    refine bF [(5, (.lp lo4 0 0)), (9, (eL aD t9)), (10, (eI t10)), (11, (eI t11))] ?_
    refine aT aG 3 ?_
    refine bM 1 ?_
    refine lM 0 lo4 2 0 (aD (gD t9 t11)) (eI ((gD t9 t11).At)) [(aD (gD t9 t11))] hO rfl ?_
    refine bC ?_
    refine dD [(3, (eI ((gD t9 t11).At))), (9, (eL aD t9)), (10, (eI t10)), (11, (eI t11))] ?_
    replace hO := hO.pick (L' := []) [] (by decide) (by kernel_rfl)
    refine aI (aU (aH (?_)))
    refine aT aG 2 ?_
    refine bC ?_
    exact aI (aH (⟨rfl, _, (oI h1).symm, .eq (by kernel_rfl), hO⟩))
  refine dU 0 ?_
  obtain rfl := oI h1
  obtain rfl : _ = rr0 := ho0
  replace h0 : vN  = some r := h0
  exact aI (aZ (aZ (bO (aH (⟨rfl, .eq (by kernel_rfl), hO, h0⟩)))))

theorem SW (f0 : (List aB)) (r : ((List aB) × Int)) (h0 : sX f0 = some r) : bT Try.prog 114 [(eL aD f0)] (.tup [(eL aD r.1), (eI r.2)]) := by
  intro H0
  refine cI Try.func114 ?_
  have hO := aO.start H0
  unfold sX at h0
  refine aY aG 2 [] [] ?_
  refine aQ ?_
  refine aQ ?_
  refine aT aG 3 ?_
  refine bM 1 ?_
  obtain ⟨x1, hx2, h0⟩ := aV h0
  refine cJ (AG f0 _ hx2) hO ?_
  intro H hO
  refine bC ?_
  refine bS [] [(6, (aL (!x1)))] ?_
  refine bL h0 (fun h0 => ?_) (fun h0 => ?_)
  · refine bV aG 2 [(2, (.sl true 0 (fun _ => .bad))), (3, (eI (7 : Int)))] ?_
    refine bH ?_
    refine cS (l := [(2, (eL aD ([]))), (3, (eI (7 : Int)))]) ⟨[(2, (.sl true 0 (fun _ => .bad))), (3, (eI (7 : Int)))], by kernel_rfl, rfl, ⟨fJ, aX.refl _, trivial⟩⟩ ?_
    obtain rfl := oI h0
    exact aI (bA (Q_r hO))
  refine bN ?_
  refine bF [(0, (eL aD f0))] ?_
  refine bV aG 3 [(2, (eL aD f0)), (3, (eI (0 : Int)))] ?_
  refine bH ?_
  obtain rfl := oI h0
  exact aI (Q_r hO)

theorem TQ (l0 : (List aB)) (r : ((List aB) × Int)) (h0 : vP l0 = some r) : bT Try.prog 67 [(eL aD l0)] (.tup [(eL aD r.1), (eI r.2)]) := by
  intro H0
  refine cI Try.func67 ?_
  have hO := aO.start H0
  unfold vP at h0
  refine aY aG 2 [] [] ?_
  refine aQ ?_
  refine aQ ?_
  refine aT aG 2 ?_
  refine bM 1 ?_
  obtain ⟨x1, hx2, h0⟩ := aV h0
  refine cJ (mS l0 108 [] [] (fun y0 => sF y0) (fun y0 r h => OM y0 r h) _ hx2) hO ?_
  intro H hO
  refine cH ?_
  refine bS [] [(9, (aL x1))] ?_
  refine bL h0 (fun h0 => ?_) (fun h0 => ?_)
  · refine bV aG 2 [(2, (.sl true 0 (fun _ => .bad))), (3, (eI (2 : Int)))] ?_
    refine bH ?_
    refine cS (l := [(2, (eL aD ([]))), (3, (eI (2 : Int)))]) ⟨[(2, (.sl true 0 (fun _ => .bad))), (3, (eI (2 : Int)))], by kernel_rfl, rfl, ⟨fJ, aX.refl _, trivial⟩⟩ ?_
    obtain rfl := oI h0
    exact aI (bA (Q_r hO))
  refine bN ?_
  refine bF [(0, (eL aD l0))] ?_
  refine aQ ?_
  refine aQ ?_
  refine aT aG 2 ?_
  refine bM 1 ?_
  obtain ⟨x5, hx6, h0⟩ := aV h0
  refine cJ (mS l0 110 [] [] (fun y0 => sI y0) (fun y0 r h => OT y0 r h) _ hx6) hO ?_
  intro H hO
  refine cH ?_
  refine bS [] [(11, (aL x5))] ?_
  refine bL h0 (fun h0 => ?_) (fun h0 => ?_)
  · refine bV aG 2 [(2, (.sl true 0 (fun _ => .bad))), (3, (eI (13 : Int)))] ?_
    refine bH ?_
    refine cS (l := [(2, (eL aD ([]))), (3, (eI (13 : Int)))]) ⟨[(2, (.sl true 0 (fun _ => .bad))), (3, (eI (13 : Int)))], by kernel_rfl, rfl, ⟨fJ, aX.refl _, trivial⟩⟩ ?_
    obtain rfl := oI h0
    exact aI (bA (Q_r hO))
  refine bN ?_
  refine bF [(0, (eL aD l0))] ?_
  refine aQ ?_
  refine aT aG 3 ?_
  refine bM 1 ?_
  obtain ⟨x9, hx10, h0⟩ := aV h0
  refine UH (L' := fun lo11 => [(lo11, 2, List.map aD x9)]) 2 (List.map aD x9) 111 [(eL aD l0)] (fun lo11 => (.msl 2 lo11 0 (List.length x9))) (by kernel_rfl) (by kernel_rfl) (wU l0 _ hx10) hO (fun _ => by kernel_rfl) ?_
  intro lo11 H hO
  refine bC ?_
  refine bF [(4, (.msl 2 lo11 0 (List.length x9)))] ?_
  refine aQ ?_
  refine aT aG 2 ?_
  refine bM 1 ?_
  obtain ⟨x12, hx13, h0⟩ := aV h0
  refine oG [(lo11, 2, List.map aD x12)] 0 (rF lo11 x9 113 [] [] (fun y0 y1 => mM y0 y1) (fun y0 y1 r h => OF y0 y1 r h) _ hx13) hO ?_
  intro H hO hl14
  simp only [List.length_map] at hl14
  refine cH ?_
  refine cS (l := [(4, (.msl 2 lo11 0 (List.length x12)))]) ⟨[(4, (.msl 2 lo11 0 (List.length x9)))], by kernel_rfl, rfl, ⟨aX.eq (by simp [hl14]), trivial⟩⟩ ?_
  refine aI (aH (?_))
  refine aQ ?_
  refine aT aG 2 ?_
  refine xY (xs := []) (k := 2) (by kernel_rfl) (by kernel_rfl) ?_
  refine bC ?_
  refine bS [] [(5, (.sl true 0 (fun _ => .bad)))] ?_
  refine dB (fun T H => ∃ out5 : List aB, ∃ lo15 : Nat, Has T [(5, (.msl 2 lo15 0 (List.length out5)))] ∧ aO ⟨H0, [], []⟩ H [(lo15, 2, List.map aD out5)] ∧ uL out5 = some r) ?_ ?_
  · clear hO h0
    rintro T H ⟨out5, lo15, hT, hO, h0⟩
    refine bB hT ?_
    clear hT
    unfold uL at h0
    refine aQ ?_
    refine aT aG 6 ?_
    refine BQ (e := aD) out5 0 5 2 lo15 (List.length out5) [] (by kernel_rfl) hO (by kernel_rfl) (by kernel_rfl) (by kernel_rfl) (by kernel_rfl) ?_
    intro H hO
    refine bM 1 ?_
    obtain ⟨x16, hx17, h0⟩ := aV h0
    refine cJ (SW out5 _ hx17) hO ?_
    intro H hO
    refine bC ?_
    refine bF [(2, (eL aD x16.1)), (3, (eI x16.2))] ?_
    refine bH ?_
    obtain rfl := oI h0
    exact aI (Q_r hO)
  refine aY aG 1 [] [(6, (eI (0 : Int)))] ?_
  refine bP 0 ?_
  refine cT [(4, (.msl 2 lo11 0 (List.length x12))), (5, (.sl true 0 (fun _ => .bad))), (6, (eI (0 : Int)))] ?_
  refine XE (el := (fun _ => .bad)) 1 5 2 hO (by kernel_rfl) ?_
  intro lo40 H41 hO
  refine cL (fun T H => ∃ all4 : List aB, ∃ out5 : List aB, ∃ i6 : Int, ∃ lo21 : Nat, ∃ lo22 : Nat, Has T [(4, (.msl 2 lo21 0 (List.length all4))), (5, (.msl 2 lo22 0 (List.length out5))), (6, (eI i6))] ∧ aO ⟨H0, [], []⟩ H [(lo21, 2, List.map aD all4), (lo22, 2, List.map aD out5)] ∧ xZ all4 out5 i6 = some r) ?_ ⟨x12, ([] : List aB), (0 : Int), lo11, lo40, .eq (by kernel_rfl), hO, h0⟩
  clear hO h0
  rintro T H ⟨all4, out5, i6, lo21, lo22, hT, hO, h0⟩
  refine bB hT ?_
  clear hT
  unfold xZ at h0
  obtain ⟨rr0, hl0, h0⟩ := aV h0
  refine cB (by kernel_rfl) (fun (s : List aB × List aB × Int) T H => ∃ lo21 : Nat, ∃ lo22 : Nat, Has T [(4, (.msl 2 lo21 0 (List.length s.1))), (5, (.msl 2 lo22 0 (List.length s.2.1))), (6, (eI s.2.2))] ∧ aO ⟨H0, [], []⟩ H [(lo21, 2, List.map aD s.1), (lo22, 2, List.map aD s.2.1)]) hl0 ⟨lo21, lo22, .eq (by kernel_rfl), hO⟩ ?_
  clear hO
  rintro k0 s out1 T H ⟨lo21, lo22, hT, hO⟩ h1 ho0
  obtain ⟨all4, out5, i6⟩ := s
  replace h1 : lC all4 out5 i6 = some out1 := h1
  try dsimp only at hT
  refine bB hT ?_
  clear hT
  unfold lC at h1
  refine aQ ?_
  refine aY aG 4 [] [(20, (aL (decide (i6 < (lN all4)))))] ?_
  refine bL h1 (fun h1 => ?_) (fun h1 => ?_)
  · refine bN ?_
    refine bF [(4, (.msl 2 lo21 0 (List.length all4))), (5, (.msl 2 lo22 0 (List.length out5))), (6, (eI i6))] ?_
    refine bP 1 ?_
    refine aQ ?_
    refine aT aG 8 ?_
    obtain ⟨c24, h1⟩ := bJ h1
    refine qG 4 [0 ≤ i6 ∧ i6 < (lN all4)] ⟨c24, trivial⟩ ?_
    refine lM 0 lo21 2 (0 + Int.toNat i6) (aD (gD all4 i6)) (eI ((gD all4 i6).At)) (List.map aD all4) hO (cP c24) ?_
    refine bM 6 ?_
    refine nB 2 (aD (aB.mk 0 0)) (by kernel_rfl) (by kernel_rfl) hO ?_
    intro lo25 H hO
    refine iW 2 lo25 2 0 (aD (aB.mk 0 0)) (aD (aB.mk ((gD all4 i6).At) 0)) [(aD (aB.mk 0 0))] [(lo21, 2, List.map aD all4), (lo22, 2, List.map aD out5), (lo25, 2, [(aD (aB.mk ((gD all4 i6).At) 0))])] hO rfl (by kernel_rfl) ?_
    intro H hO
    refine cH ?_
    refine bS [] [(7, (.lp lo25 0 0))] ?_
    refine dB (fun T H => ∃ all4 : List aB, ∃ out5 : List aB, ∃ i6 : Int, ∃ j7 : aB, ∃ lo26 : Nat, ∃ lo27 : Nat, Has T [(4, (.msl 2 lo26 0 (List.length all4))), (5, (.msl 2 lo27 0 (List.length out5))), (6, (eI i6)), (7, (.lp lo25 0 0))] ∧ aO ⟨H0, [], []⟩ H [(lo26, 2, List.map aD all4), (lo27, 2, List.map aD out5), (lo25, 2, [(aD j7)])] ∧ uK all4 out5 i6 j7 = some out1) ?_ ?_
    · clear hO h1
      rintro T H ⟨all4, out5, i6, j7, lo26, lo27, hT, hO, h1⟩
      refine bB hT ?_
      clear hT
      unfold uK at h1
      refine aQ ?_
      refine aT aG 8 ?_
      refine bM 1 ?_
      refine lM 2 lo25 2 0 (aD j7) (eI j7.Net) [(aD j7)] hO rfl ?_
      refine bM 5 ?_
      refine yN [(55, true)] 2 lo25 2 0 (aD j7) (eI j7.At) [(aD j7)] (by kernel_rfl) (by kernel_rfl) hO (by kernel_rfl) (!decide (j7.Net = (0 : Int))) (by kernel_rfl) (fun hb28 => rfl) ?_
      refine bC ?_
      refine bS [] [(59, (aL ((!decide (j7.Net = (0 : Int))) && (decide (j7.At < (1125899906842624 : Int))))))] ?_
      refine bL h1 (fun h1 => ?_) (fun h1 => ?_)
      · refine aT aG 5 ?_
        refine bM 1 ?_
        refine lM 2 lo25 2 0 (aD j7) (aD j7) [(aD j7)] hO rfl ?_
        refine xY (xs := [(aD j7)]) (k := 2) (by kernel_rfl) (by kernel_rfl) ?_
        obtain ⟨c31, h1⟩ := bJ h1
        refine HL (e := aD) out5 ([j7]) 1 lo27 2 16 (fI [(aD j7)]) (fun lo30 => [(lo26, 2, List.map aD all4), (lo30, 2, List.map aD (out5 ++ ([j7]))), (lo25, 2, [(aD j7)])]) (by kernel_rfl) (by kernel_rfl) hO (by kernel_rfl) (by kernel_rfl) c31 (fun _ => by kernel_rfl) ?_
        intro lo30 H hO
        refine bC ?_
        replace hO := hO.pick (L' := [(lo26, 2, List.map aD all4), (lo30, 2, List.map aD (out5 ++ ([j7])))]) [0, 1] (by decide) (by kernel_rfl)
        exact aI (aU (aH (⟨rfl, _, (oI h1).symm, _, _, .eq (by kernel_rfl), hO⟩)))
      refine bN ?_
      replace hO := hO.pick (L' := [(lo26, 2, List.map aD all4), (lo27, 2, List.map aD out5)]) [0, 1] (by decide) (by kernel_rfl)
      exact aI (aU (aH (⟨rfl, _, (oI h1).symm, _, _, .eq (by kernel_rfl), hO⟩)))
    refine bP 2 ?_
    refine cT [(4, (.msl 2 lo21 0 (List.length all4))), (5, (.msl 2 lo22 0 (List.length out5))), (6, (eI i6)), (7, (.lp lo25 0 0))] ?_
    refine cL (fun T H => ∃ all4 : List aB, ∃ out5 : List aB, ∃ i6 : Int, ∃ j7 : aB, ∃ lo34 : Nat, ∃ lo35 : Nat, Has T [(4, (.msl 2 lo34 0 (List.length all4))), (5, (.msl 2 lo35 0 (List.length out5))), (6, (eI i6)), (7, (.lp lo25 0 0))] ∧ aO ⟨H0, [], []⟩ H [(lo34, 2, List.map aD all4), (lo35, 2, List.map aD out5), (lo25, 2, [(aD j7)])] ∧ xN all4 out5 i6 j7 = some out1) ?_ ⟨all4, out5, i6, aB.mk ((gD all4 i6).At) 0, lo21, lo22, .eq (by kernel_rfl), hO, h1⟩
    clear hO h1
    rintro T H ⟨all4, out5, i6, j7, lo34, lo35, hT, hO, h1⟩
    refine bB hT ?_
    clear hT
    unfold xN at h1
    obtain ⟨rr1, hl1, h1⟩ := aV h1
    refine cB (by kernel_rfl) (fun (s : List aB × List aB × Int × aB) T H => ∃ lo34 : Nat, ∃ lo35 : Nat, Has T [(4, (.msl 2 lo34 0 (List.length s.1))), (5, (.msl 2 lo35 0 (List.length s.2.1))), (6, (eI s.2.2.1)), (7, (.lp lo25 0 0))] ∧ aO ⟨H0, [], []⟩ H [(lo34, 2, List.map aD s.1), (lo35, 2, List.map aD s.2.1), (lo25, 2, [(aD s.2.2.2)])]) hl1 ⟨lo34, lo35, .eq (by kernel_rfl), hO⟩ ?_
    clear hO
    rintro k1 s out2 T H ⟨lo34, lo35, hT, hO⟩ h2 ho1
    obtain ⟨all4, out5, i6, j7⟩ := s
    replace h2 : jG all4 out5 i6 j7 = some out2 := h2
    try dsimp only at hT
    refine bB hT ?_
    clear hT
    unfold jG at h2
    refine aQ ?_
    refine aQ ?_
    obtain ⟨c36, h2⟩ := bJ h2
    refine kC (jO []) aG 14 ?_
    refine CV (K := fun T H => Has (lift T) [(4, (.msl 2 lo34 0 (List.length all4))), (5, (.msl 2 lo35 0 (List.length out5))), (6, (eI i6)), (7, (.lp lo25 0 0)), (40, (aL ((decide (i6 < (lN all4))) && (decide (((gD all4 i6).At) = j7.At)))))] ∧ aO ⟨H0, [], []⟩ H [(lo34, 2, List.map aD all4), (lo35, 2, List.map aD out5), (lo25, 2, [(aD j7)])]) ?_ ?_
    · refine uJ 5 ?_
      refine DJ (t := 31) (e := decide (i6 < (lN all4))) (by kernel_rfl) (fun hg37 => ?_) (fun hg37 => ?_)
      · refine dM 9 [0 ≤ i6 ∧ i6 < (lN all4)] ⟨(c36 hg37), trivial⟩ ?_
        refine AO 0 lo34 2 (0 + Int.toNat i6) (aD (gD all4 i6)) (eI ((gD all4 i6).At)) (List.map aD all4) (by kernel_rfl) (by kernel_rfl) (by kernel_rfl) hO (by kernel_rfl) (cP (c36 hg37)) ?_
        refine uJ 11 ?_
        refine AO 2 lo25 2 0 (aD j7) (eI j7.At) [(aD j7)] (by kernel_rfl) (by kernel_rfl) (by kernel_rfl) hO (by kernel_rfl) rfl ?_
        refine qF ?_
        exact ⟨⟨[(4, (.msl 2 lo34 0 (List.length all4))), (5, (.msl 2 lo35 0 (List.length out5))), (6, (eI i6)), (7, (.lp lo25 0 0)), (40, (aL (decide (((gD all4 i6).At) = j7.At))))], by kernel_rfl, rfl, ⟨aX.refl _, aX.refl _, aX.refl _, aX.refl _, aX.eq (congrArg aL (CA hg37 rfl).symm), trivial⟩⟩, hO⟩
      refine qF ?_
      exact ⟨⟨[(4, (.msl 2 lo34 0 (List.length all4))), (5, (.msl 2 lo35 0 (List.length out5))), (6, (eI i6)), (7, (.lp lo25 0 0)), (40, (aL false))], by kernel_rfl, rfl, ⟨aX.refl _, aX.refl _, aX.refl _, aX.refl _, aX.eq (congrArg aL (CA hg37 rfl).symm), trivial⟩⟩, hO⟩
    · rintro T H ⟨hT, hO⟩
      refine cS hT ?_
      clear hT
      refine aI (aH ?_)
      refine bL h2 (fun h2 => ?_) (fun h2 => ?_)
      · refine bN ?_
        refine bF [(4, (.msl 2 lo34 0 (List.length all4))), (5, (.msl 2 lo35 0 (List.length out5))), (6, (eI i6)), (7, (.lp lo25 0 0))] ?_
        refine aQ ?_
        refine bP 3 ?_
        refine kC (jO []) aG 10 ?_
        refine uJ 1 ?_
        refine kS 2 lo25 2 0 (aD j7) (eI j7.Net) [(aD j7)] hO rfl ?_
        obtain ⟨c39, h2⟩ := bJ h2
        refine dM 6 [0 ≤ i6 ∧ i6 < (lN all4)] ⟨c39, trivial⟩ ?_
        refine kS 0 lo34 2 (0 + Int.toNat i6) (aD (gD all4 i6)) (eI ((gD all4 i6).Net)) (List.map aD all4) hO (cP c39) ?_
        refine uJ 9 ?_
        refine rR 2 lo25 2 0 (aD j7) (aD (aB.mk j7.At (wR (j7.Net + ((gD all4 i6).Net))))) [(aD j7)] [(lo34, 2, List.map aD all4), (lo35, 2, List.map aD out5), (lo25, 2, [(aD (aB.mk j7.At (wR (j7.Net + ((gD all4 i6).Net)))))])] hO rfl (by kernel_rfl) ?_
        intro H hO
        refine xP (by kernel_rfl) ?_
        refine dD [(4, (.msl 2 lo34 0 (List.length all4))), (5, (.msl 2 lo35 0 (List.length out5))), (6, (eI i6)), (7, (.lp lo25 0 0))] ?_
        refine aI (aU (aH (?_)))
        refine aT aG 3 ?_
        refine bC ?_
        exact aI (aH (⟨rfl, _, (oI h2).symm, _, _, .eq (by kernel_rfl), hO⟩))
      refine dU 2 ?_
      obtain rfl := oI h2
      obtain rfl : _ = rr1 := ho1
      replace h1 : uK all4 out5 i6 j7 = some out1 := h1
      exact aI (aZ (aZ (bO (aH (⟨rfl, _, _, _, _, _, _, .eq (by kernel_rfl), hO, h1⟩)))))
  refine dU 0 ?_
  replace hO := hO.pick (L' := [(lo22, 2, List.map aD out5)]) [1] (by decide) (by kernel_rfl)
  obtain rfl := oI h1
  obtain rfl : _ = rr0 := ho0
  replace h0 : uL out5 = some r := h0
  exact aI (aZ (aZ (bO (aH (⟨rfl, _, _, .eq (by kernel_rfl), hO, h0⟩)))))

theorem OD (f0 : (List aB)) (r : ((List aB) × Int)) (h0 : sD f0 = some r) : bT Try.prog 66 [(eL aD f0)] (.tup [(eL aD r.1), (eI r.2)]) := by
  intro H0
  refine cI Try.func66 ?_
  have hO := aO.start H0
  unfold sD at h0
  refine aY aG 2 [] [] ?_
  refine aQ ?_
  refine aT aG 6 ?_
  refine bM 1 ?_
  obtain ⟨x1, hx2, h0⟩ := aV h0
  refine cJ (TQ f0 _ hx2) hO ?_
  intro H hO
  refine bC ?_
  refine bF [(2, (eL aD x1.1)), (3, (eI x1.2))] ?_
  refine bH ?_
  obtain rfl := oI h0
  exact aI (Q_r hO)

theorem SH (l0 : (List aC)) (r : ((List aC) × Int)) (h0 : vQ l0 = some r) : bT Try.prog 28 [(eL aE l0)] (.tup [(eL aE r.1), (eI r.2)]) := by
  intro H0
  refine cI Try.func28 ?_
  have hO := aO.start H0
  unfold vQ at h0
  refine aY aG 2 [] [] ?_
  refine aQ ?_
  refine aQ ?_
  refine aT aG 2 ?_
  refine bM 1 ?_
  obtain ⟨x1, hx2, h0⟩ := aV h0
  refine cJ (mO l0 56 [] [] (fun y0 => sU y0) (fun y0 r h => OR y0 r h) _ hx2) hO ?_
  intro H hO
  refine cH ?_
  refine bS [] [(6, (aL x1))] ?_
  refine bL h0 (fun h0 => ?_) (fun h0 => ?_)
  · refine bV aG 2 [(2, (.sl true 0 (fun _ => .bad))), (3, (eI (2 : Int)))] ?_
    refine bH ?_
    refine cS (l := [(2, (eL aE ([]))), (3, (eI (2 : Int)))]) ⟨[(2, (.sl true 0 (fun _ => .bad))), (3, (eI (2 : Int)))], by kernel_rfl, rfl, ⟨fJ, aX.refl _, trivial⟩⟩ ?_
    obtain rfl := oI h0
    exact aI (bA (Q_r hO))
  refine bN ?_
  refine bF [(0, (eL aE l0))] ?_
  refine aQ ?_
  refine aQ ?_
  refine aT aG 2 ?_
  refine bM 1 ?_
  obtain ⟨x5, hx6, h0⟩ := aV h0
  refine cJ (mO l0 58 [] [] (fun y0 => rU y0) (fun y0 r h => OK y0 r h) _ hx6) hO ?_
  intro H hO
  refine cH ?_
  refine bS [] [(8, (aL x5))] ?_
  refine bL h0 (fun h0 => ?_) (fun h0 => ?_)
  · refine bV aG 2 [(2, (.sl true 0 (fun _ => .bad))), (3, (eI (13 : Int)))] ?_
    refine bH ?_
    refine cS (l := [(2, (eL aE ([]))), (3, (eI (13 : Int)))]) ⟨[(2, (.sl true 0 (fun _ => .bad))), (3, (eI (13 : Int)))], by kernel_rfl, rfl, ⟨fJ, aX.refl _, trivial⟩⟩ ?_
    obtain rfl := oI h0
    exact aI (bA (Q_r hO))
  refine bN ?_
  refine bF [(0, (eL aE l0))] ?_
  refine aQ ?_
  refine aT aG 3 ?_
  refine bM 1 ?_
  obtain ⟨x9, hx10, h0⟩ := aV h0
  refine UH (L' := fun lo11 => [(lo11, 3, List.map aE x9)]) 3 (List.map aE x9) 59 [(eL aE l0)] (fun lo11 => (.msl 3 lo11 0 (List.length x9))) (by kernel_rfl) (by kernel_rfl) (wW l0 _ hx10) hO (fun _ => by kernel_rfl) ?_
  intro lo11 H hO
  refine bC ?_
  refine bF [(4, (.msl 3 lo11 0 (List.length x9)))] ?_
  refine aQ ?_
  refine aT aG 2 ?_
  refine bM 1 ?_
  obtain ⟨x12, hx13, h0⟩ := aV h0
  refine oG [(lo11, 3, List.map aE x12)] 0 (rG lo11 x9 61 [] [] (fun y0 y1 => mN y0 y1) (fun y0 y1 r h => OA y0 y1 r h) _ hx13) hO ?_
  intro H hO hl14
  simp only [List.length_map] at hl14
  refine cH ?_
  refine cS (l := [(4, (.msl 3 lo11 0 (List.length x12)))]) ⟨[(4, (.msl 3 lo11 0 (List.length x9)))], by kernel_rfl, rfl, ⟨aX.eq (by simp [hl14]), trivial⟩⟩ ?_
  refine aI (aH (?_))
  refine aQ ?_
  refine aT aG 6 ?_
  refine BQ (e := aE) x12 0 4 3 lo11 (List.length x12) [] (by kernel_rfl) hO (by kernel_rfl) (by kernel_rfl) (by kernel_rfl) (by kernel_rfl) ?_
  intro H hO
  refine bM 1 ?_
  obtain ⟨x15, hx16, h0⟩ := aV h0
  refine cJ (OI x12 66 [] [] (fun y0 => sD y0) (fun y0 r h => OD y0 r h) _ hx16) hO ?_
  intro H hO
  refine bC ?_
  refine bF [(2, (eL aE x15.1)), (3, (eI x15.2))] ?_
  refine bH ?_
  obtain rfl := oI h0
  exact aI (Q_r hO)

theorem HC (l0 : (List aM)) (r : ((List aC) × Int)) (h0 : qS l0 = some r) : bT Try.prog 33 [(eL aJ l0)] (.tup [(eL aE r.1), (eI r.2)]) := by
  intro H0
  refine cI Try.func33 ?_
  have hO := aO.start H0
  unfold qS at h0
  refine aY aG 2 [] [] ?_
  refine aQ ?_
  refine aQ ?_
  refine aT aG 2 ?_
  refine bM 1 ?_
  obtain ⟨x1, hx2, h0⟩ := aV h0
  refine cJ (rE l0 75 [] [] (fun y0 => qR y0) (fun y0 r h => LS y0 r h) _ hx2) hO ?_
  intro H hO
  refine cH ?_
  refine bS [] [(8, (aL x1))] ?_
  refine bL h0 (fun h0 => ?_) (fun h0 => ?_)
  · refine bV aG 2 [(2, (.sl true 0 (fun _ => .bad))), (3, (eI (2 : Int)))] ?_
    refine bH ?_
    refine cS (l := [(2, (eL aE ([]))), (3, (eI (2 : Int)))]) ⟨[(2, (.sl true 0 (fun _ => .bad))), (3, (eI (2 : Int)))], by kernel_rfl, rfl, ⟨fJ, aX.refl _, trivial⟩⟩ ?_
    obtain rfl := oI h0
    exact aI (bA (Q_r hO))
  refine bN ?_
  refine bF [(0, (eL aJ l0))] ?_
  refine aQ ?_
  refine aY aG 3 [] [(11, (aL (decide ((4096 : Int) < (lN l0)))))] ?_
  refine bL h0 (fun h0 => ?_) (fun h0 => ?_)
  · refine bV aG 2 [(2, (.sl true 0 (fun _ => .bad))), (3, (eI (7 : Int)))] ?_
    refine bH ?_
    refine cS (l := [(2, (eL aE ([]))), (3, (eI (7 : Int)))]) ⟨[(2, (.sl true 0 (fun _ => .bad))), (3, (eI (7 : Int)))], by kernel_rfl, rfl, ⟨fJ, aX.refl _, trivial⟩⟩ ?_
    obtain rfl := oI h0
    exact aI (bA (Q_r hO))
  refine bN ?_
  refine bF [(0, (eL aJ l0))] ?_
  refine aQ ?_
  refine aT aG 5 ?_
  refine bM 3 ?_
  obtain ⟨c6, h0⟩ := bJ h0
  refine HM 3 40 (wR ((2 : Int) * (lN l0))) (by kernel_rfl) (by kernel_rfl) c6 hO ?_
  intro lo7 H hO
  refine bC ?_
  refine bS [] [(4, (.msl 3 lo7 0 (List.length ([] : List aC))))] ?_
  refine dB (fun T H => ∃ out4 : List aC, ∃ lo8 : Nat, Has T [(4, (.msl 3 lo8 0 (List.length out4)))] ∧ aO ⟨H0, [], []⟩ H [(lo8, 3, List.map aE out4)] ∧ sM out4 = some r) ?_ ?_
  · clear hO h0
    rintro T H ⟨out4, lo8, hT, hO, h0⟩
    refine bB hT ?_
    clear hT
    unfold sM at h0
    refine aQ ?_
    refine aT aG 6 ?_
    refine BQ (e := aE) out4 0 4 3 lo8 (List.length out4) [] (by kernel_rfl) hO (by kernel_rfl) (by kernel_rfl) (by kernel_rfl) (by kernel_rfl) ?_
    intro H hO
    refine bM 1 ?_
    obtain ⟨x9, hx10, h0⟩ := aV h0
    refine cJ (SH out4 _ hx10) hO ?_
    intro H hO
    refine bC ?_
    refine bF [(2, (eL aE x9.1)), (3, (eI x9.2))] ?_
    refine bH ?_
    obtain rfl := oI h0
    exact aI (Q_r hO)
  refine aY aG 3 [0] [(16, (eL aJ l0)), (17, (eI (lN l0))), (18, (eI (0 : Int)))] ?_
  refine bP 0 ?_
  refine cT [(4, (.msl 3 lo7 0 (List.length ([] : List aC)))), (16, (eL aJ l0)), (17, (eI (lN l0))), (18, (eI (0 : Int)))] ?_
  refine cL (fun T H => ∃ out4 : List aC, ∃ t16 : (List aM), ∃ t17 : Int, ∃ t18 : Int, ∃ lo13 : Nat, Has T [(4, (.msl 3 lo13 0 (List.length out4))), (16, (eL aJ t16)), (17, (eI t17)), (18, (eI t18))] ∧ aO ⟨H0, [], []⟩ H [(lo13, 3, List.map aE out4)] ∧ wI out4 t16 t17 t18 = some r) ?_ ⟨([] : List aC), l0, (lN l0), (0 : Int), lo7, .eq (by kernel_rfl), hO, h0⟩
  clear hO h0
  rintro T H ⟨out4, t16, t17, t18, lo13, hT, hO, h0⟩
  refine bB hT ?_
  clear hT
  unfold wI at h0
  obtain ⟨rr0, hl0, h0⟩ := aV h0
  refine cB (by kernel_rfl) (fun (s : List aC × Int) T H => ∃ lo13 : Nat, Has T [(4, (.msl 3 lo13 0 (List.length s.1))), (16, (eL aJ t16)), (17, (eI t17)), (18, (eI s.2))] ∧ aO ⟨H0, [], []⟩ H [(lo13, 3, List.map aE s.1)]) hl0 ⟨lo13, .eq (by kernel_rfl), hO⟩ ?_
  clear hO
  rintro k0 s out1 T H ⟨lo13, hT, hO⟩ h1 ho0
  obtain ⟨out4, t18⟩ := s
  replace h1 : mR t16 t17 out4 t18 = some out1 := h1
  try dsimp only at hT
  refine bB hT ?_
  clear hT
  unfold mR at h1
  refine aY aG 1 [] [(19, (aL (decide (t18 < t17))))] ?_
  refine aQ ?_
  refine bL h1 (fun h1 => ?_) (fun h1 => ?_)
  · refine bN ?_
    refine bF [(4, (.msl 3 lo13 0 (List.length out4))), (16, (eL aJ t16)), (17, (eI t17)), (18, (eI t18))] ?_
    refine aQ ?_
    refine bP 1 ?_
    refine aQ ?_
    refine aT aG 4 ?_
    obtain ⟨c15, h1⟩ := bJ h1
    refine qG 2 [0 ≤ t18 ∧ t18 < (lN t16)] ⟨c15, trivial⟩ ?_
    refine qE 3 (.agg [(.sl true 0 (fun _ => .bad)), (eI 0), (eI 0)]) (aJ (aM.mk ([]) (aS.mk 0 0))) (by kernel_rfl) (by kernel_rfl) (by kernel_rfl) (GY (xs := [(.sl true 0 (fun _ => .bad)), (eI 0), (eI 0)]) (ys := [(eL aK ([])), (eI 0), (eI 0)]) ⟨fJ, aX.refl _, aX.refl _, trivial⟩) (by kernel_rfl) (by kernel_rfl) hO ?_
    intro lo16 H hO
    refine iW 1 lo16 3 0 (aJ (aM.mk ([]) (aS.mk 0 0))) (aJ (gD t16 t18)) [(aJ (aM.mk ([]) (aS.mk 0 0)))] [(lo13, 3, List.map aE out4), (lo16, 3, [(aJ (gD t16 t18))])] hO rfl (by kernel_rfl) ?_
    intro H hO
    refine cH ?_
    refine bS [] [(6, (.lp lo16 0 0))] ?_
    refine aT aG 16 ?_
    refine bM 2 ?_
    refine lM 1 lo16 3 0 (aJ (gD t16 t18)) (eL aK ((gD t16 t18).Row)) [(aJ (gD t16 t18))] hO rfl ?_
    refine bM 5 ?_
    refine lM 1 lo16 3 0 (aJ (gD t16 t18)) (eI (((gD t16 t18).Span).From)) [(aJ (gD t16 t18))] hO rfl ?_
    refine bM 8 ?_
    refine lM 1 lo16 3 0 (aJ (gD t16 t18)) (eL aK ((gD t16 t18).Row)) [(aJ (gD t16 t18))] hO rfl ?_
    refine bM 11 ?_
    refine lM 1 lo16 3 0 (aJ (gD t16 t18)) (eI (((gD t16 t18).Span).To)) [(aJ (gD t16 t18))] hO rfl ?_
    refine bM 13 ?_
    refine xY (xs := [(aE (aC.mk ((gD t16 t18).Row) (((gD t16 t18).Span).From) (1 : Int))), (aE (aC.mk ((gD t16 t18).Row) (((gD t16 t18).Span).To) (-1 : Int)))]) (k := 3) (by kernel_rfl) (by kernel_rfl) ?_
    obtain ⟨c18, h1⟩ := bJ h1
    refine HL (e := aE) out4 ([aC.mk ((gD t16 t18).Row) (((gD t16 t18).Span).From) (1 : Int), aC.mk ((gD t16 t18).Row) (((gD t16 t18).Span).To) (-1 : Int)]) 0 lo13 3 40 (fI [(aE (aC.mk ((gD t16 t18).Row) (((gD t16 t18).Span).From) (1 : Int))), (aE (aC.mk ((gD t16 t18).Row) (((gD t16 t18).Span).To) (-1 : Int)))]) (fun lo17 => [(lo17, 3, List.map aE (out4 ++ ([aC.mk ((gD t16 t18).Row) (((gD t16 t18).Span).From) (1 : Int), aC.mk ((gD t16 t18).Row) (((gD t16 t18).Span).To) (-1 : Int)]))), (lo16, 3, [(aJ (gD t16 t18))])]) (by kernel_rfl) (by kernel_rfl) hO (by kernel_rfl) (by kernel_rfl) c18 (fun _ => by kernel_rfl) ?_
    intro lo17 H hO
    refine bC ?_
    refine dD [(4, (.msl 3 lo17 0 (List.length (out4 ++ ([aC.mk ((gD t16 t18).Row) (((gD t16 t18).Span).From) (1 : Int), aC.mk ((gD t16 t18).Row) (((gD t16 t18).Span).To) (-1 : Int)]))))), (16, (eL aJ t16)), (17, (eI t17)), (18, (eI t18))] ?_
    replace hO := hO.pick (L' := [(lo17, 3, List.map aE (out4 ++ ([aC.mk ((gD t16 t18).Row) (((gD t16 t18).Span).From) (1 : Int), aC.mk ((gD t16 t18).Row) (((gD t16 t18).Span).To) (-1 : Int)])))]) [0] (by decide) (by kernel_rfl)
    refine aI (aU (aH (?_)))
    refine aT aG 2 ?_
    refine bC ?_
    exact aI (aH (⟨rfl, _, (oI h1).symm, _, .eq (by kernel_rfl), hO⟩))
  refine dU 0 ?_
  obtain rfl := oI h1
  obtain rfl : _ = rr0 := ho0
  replace h0 : sM out4 = some r := h0
  exact aI (aZ (aZ (bO (aH (⟨rfl, _, _, .eq (by kernel_rfl), hO, h0⟩)))))

theorem HX (l0 : (List aC)) (holds1_f : Nat) (holds1_a holds1_c : List V) (uG : (List aB) → Option Bool) (holds1_h : ∀ a0 r, uG a0 = some r → bT Try.prog holds1_f (holds1_a ++ [(eL aD a0)] ++ holds1_c) (aL r)) (r : Bool) (h0 : sV l0 uG = some r) : bT Try.prog 88 [(eL aE l0), (.fn (.func holds1_f) holds1_a holds1_c)] (aL r) := by
  intro H0
  refine AN aG Try.func88 (by kernel_rfl) (by kernel_rfl) (by kernel_rfl) ?_
  have hO := aO.start H0
  unfold sV at h0
  refine aQ ?_
  refine aT aG 2 ?_
  refine gO 1 (.fn (.func holds1_f) holds1_a holds1_c) (by kernel_rfl) (by kernel_rfl) ?_
  refine nB 1 (aL false) (by kernel_rfl) (by kernel_rfl) hO ?_
  intro lo1 H hO
  refine cH ?_
  refine bS [1] [(3, (.rp (.fn (.func holds1_f) holds1_a holds1_c))), (4, (.lp lo1 0 0))] ?_
  refine aQ ?_
  refine aY aG 3 [] [(11, (aL (decide ((4096 : Int) < (lN l0)))))] ?_
  refine bL h0 (fun h0 => ?_) (fun h0 => ?_)
  · refine aQ ?_
    refine aT aG 1 ?_
    refine iW 0 lo1 1 0 (aL false) (aL false) [(aL false)] [(lo1, 1, [(aL false)])] hO rfl (by kernel_rfl) ?_
    intro H hO
    refine cH ?_
    refine bF [(4, (.lp lo1 0 0))] ?_
    refine bH ?_
    obtain rfl := oI h0
    exact aI (bA (QM0 (.inr rfl) (rs := [.cell 4 4]) (xs := [(aL false)]) (x := (aL false)) (by kernel_rfl) (qY (lo := lo1) (k := 1) (y := (aL false)) (x := (aL false)) 0 hO (by kernel_rfl) (by kernel_rfl) (by kernel_rfl) (by kernel_rfl) nZ) (by kernel_rfl) ⟨rfl, hO.out⟩))
  refine bN ?_
  refine bF [(0, (eL aE l0)), (3, (.rp (.fn (.func holds1_f) holds1_a holds1_c))), (4, (.lp lo1 0 0))] ?_
  refine aQ ?_
  refine aT aG 1 ?_
  refine qE 1 (.sl true 0 (fun _ => .bad)) (eL aK ([])) (by kernel_rfl) (by kernel_rfl) (by kernel_rfl) (fJ) (by kernel_rfl) (by kernel_rfl) hO ?_
  intro lo3 H hO
  refine cH ?_
  refine bS [] [(5, (.lp lo3 0 0))] ?_
  refine aQ ?_
  refine aT aG 2 ?_
  refine nB 1 (aL false) (by kernel_rfl) (by kernel_rfl) hO ?_
  intro lo4 H hO
  refine iW 2 lo4 1 0 (aL false) (aL false) [(aL false)] [(lo1, 1, [(aL false)]), (lo3, 1, [(eL aK ([]))]), (lo4, 1, [(aL false)])] hO rfl (by kernel_rfl) ?_
  intro H hO
  refine cH ?_
  refine bS [] [(6, (.lp lo4 0 0))] ?_
  refine aQ ?_
  refine aQ ?_
  refine aT aG 2 ?_
  refine bM 1 ?_
  obtain ⟨x5, hx6, h0⟩ := aV h0
  refine cJ (CP l0 _ hx6) hO ?_
  intro H hO
  refine cH ?_
  refine bS [0] [(13, (.fn (.func 131) [] [(.rp (eL aE x5))]))] ?_
  refine bP 0 ?_
  refine cT [(3, (.rp (.fn (.func holds1_f) holds1_a holds1_c))), (4, (.lp lo1 0 0)), (5, (.lp lo3 0 0)), (6, (.lp lo4 0 0)), (13, (.fn (.func 131) [] [(.rp (eL aE x5))]))] ?_
  refine cL (fun T H => ∃ t4 : Bool, ∃ oF : (List aF), ∃ jA : Bool, ∃ kB : (List aC), Has T [(3, (.rp (.fn (.func holds1_f) holds1_a holds1_c))), (4, (.lp lo1 0 0)), (5, (.lp lo3 0 0)), (6, (.lp lo4 0 0)), (13, (.fn (.func 131) [] [(.rp (eL aE kB))]))] ∧ aO ⟨H0, [], []⟩ H [(lo1, 1, [(aL t4)]), (lo3, 1, [(eL aK oF)]), (lo4, 1, [(aL jA)])] ∧ xW uG t4 oF jA kB = some r) ?_ ⟨false, [], false, x5, .eq (by kernel_rfl), hO, h0⟩
  clear hO h0
  rintro T H ⟨t4, oF, jA, kB, hT, hO, h0⟩
  refine bB (l := [(3, (.rp (.fn (.func holds1_f) holds1_a holds1_c))), (4, (.lp lo1 0 0)), (5, (.lp lo3 0 0)), (6, (.lp lo4 0 0)), (13, (.fn (.func 131) [] [(.rp (eL aE kB))]))]) hT ?_
  clear hT
  unfold xW at h0
  obtain ⟨o0, hl0, h0⟩ := aV h0
  refine yK (fid := 131) (ys := []) (cs := [(.rp (eL aE kB))]) #[14, 15] (fun (A : xQ) (b lL : Nat) (st : (Bool × (List aF) × Bool) ⊕ (Bool × (List aF) × Bool)) (G' : Gs) => Sum.elim (fun (s : Bool × (List aF) × Bool) => G' = (lL, .raw (iZ b A .ready none)) :: (up [(lo1, 1, [(aL s.1)]), (lo3, 1, [(eL aK s.2.1)]), (lo4, 1, [(aL s.2.2)])] ++ [])) (fun (s : Bool × (List aF) × Bool) => G' = (lL, .raw (iZ b A .done (some .ret))) :: (up [(lo1, 1, [(aL s.1)]), (lo3, 1, [(eL aK s.2.1)]), (lo4, 1, [(aL s.2.2)])] ++ [])) st) (.inl (t4, oF, jA)) o0 (.tup []) (by kernel_rfl) (by kernel_rfl) (by kernel_rfl) hO (fun _ _ => rfl) ?_ ?_
  · intro b lL
    clear hO h0
    refine xL _ b (fun st t14 t15 => rnd (fun (s : Bool × (List aF) × Bool) => oZ uG kB s.1 s.2.1 s.2.2 t14 t15) st) ?_ kB _ _ hl0
    intro st t14 t15 out1 rr hr
    obtain ⟨s, rfl, h1, rfl⟩ := MF hr
    clear hr
    intro Hr Gr hi hg
    obtain ⟨t4, oF, jA⟩ := s
    dsimp only [Sum.elim_inl] at hi
    obtain rfl := hi
    replace h1 : oZ uG kB t4 oF jA t14 t15 = some out1 := h1
    unfold oZ at h1
    obtain ⟨E1, hE, hO⟩ := tB hg
    refine sW (yJ (hO.gm 0 _ rfl).2 (by kernel_rfl) (by kernel_rfl) ?_)
    refine cT [(3, (.rp (.fn (.func holds1_f) holds1_a holds1_c))), (4, (.lp lo1 0 0)), (5, (.lp lo3 0 0)), (6, (.lp lo4 0 0)), (13, (.fn (.func 131) [] [(.rp (eL aE kB))])), (14, (eL aK t14)), (15, (eL aD t15))] ?_
    refine aY aG 1 [13, 14] [(7, (eL aK t14))] ?_
    refine aT aG 1 ?_
    refine bC ?_
    refine dD [(3, (.rp (.fn (.func holds1_f) holds1_a holds1_c))), (4, (.lp lo1 0 0)), (5, (.lp lo3 0 0)), (6, (.lp lo4 0 0)), (7, (eL aK t14)), (8, (eL aD t15))] ?_
    refine aI (⟨rfl, rfl, (hO.gm 0 _ rfl).2, ?_⟩)
    intro o1 ho1
    replace hO := hO.rS o1
    refine bP 1 ?_
    refine aQ ?_
    refine aQ ?_
    refine aT aG 18 ?_
    refine bM 1 ?_
    obtain ⟨x7, hx8, h1⟩ := aV h1
    refine cJ (xB t14 _ hx8) hO ?_
    intro H hO
    refine bM 4 ?_
    refine yN [(19, false)] 2 lo4 1 0 (aL jA) (aL jA) [(aL jA)] (by kernel_rfl) (by kernel_rfl) hO (by kernel_rfl) (!(!x7)) (by kernel_rfl) (fun hb10 => rfl) ?_
    refine bM 6 ?_
    refine yN [(21, true), (19, false)] 1 lo3 1 0 (eL aK oF) (eL aK oF) [(eL aK oF)] (by kernel_rfl) (by kernel_rfl) hO (by kernel_rfl) (jA && (!(!x7))) (by kernel_rfl) (fun hb11 => rfl) ?_
    refine bM 8 ?_
    obtain ⟨x12, hx13, h1⟩ := aV h1
    refine gQ [(21, true), (19, false)] 63 [(eL aK oF), (eL aK t14)] (eI x12) (jA && (!(!x7))) (by kernel_rfl) (by kernel_rfl) (by kernel_rfl) (fun hb14 => (FA oF t14 _ (jH hx13 hb14))) hO ?_
    intro H hO
    refine bM 15 ?_
    obtain ⟨x15, hx16, h1⟩ := aV h1
    refine gQ [(28, false)] holds1_f (holds1_a ++ [(eL aD t15)] ++ holds1_c) (aL x15) (!((!x7) || (jA && (decide ((0 : Int) ≤ x12))))) (by kernel_rfl) (by kernel_rfl) (by kernel_rfl) (fun hb17 => (holds1_h t15 _ (jH hx16 hb17))) hO ?_
    intro H hO
    refine bC ?_
    refine bS [3, 8] [(33, (aL (((!x7) || (jA && (decide ((0 : Int) ≤ x12)))) || (!x15))))] ?_
    refine bL h1 (fun h1 => ?_) (fun h1 => ?_)
    · refine aQ ?_
      refine aT aG 1 ?_
      refine iW 0 lo1 1 0 (aL t4) (aL false) [(aL t4)] [(lo1, 1, [(aL false)]), (lo3, 1, [(eL aK oF)]), (lo4, 1, [(aL jA)])] hO rfl (by kernel_rfl) ?_
      intro H hO
      refine cH ?_
      refine bS [7, 33] [] ?_
      refine bH ?_
      refine dD [(4, (.lp lo1 0 0)), (5, (.lp lo3 0 0)), (6, (.lp lo4 0 0))] ?_
      obtain rfl := oI h1
      exact aI (bA (bR (⟨(dZ hO hE ho1 .dead).1, rfl, _, rfl, (dZ hO hE ho1 _).2⟩)))
    refine bN ?_
    refine bF [(4, (.lp lo1 0 0)), (5, (.lp lo3 0 0)), (6, (.lp lo4 0 0)), (7, (eL aK t14))] ?_
    refine aT aG 3 ?_
    refine bM 1 ?_
    refine iW 1 lo3 1 0 (eL aK oF) (eL aK t14) [(eL aK oF)] [(lo1, 1, [(aL t4)]), (lo3, 1, [(eL aK t14)]), (lo4, 1, [(aL jA)])] hO rfl (by kernel_rfl) ?_
    intro H hO
    refine iW 2 lo4 1 0 (aL jA) (aL true) [(aL jA)] [(lo1, 1, [(aL t4)]), (lo3, 1, [(eL aK t14)]), (lo4, 1, [(aL true)])] hO rfl (by kernel_rfl) ?_
    intro H hO
    refine cH ?_
    refine dD [(4, (.lp lo1 0 0)), (5, (.lp lo3 0 0)), (6, (.lp lo4 0 0))] ?_
    obtain rfl := oI h1
    exact aI (aU (⟨(dZ hO hE ho1 .dead).1, rfl, _, rfl, (dZ hO hE ho1 _).2⟩))
  · intro b lD19 lL H' G' hi hO
    rcases o0 with s | s
    · dsimp only [Sum.elim_inl] at hi
      obtain rfl := hi
      replace h0 : (some true) = some r := h0
      obtain ⟨hlL, hO⟩ := nL hO
      refine ⟨_, _, hlL, (by intro e; cases e), ?_⟩
      refine dD [(4, (.lp lo1 0 0))] ?_
      replace hO := hO.pick (L' := [(lo1, 1, [(aL s.1)])]) [0] (by decide) (by kernel_rfl)
      refine aI (aU (aH (?_)))
      refine aQ ?_
      refine aT aG 1 ?_
      refine iW 0 lo1 1 0 (aL s.1) (aL true) [(aL s.1)] [(lo1, 1, [(aL true)])] hO rfl (by kernel_rfl) ?_
      intro H hO
      refine cH ?_
      refine bF [(4, (.lp lo1 0 0))] ?_
      refine bH ?_
      obtain rfl := oI h0
      have hD := (hO.gm 0 _ rfl).2
      replace hO := (hO.rS .dead).rI
      exact aI (QM1 (.inr rfl) hD (rs := [.cell 4 4]) (xs := [(aL true)]) (x := (aL true)) (by kernel_rfl) (qY (lo := lo1) (k := 1) (y := (aL true)) (x := (aL true)) 0 hO (by kernel_rfl) (by kernel_rfl) (by kernel_rfl) (by kernel_rfl) nZ) (by kernel_rfl) ⟨rfl, hO.out⟩)
    · dsimp only [Sum.elim_inr] at hi
      obtain rfl := hi
      replace h0 : (some s.1) = some r := h0
      obtain ⟨hlL, hO⟩ := nL hO
      refine ⟨_, _, hlL, (by intro e; cases e), ?_⟩
      refine bH ?_
      replace hO := hO.pick (L' := [(lo1, 1, [(aL s.1)])]) [0] (by decide) (by kernel_rfl)
      obtain rfl := oI h0
      have hD := (hO.gm 0 _ rfl).2
      replace hO := (hO.rS .dead).rI
      exact aI (bR (bA (QM1 (.inr rfl) hD (rs := [.cell 4 4]) (xs := [(aL s.1)]) (x := (aL s.1)) (by kernel_rfl) (qY (lo := lo1) (k := 1) (y := (aL s.1)) (x := (aL s.1)) 0 hO (by kernel_rfl) (by kernel_rfl) (by kernel_rfl) (by kernel_rfl) nZ) (by kernel_rfl) ⟨rfl, hO.out⟩)))

theorem KU (l0 : (List aC)) (r : Bool) (h0 : uS l0 = some r) : bT Try.prog 49 [(eL aE l0)] (aL r) := by
  intro H0
  refine cI Try.func49 ?_
  have hO := aO.start H0
  unfold uS at h0
  refine aY aG 1 [] [] ?_
  refine aQ ?_
  refine aT aG 3 ?_
  refine bM 1 ?_
  obtain ⟨x1, hx2, h0⟩ := aV h0
  refine cJ (HX l0 68 [] [] (fun y0 => oH y0) (fun y0 r h => AG y0 r h) _ hx2) hO ?_
  intro H hO
  refine bC ?_
  refine bF [(2, (aL x1))] ?_
  refine bH ?_
  obtain rfl := oI h0
  exact aI (Q_r hO)

theorem QD (f0 : (List aB)) (r : Int) (h0 : tV f0 = some r) : bT Try.prog 69 [(eL aD f0)] (eI r) := by
  intro H0
  refine cI Try.func69 ?_
  have hO := aO.start H0
  unfold tV at h0
  refine aY aG 1 [] [] ?_
  refine aQ ?_
  refine aQ ?_
  refine aT aG 8 ?_
  refine bM 1 ?_
  obtain ⟨x1, hx2, h0⟩ := aV h0
  refine cJ (AG f0 _ hx2) hO ?_
  intro H hO
  refine bC ?_
  refine bS [] [(14, (aL ((!x1) || (decide ((lN f0) = (0 : Int))))))] ?_
  refine bL h0 (fun h0 => ?_) (fun h0 => ?_)
  · refine bV aG 1 [(2, (eI (0 : Int)))] ?_
    refine bH ?_
    obtain rfl := oI h0
    exact aI (bA (Q_r hO))
  refine bN ?_
  refine bF [(0, (eL aD f0))] ?_
  refine aY aG 2 [] [(3, (eI (0 : Int))), (4, (eI (0 : Int)))] ?_
  refine dB (fun T H => ∃ v3 : Int, ∃ fB : Int, Has T [(0, (eL aD f0)), (3, (eI v3)), (4, (eI fB))] ∧ aO ⟨H0, [], []⟩ H [] ∧ pT f0 v3 fB = some r) ?_ ?_
  · clear hO h0
    rintro T H ⟨v3, fB, hT, hO, h0⟩
    refine bB hT ?_
    clear hT
    unfold pT at h0
    refine dB (fun T H => ∃ fB : Int, Has T [(4, (eI fB))] ∧ aO ⟨H0, [], []⟩ H [] ∧ rY fB = some r) ?_ ?_
    · clear hO h0
      rintro T H ⟨fB, hT, hO, h0⟩
      refine bB hT ?_
      clear hT
      unfold rY at h0
      refine bV aG 2 [(2, (eI fB))] ?_
      refine bH ?_
      obtain rfl := oI h0
      exact aI (Q_r hO)
    refine aY aG 3 [0] [(24, (eL aD f0)), (25, (eI (lN f0))), (26, (eI (0 : Int)))] ?_
    refine bP 0 ?_
    refine cT [(3, (eI v3)), (4, (eI fB)), (24, (eL aD f0)), (25, (eI (lN f0))), (26, (eI (0 : Int)))] ?_
    refine cL (fun T H => ∃ v3 : Int, ∃ fB : Int, ∃ t24 : (List aB), ∃ t25 : Int, ∃ t26 : Int, Has T [(3, (eI v3)), (4, (eI fB)), (24, (eL aD t24)), (25, (eI t25)), (26, (eI t26))] ∧ aO ⟨H0, [], []⟩ H [] ∧ sR v3 fB t24 t25 t26 = some r) ?_ ⟨v3, fB, f0, (lN f0), (0 : Int), .eq (by kernel_rfl), hO, h0⟩
    clear hO h0
    rintro T H ⟨v3, fB, t24, t25, t26, hT, hO, h0⟩
    refine bB hT ?_
    clear hT
    unfold sR at h0
    obtain ⟨rr0, hl0, h0⟩ := aV h0
    refine cB (by kernel_rfl) (fun (s : Int × Int × Int) T H => Has T [(3, (eI s.1)), (4, (eI s.2.1)), (24, (eL aD t24)), (25, (eI t25)), (26, (eI s.2.2))] ∧ aO ⟨H0, [], []⟩ H []) hl0 ⟨.eq (by kernel_rfl), hO⟩ ?_
    clear hO
    rintro k0 s out1 T H ⟨hT, hO⟩ h1 ho0
    obtain ⟨v3, fB, t26⟩ := s
    replace h1 : mL t24 t25 v3 fB t26 = some out1 := h1
    try dsimp only at hT
    refine bB hT ?_
    clear hT
    unfold mL at h1
    refine aY aG 1 [] [(27, (aL (decide (t26 < t25))))] ?_
    refine aQ ?_
    refine bL h1 (fun h1 => ?_) (fun h1 => ?_)
    · refine bN ?_
      refine bF [(3, (eI v3)), (4, (eI fB)), (24, (eL aD t24)), (25, (eI t25)), (26, (eI t26))] ?_
      refine aQ ?_
      refine bP 1 ?_
      refine aQ ?_
      refine aT aG 4 ?_
      obtain ⟨c6, h1⟩ := bJ h1
      refine qG 2 [0 ≤ t26 ∧ t26 < (lN t24)] ⟨c6, trivial⟩ ?_
      refine nB 2 (aD (aB.mk 0 0)) (by kernel_rfl) (by kernel_rfl) hO ?_
      intro lo7 H hO
      refine iW 0 lo7 2 0 (aD (aB.mk 0 0)) (aD (gD t24 t26)) [(aD (aB.mk 0 0))] [(lo7, 2, [(aD (gD t24 t26))])] hO rfl (by kernel_rfl) ?_
      intro H hO
      refine cH ?_
      refine bS [] [(6, (.lp lo7 0 0))] ?_
      refine aQ ?_
      refine aT aG 5 ?_
      refine bM 2 ?_
      refine lM 0 lo7 2 0 (aD (gD t24 t26)) (eI ((gD t24 t26).Net)) [(aD (gD t24 t26))] hO rfl ?_
      refine bC ?_
      replace hO := hO.pick (L' := []) [] (by decide) (by kernel_rfl)
      refine bS [3, 6] [(3, (eI (wR (v3 + ((gD t24 t26).Net)))))] ?_
      refine aT aG 4 ?_
      refine bC ?_
      refine dD [(3, (eI (wR (v3 + ((gD t24 t26).Net))))), (4, (eI (if (wR (v3 + ((gD t24 t26).Net))) < fB then (wR (v3 + ((gD t24 t26).Net))) else fB))), (24, (eL aD t24)), (25, (eI t25)), (26, (eI t26))] ?_
      refine aI (aU (aH (?_)))
      refine aT aG 2 ?_
      refine bC ?_
      exact aI (aH (⟨rfl, _, (oI h1).symm, .eq (by kernel_rfl), hO⟩))
    refine dU 0 ?_
    obtain rfl := oI h1
    obtain rfl : _ = rr0 := ho0
    replace h0 : rY fB = some r := h0
    exact aI (aZ (aZ (bO (aH (⟨rfl, _, .eq (by kernel_rfl), hO, h0⟩)))))
  refine aQ ?_
  refine aT aG 5 ?_
  obtain ⟨c8, h0⟩ := bJ h0
  refine vB [0 ≤ (0 : Int) ∧ (0 : Int) < (lN f0)] ⟨c8, trivial⟩ ?_
  refine bS [] [(19, (aL (decide (((gD f0 (0 : Int)).At) = (-1 : Int)))))] ?_
  refine bL h0 (fun h0 => ?_) (fun h0 => ?_)
  · refine aT aG 5 ?_
    obtain ⟨c10, h0⟩ := bJ h0
    refine vB [0 ≤ (0 : Int) ∧ (0 : Int) < (lN f0)] ⟨c10, trivial⟩ ?_
    exact aI (aH (⟨rfl, _, _, .eq (by kernel_rfl), hO, h0⟩))
  refine bN ?_
  exact aI (aH (⟨rfl, _, _, .eq (by kernel_rfl), hO, h0⟩))

theorem MC (f0 : (List aB)) (r : Bool) (h0 : qW f0 = some r) : bT Try.prog 119 [(eL aD f0)] (aL r) := by
  intro H0
  refine cI Try.func119 ?_
  have hO := aO.start H0
  unfold qW at h0
  refine aY aG 1 [] [] ?_
  refine aQ ?_
  refine aT aG 8 ?_
  refine bM 1 ?_
  obtain ⟨x1, hx2, h0⟩ := aV h0
  refine cJ (AG f0 _ hx2) hO ?_
  intro H hO
  refine bM 4 ?_
  obtain ⟨x4, hx5, h0⟩ := aV h0
  refine gQ [(5, true)] 69 [(eL aD f0)] (eI x4) x1 (by kernel_rfl) (by kernel_rfl) (by kernel_rfl) (fun hb6 => (QD f0 _ (jH hx5 hb6))) hO ?_
  intro H hO
  refine bC ?_
  refine bF [(2, (aL (x1 && (decide ((0 : Int) ≤ x4)))))] ?_
  refine bH ?_
  obtain rfl := oI h0
  exact aI (Q_r hO)

theorem RN (l0 : (List aC)) (r : Bool) (h0 : uI l0 = some r) : bT Try.prog 86 [(eL aE l0)] (aL r) := by
  intro H0
  refine cI Try.func86 ?_
  have hO := aO.start H0
  unfold uI at h0
  refine aY aG 1 [] [] ?_
  refine aQ ?_
  refine aT aG 3 ?_
  refine bM 1 ?_
  obtain ⟨x1, hx2, h0⟩ := aV h0
  refine cJ (HX l0 119 [] [] (fun y0 => qW y0) (fun y0 r h => MC y0 r h) _ hx2) hO ?_
  intro H hO
  refine bC ?_
  refine bF [(2, (aL x1))] ?_
  refine bH ?_
  obtain rfl := oI h0
  exact aI (Q_r hO)

theorem zT (l0 : (List aC)) (r : (List aC)) (h0 : mT l0 = some r) : bT Try.prog 77 [(eL aE l0)] (.fn (.func 117) [] [(.rp (eL aE r))]) := by
  intro H0
  refine cI Try.func77 ?_
  have hO := aO.start H0
  unfold mT at h0
  refine aQ ?_
  refine aT aG 2 ?_
  refine gO 1 (eL aE l0) (by kernel_rfl) (by kernel_rfl) ?_
  refine bC ?_
  refine bF [(1, (.rp (eL aE l0)))] ?_
  refine bV aG 2 [(2, (.fn (.func 117) [] [(.rp (eL aE l0))]))] ?_
  refine bH ?_
  obtain rfl := oI h0
  exact aI (pY (x := (.fn (.func 117) [] [(.rp (eL aE l0))])) (by kernel_rfl) (aX.refl _) ⟨rfl, hO.out⟩)

theorem vD {σ : Type} (I : σ → Gs → Prop) (yield0_b : Nat) (eC : σ → (List aF) → (List aB) → Option (σ × Bool)) (yield0_h : ∀ st a0 a1 st2 r, eC st a0 a1 = some (st2, r) → HJ Try.prog (yv yield0_b) I st [(eL aK a0), (eL aD a1)] st2 (aL r)) (t1 : (List aC)) (sg0 : σ) (r : σ) (h0 : kW eC t1 sg0 = some r) : AI Try.prog 117 I sg0 [(yv yield0_b), (.rp (eL aE t1))] r (.tup []) := by
  intro H0 G0 hI hg
  refine AN aG Try.func117 (by kernel_rfl) (by kernel_rfl) (by kernel_rfl) ?_
  obtain ⟨G, hO, hI⟩ : ∃ G, aO ⟨H0, List.map (fun p : Nat × cU => p.1) G0, G⟩ H0 [] ∧ I sg0 G := ⟨G0, aO.JR hg, hI⟩
  clear hg
  unfold kW at h0
  refine aQ ?_
  refine aT aG 1 ?_
  refine gO 1 (yv yield0_b) (by kernel_rfl) (by kernel_rfl) ?_
  refine cH ?_
  refine bS [0] [(2, (.rp (yv yield0_b)))] ?_
  refine aQ ?_
  refine aQ ?_
  refine aT aG 3 ?_
  refine bM 1 ?_
  obtain ⟨x1, hx2, h0⟩ := aV h0
  refine cJ (KU t1 _ hx2) hO ?_
  intro H hO
  refine bC ?_
  refine bS [] [(7, (aL (!x1)))] ?_
  refine bL h0 (fun h0 => ?_) (fun h0 => ?_)
  · refine bH ?_
    obtain rfl := oI h0
    exact aI (bA (QM0 (.inr rfl) (rs := []) (xs := []) (x := (.tup [])) (by kernel_rfl) nZ (by kernel_rfl) ⟨rfl, G, hI, hO.GN⟩))
  refine bN ?_
  refine bF [(1, (.rp (eL aE t1))), (2, (.rp (yv yield0_b)))] ?_
  refine aQ ?_
  refine aT aG 2 ?_
  refine bM 1 ?_
  obtain ⟨x5, hx6, h0⟩ := aV h0
  refine cJ (CP t1 _ hx6) hO ?_
  intro H hO
  refine cH ?_
  refine bS [1] [(9, (.fn (.func 131) [] [(.rp (eL aE x5))]))] ?_
  refine bP 0 ?_
  refine cT [(2, (.rp (yv yield0_b))), (9, (.fn (.func 131) [] [(.rp (eL aE x5))]))] ?_
  refine cL (fun T H => ∃ sg : σ, ∃ t9c0 : (List aC), ∃ G : Gs, Has T [(2, (.rp (yv yield0_b))), (9, (.fn (.func 131) [] [(.rp (eL aE t9c0))]))] ∧ aO ⟨H0, List.map (fun p : Nat × cU => p.1) G0, G⟩ H [] ∧ I sg G ∧ qA eC sg t9c0 = some r) ?_ ⟨sg0, x5, G, .eq (by kernel_rfl), hO, hI, h0⟩
  clear hO hI h0
  rintro T H ⟨sg, t9c0, G, hT, hO, hI, h0⟩
  refine bB (l := [(2, (.rp (yv yield0_b))), (9, (.fn (.func 131) [] [(.rp (eL aE t9c0))]))]) hT ?_
  clear hT
  unfold qA at h0
  obtain ⟨o0, hl0, h0⟩ := aV h0
  refine yK (fid := 131) (ys := []) (cs := [(.rp (eL aE t9c0))]) #[10, 11] (fun (A : xQ) (b lL : Nat) (st : (σ) ⊕ (σ)) (G' : Gs) => Sum.elim (fun (s : σ) => ∃ G : Gs, I s G ∧ G' = (lL, .raw (iZ b A .ready none)) :: (up [] ++ G)) (fun (s : σ) => ∃ G : Gs, I s G ∧ G' = (lL, .raw (iZ b A .done (some .ret))) :: (up [] ++ G)) st) (.inl sg) o0 (.tup []) (by kernel_rfl) (by kernel_rfl) (by kernel_rfl) hO (fun _ _ => ⟨G, hI, rfl⟩) ?_ ?_
  · intro b lL
    clear hO hI h0
    refine xL _ b (fun st t10 t11 => rnd (fun (s : σ) => jJ eC t9c0 s t10 t11) st) ?_ t9c0 _ _ hl0
    intro st t10 t11 out1 rr hr
    obtain ⟨s, rfl, h1, rfl⟩ := MF hr
    clear hr
    intro Hr Gr hi hg
    obtain ⟨sg, rfl⟩ : ∃ x, x = s := ⟨_, rfl⟩
    dsimp only [Sum.elim_inl] at hi
    obtain ⟨G, hI, rfl⟩ := hi
    replace h1 : jJ eC t9c0 sg t10 t11 = some out1 := h1
    unfold jJ at h1
    obtain ⟨E1, hE, hO⟩ := tB hg
    refine sW (yJ (hO.gm 0 _ rfl).2 (by kernel_rfl) (by kernel_rfl) ?_)
    refine cT [(2, (.rp (yv yield0_b))), (9, (.fn (.func 131) [] [(.rp (eL aE t9c0))])), (10, (eL aK t10)), (11, (eL aD t11))] ?_
    refine aY aG 1 [9, 10] [(3, (eL aK t10))] ?_
    refine aT aG 1 ?_
    refine bC ?_
    refine dD [(2, (.rp (yv yield0_b))), (3, (eL aK t10)), (4, (eL aD t11))] ?_
    refine aI (⟨rfl, rfl, (hO.gm 0 _ rfl).2, ?_⟩)
    intro o1 ho1
    replace hO := hO.rS o1
    refine bP 1 ?_
    refine aQ ?_
    refine aT aG 5 ?_
    refine bM 3 ?_
    obtain ⟨x7, hx8, h1⟩ := aV h1
    refine aAe (I := I) (yv yield0_b) [(eL aK t10), (eL aD t11)] (aL x7.2) (by kernel_rfl) (by kernel_rfl) (yield0_h _ t10 t11 x7.1 x7.2 hx8) hO hI ?_
    intro G H hO hI
    refine bC ?_
    refine bF [(16, (aL (!x7.2)))] ?_
    refine bL h1 (fun h1 => ?_) (fun h1 => ?_)
    · refine bH ?_
      refine dD [] ?_
      obtain rfl := oI h1
      exact aI (bR (⟨(dZ hO hE ho1 .dead).1, rfl, _, ⟨G, hI, rfl⟩, (dZ hO hE ho1 _).2⟩))
    refine bN ?_
    refine dD [] ?_
    obtain rfl := oI h1
    exact aI (aU (⟨(dZ hO hE ho1 .dead).1, rfl, _, ⟨G, hI, rfl⟩, (dZ hO hE ho1 _).2⟩))
  · intro b lD10 lL H' G' hi hO
    rcases o0 with s | s
    · dsimp only [Sum.elim_inl] at hi
      obtain ⟨G, hI, rfl⟩ := hi
      replace h0 : (some s) = some r := h0
      obtain ⟨hlL, hO⟩ := nL hO
      refine ⟨_, _, hlL, (by intro e; cases e), ?_⟩
      obtain rfl := oI h0
      have hD := (hO.gm 0 _ rfl).2
      replace hO := (hO.rS .dead).rI
      exact aI (aU (QM1 (.inl rfl) hD (rs := []) (xs := []) (x := (.tup [])) (by kernel_rfl) nZ (by kernel_rfl) ⟨rfl, G, hI, hO.GN⟩))
    · dsimp only [Sum.elim_inr] at hi
      obtain ⟨G, hI, rfl⟩ := hi
      replace h0 : (some s) = some r := h0
      obtain ⟨hlL, hO⟩ := nL hO
      refine ⟨_, _, hlL, (by intro e; cases e), ?_⟩
      refine bH ?_
      obtain rfl := oI h0
      have hD := (hO.gm 0 _ rfl).2
      replace hO := (hO.rS .dead).rI
      exact aI (bR (QM1 (.inr rfl) hD (rs := []) (xs := []) (x := (.tup [])) (by kernel_rfl) nZ (by kernel_rfl) ⟨rfl, G, hI, hO.GN⟩))

theorem IF (f0 : (List aB)) (r : Int) (h0 : qJ f0 = some r) : bT Try.prog 70 [(eL aD f0)] (eI r) := by
  intro H0
  refine cI Try.func70 ?_
  have hO := aO.start H0
  unfold qJ at h0
  refine aY aG 1 [] [] ?_
  refine aY aG 1 [] [(3, (eI (0 : Int)))] ?_
  refine dB (fun T H => ∃ n3 : Int, Has T [(3, (eI n3))] ∧ aO ⟨H0, [], []⟩ H [] ∧ tW n3 = some r) ?_ ?_
  · clear hO h0
    rintro T H ⟨n3, hT, hO, h0⟩
    refine bB hT ?_
    clear hT
    unfold tW at h0
    refine bV aG 2 [(2, (eI n3))] ?_
    refine bH ?_
    obtain rfl := oI h0
    exact aI (Q_r hO)
  refine aY aG 3 [0] [(6, (eL aD f0)), (7, (eI (lN f0))), (8, (eI (0 : Int)))] ?_
  refine bP 0 ?_
  refine cT [(3, (eI (0 : Int))), (6, (eL aD f0)), (7, (eI (lN f0))), (8, (eI (0 : Int)))] ?_
  refine cL (fun T H => ∃ n3 : Int, ∃ t6 : (List aB), ∃ t7 : Int, ∃ t8 : Int, Has T [(3, (eI n3)), (6, (eL aD t6)), (7, (eI t7)), (8, (eI t8))] ∧ aO ⟨H0, [], []⟩ H [] ∧ yE n3 t6 t7 t8 = some r) ?_ ⟨(0 : Int), f0, (lN f0), (0 : Int), .eq (by kernel_rfl), hO, h0⟩
  clear hO h0
  rintro T H ⟨n3, t6, t7, t8, hT, hO, h0⟩
  refine bB hT ?_
  clear hT
  unfold yE at h0
  obtain ⟨rr0, hl0, h0⟩ := aV h0
  refine cB (by kernel_rfl) (fun (s : Int × Int) T H => Has T [(3, (eI s.1)), (6, (eL aD t6)), (7, (eI t7)), (8, (eI s.2))] ∧ aO ⟨H0, [], []⟩ H []) hl0 ⟨.eq (by kernel_rfl), hO⟩ ?_
  clear hO
  rintro k0 s out1 T H ⟨hT, hO⟩ h1 ho0
  obtain ⟨n3, t8⟩ := s
  replace h1 : nR t6 t7 n3 t8 = some out1 := h1
  try dsimp only at hT
  refine bB hT ?_
  clear hT
  unfold nR at h1
  refine aY aG 1 [] [(9, (aL (decide (t8 < t7))))] ?_
  refine aQ ?_
  refine bL h1 (fun h1 => ?_) (fun h1 => ?_)
  · refine bN ?_
    refine bF [(3, (eI n3)), (6, (eL aD t6)), (7, (eI t7)), (8, (eI t8))] ?_
    refine aQ ?_
    refine bP 1 ?_
    refine aQ ?_
    refine aT aG 4 ?_
    obtain ⟨c2, h1⟩ := bJ h1
    refine qG 2 [0 ≤ t8 ∧ t8 < (lN t6)] ⟨c2, trivial⟩ ?_
    refine nB 2 (aD (aB.mk 0 0)) (by kernel_rfl) (by kernel_rfl) hO ?_
    intro lo3 H hO
    refine iW 0 lo3 2 0 (aD (aB.mk 0 0)) (aD (gD t6 t8)) [(aD (aB.mk 0 0))] [(lo3, 2, [(aD (gD t6 t8))])] hO rfl (by kernel_rfl) ?_
    intro H hO
    refine cH ?_
    refine bS [] [(5, (.lp lo3 0 0))] ?_
    refine aT aG 6 ?_
    refine bM 2 ?_
    refine lM 0 lo3 2 0 (aD (gD t6 t8)) (eI ((gD t6 t8).Net)) [(aD (gD t6 t8))] hO rfl ?_
    refine bC ?_
    refine dD [(3, (eI (wR (n3 + (if (0 : Int) > ((gD t6 t8).Net) then (0 : Int) else ((gD t6 t8).Net)))))), (6, (eL aD t6)), (7, (eI t7)), (8, (eI t8))] ?_
    replace hO := hO.pick (L' := []) [] (by decide) (by kernel_rfl)
    refine aI (aU (aH (?_)))
    refine aT aG 2 ?_
    refine bC ?_
    exact aI (aH (⟨rfl, _, (oI h1).symm, .eq (by kernel_rfl), hO⟩))
  refine dU 0 ?_
  obtain rfl := oI h1
  obtain rfl : _ = rr0 := ho0
  replace h0 : tW n3 = some r := h0
  exact aI (aZ (aZ (bO (aH (⟨rfl, _, .eq (by kernel_rfl), hO, h0⟩)))))

theorem zF (t0 : Int) (lo1p : Nat) (lo1q : Nat) (t1 : (List aS)) (lo2p : Nat) (t2 : Int) (r : ((List aS) × Int)) (h0 : lR t0 t1 t2 = some r) : KM Try.prog 115 [(eI t0), (.lp lo1p 0 0), (.lp lo2p 0 0)] [(lo1p, 1, [(.msl 2 lo1q 0 (List.length t1))]), (lo1q, 2, List.map bK t1), (lo2p, 1, [(eI t2)])] (fun x L => ∃ lo1n : Nat, x = (.tup []) ∧ L = [(lo1p, 1, [(.msl 2 lo1n 0 (List.length r.1))]), (lo1n, 2, List.map bK r.1), (lo2p, 1, [(eI r.2)])]) := by
  intro F H0 hO
  obtain ⟨Fh, Fe, Fg⟩ := F
  refine cI Try.func115 ?_
  unfold lR at h0
  refine aQ ?_
  refine aT aG 6 ?_
  refine lM 0 lo1p 1 0 (.msl 2 lo1q 0 (List.length t1)) (.msl 2 lo1q 0 (List.length t1)) [(.msl 2 lo1q 0 (List.length t1))] hO rfl ?_
  refine lM 2 lo2p 1 0 (eI t2) (eI t2) [(eI t2)] hO rfl ?_
  obtain ⟨c1, h0⟩ := bJ h0
  refine qG 5 [0 ≤ t2 ∧ t2 < (lN t1)] ⟨c1, trivial⟩ ?_
  refine iW 1 lo1q 2 (0 + Int.toNat t2) (bK (gD t1 t2)) (bK (aS.mk (gD t1 t2).From t0)) (List.map bK t1) [(lo1p, 1, [(.msl 2 lo1q 0 (List.length t1))]), (lo1q, 2, List.map bK (List.set t1 (Int.toNat t2) (aS.mk (gD t1 t2).From t0))), (lo2p, 1, [(eI t2)])] hO (cP c1) (by simp only [List.set, nP]) ?_
  intro H hO
  refine cH ?_
  replace hO : aO ⟨Fh, Fe, Fg⟩ H [(lo1p, 1, [(.msl 2 lo1q 0 (List.length (List.set t1 (Int.toNat t2) (aS.mk (gD t1 t2).From t0))))]), (lo1q, 2, List.map bK (List.set t1 (Int.toNat t2) (aS.mk (gD t1 t2).From t0))), (lo2p, 1, [(eI t2)])] := by simpa only [List.length_set] using hO
  refine bS [0] [] ?_
  refine aT aG 3 ?_
  refine lM 2 lo2p 1 0 (eI t2) (eI t2) [(eI t2)] hO rfl ?_
  refine bM 2 ?_
  refine iW 2 lo2p 1 0 (eI t2) (eI (wR (t2 + (1 : Int)))) [(eI t2)] [(lo1p, 1, [(.msl 2 lo1q 0 (List.length (List.set t1 (Int.toNat t2) (aS.mk (gD t1 t2).From t0))))]), (lo1q, 2, List.map bK (List.set t1 (Int.toNat t2) (aS.mk (gD t1 t2).From t0))), (lo2p, 1, [(eI (wR (t2 + (1 : Int))))])] hO rfl (by kernel_rfl) ?_
  intro H hO
  refine cH ?_
  obtain rfl := oI h0
  exact aI (aCi hO ⟨lo1q, rfl, rfl⟩)

theorem RA (f0 : (List aB)) (r : (List aS)) (h0 : uE f0 = some r) : bT Try.prog 71 [(eL aD f0)] (eL bK r) := by
  intro H0
  refine cI Try.func71 ?_
  have hO := aO.start H0
  unfold uE at h0
  refine aY aG 1 [] [] ?_
  refine aQ ?_
  refine aT aG 5 ?_
  refine bM 1 ?_
  obtain ⟨x1, hx2, h0⟩ := aV h0
  refine cJ (IF f0 _ hx2) hO ?_
  intro H hO
  obtain ⟨c4, h0⟩ := bJ h0
  refine HM 2 16 x1 (by kernel_rfl) (by kernel_rfl) c4 hO ?_
  intro lo5 H hO
  refine qE 1 (.sl true 0 (fun _ => .bad)) (eL bK ([])) (by kernel_rfl) (by kernel_rfl) (by kernel_rfl) (fJ) (by kernel_rfl) (by kernel_rfl) hO ?_
  intro lo6 H hO
  refine iW 1 lo6 1 0 (eL bK ([])) (.msl 2 lo5 0 (List.length ([] : List aS))) [(eL bK ([]))] [(lo5, 2, List.map bK ([] : List aS)), (lo6, 1, [(.msl 2 lo5 0 (List.length ([] : List aS)))])] hO rfl (by kernel_rfl) ?_
  intro H hO
  refine cH ?_
  replace hO := hO.pick (L' := [(lo6, 1, [(.msl 2 lo5 0 (List.length ([] : List aS)))]), (lo5, 2, List.map bK ([] : List aS))]) [1, 0] (by decide) (by kernel_rfl)
  refine bS [] [(3, (.lp lo6 0 0))] ?_
  refine aQ ?_
  refine aT aG 2 ?_
  refine nB 1 (eI 0) (by kernel_rfl) (by kernel_rfl) hO ?_
  intro lo7 H hO
  refine iW 2 lo7 1 0 (eI 0) (eI (0 : Int)) [(eI 0)] [(lo6, 1, [(.msl 2 lo5 0 (List.length ([] : List aS)))]), (lo5, 2, List.map bK ([] : List aS)), (lo7, 1, [(eI (0 : Int))])] hO rfl (by kernel_rfl) ?_
  intro H hO
  refine cH ?_
  refine bS [] [(4, (.lp lo7 0 0))] ?_
  refine aY aG 2 [] [(5, (.fn (.func 115) [] [(.lp lo6 0 0), (.lp lo7 0 0)]))] ?_
  refine dB (fun T H => ∃ out3 : List aS, ∃ cA : Int, ∃ lo8 : Nat, Has T [(3, (.lp lo6 0 0)), (4, (.lp lo7 0 0)), (5, (.fn (.func 115) [] [(.lp lo6 0 0), (.lp lo7 0 0)]))] ∧ aO ⟨H0, [], []⟩ H [(lo6, 1, [(.msl 2 lo8 0 (List.length out3))]), (lo8, 2, List.map bK out3), (lo7, 1, [(eI cA)])] ∧ rW out3 cA = some r) ?_ ?_
  · clear hO h0
    rintro T H ⟨out3, cA, lo8, hT, hO, h0⟩
    refine bB hT ?_
    clear hT
    unfold rW at h0
    refine dB (fun T H => ∃ out3 : List aS, ∃ lo9 : Nat, Has T [(3, (.lp lo6 0 0))] ∧ aO ⟨H0, [], []⟩ H [(lo6, 1, [(.msl 2 lo9 0 (List.length out3))]), (lo9, 2, List.map bK out3)] ∧ vZ out3 = some r) ?_ ?_
    · clear hO h0
      rintro T H ⟨out3, lo9, hT, hO, h0⟩
      refine bB hT ?_
      clear hT
      unfold vZ at h0
      refine aQ ?_
      refine aT aG 2 ?_
      refine lM 0 lo6 1 0 (.msl 2 lo9 0 (List.length out3)) (.msl 2 lo9 0 (List.length out3)) [(.msl 2 lo9 0 (List.length out3))] hO rfl ?_
      refine bC ?_
      refine dD [(2, (.msl 2 lo9 0 (List.length out3)))] ?_
      replace hO := hO.pick (L' := [(lo9, 2, List.map bK out3)]) [1] (by decide) (by kernel_rfl)
      refine aI (aH (?_))
      refine bH ?_
      refine dD [(2, (.msl 2 lo9 0 (List.length out3)))] ?_
      refine GV (en := bK) out3 0 0 2 2 lo9 (List.length out3) hO (by kernel_rfl) (by kernel_rfl) (by kernel_rfl) (L' := []) (by kernel_rfl) ?_
      intro H10 hO
      obtain rfl := oI h0
      exact aI (Q_r hO)
    refine bP 6 ?_
    refine cT [(3, (.lp lo6 0 0)), (4, (.lp lo7 0 0)), (5, (.fn (.func 115) [] [(.lp lo6 0 0), (.lp lo7 0 0)]))] ?_
    refine cL (fun T H => ∃ out3 : List aS, ∃ cA : Int, ∃ lo12 : Nat, Has T [(3, (.lp lo6 0 0)), (4, (.lp lo7 0 0)), (5, (.fn (.func 115) [] [(.lp lo6 0 0), (.lp lo7 0 0)]))] ∧ aO ⟨H0, [], []⟩ H [(lo6, 1, [(.msl 2 lo12 0 (List.length out3))]), (lo12, 2, List.map bK out3), (lo7, 1, [(eI cA)])] ∧ wD out3 cA = some r) ?_ ⟨out3, cA, lo8, .eq (by kernel_rfl), hO, h0⟩
    clear hO h0
    rintro T H ⟨out3, cA, lo12, hT, hO, h0⟩
    refine bB hT ?_
    clear hT
    unfold wD at h0
    obtain ⟨rr0, hl0, h0⟩ := aV h0
    refine cB (by kernel_rfl) (fun (s : List aS × Int) T H => ∃ lo12 : Nat, Has T [(3, (.lp lo6 0 0)), (4, (.lp lo7 0 0)), (5, (.fn (.func 115) [] [(.lp lo6 0 0), (.lp lo7 0 0)]))] ∧ aO ⟨H0, [], []⟩ H [(lo6, 1, [(.msl 2 lo12 0 (List.length s.1))]), (lo12, 2, List.map bK s.1), (lo7, 1, [(eI s.2)])]) hl0 ⟨lo12, .eq (by kernel_rfl), hO⟩ ?_
    clear hO
    rintro k0 s out1 T H ⟨lo12, hT, hO⟩ h1 ho0
    obtain ⟨out3, cA⟩ := s
    replace h1 : lE out3 cA = some out1 := h1
    try dsimp only at hT
    refine bB hT ?_
    clear hT
    unfold lE at h1
    refine aQ ?_
    refine aQ ?_
    refine aT aG 4 ?_
    refine lM 2 lo7 1 0 (eI cA) (eI cA) [(eI cA)] hO rfl ?_
    refine lM 0 lo6 1 0 (.msl 2 lo12 0 (List.length out3)) (.msl 2 lo12 0 (List.length out3)) [(.msl 2 lo12 0 (List.length out3))] hO rfl ?_
    refine bC ?_
    refine bS [] [(43, (aL (decide (cA < (lN out3)))))] ?_
    refine bL h1 (fun h1 => ?_) (fun h1 => ?_)
    · refine bN ?_
      refine bF [(3, (.lp lo6 0 0)), (4, (.lp lo7 0 0)), (5, (.fn (.func 115) [] [(.lp lo6 0 0), (.lp lo7 0 0)]))] ?_
      refine bP 7 ?_
      refine aT aG 2 ?_
      refine bM 1 ?_
      obtain ⟨x14, hx15, h1⟩ := aV h1
      refine aBM [] [0, 1, 2] (zF (1125899906842624 : Int) lo6 lo12 out3 lo7 cA _ hx15) hO ?_
      intro r17 L18 H hP19 hO
      obtain ⟨lo16, rfl, rfl⟩ := hP19
      replace hO : aO ⟨H0, [], []⟩ H [(lo6, 1, [(.msl 2 lo16 0 (List.length x14.1))]), (lo16, 2, List.map bK x14.1), (lo7, 1, [(eI x14.2)])] := hO
      refine cH ?_
      exact aI (aU (aH (⟨rfl, _, (oI h1).symm, _, .eq (by kernel_rfl), hO⟩)))
    refine dU 6 ?_
    replace hO := hO.pick (L' := [(lo6, 1, [(.msl 2 lo12 0 (List.length out3))]), (lo12, 2, List.map bK out3)]) [0, 1] (by decide) (by kernel_rfl)
    obtain rfl := oI h1
    obtain rfl : _ = rr0 := ho0
    replace h0 : vZ out3 = some r := h0
    exact aI (aZ (aZ (bO (aH (⟨rfl, _, _, .eq (by kernel_rfl), hO, h0⟩)))))
  refine bV aG 3 [(3, (.lp lo6 0 0)), (4, (.lp lo7 0 0)), (5, (.fn (.func 115) [] [(.lp lo6 0 0), (.lp lo7 0 0)])), (12, (eL aD f0)), (13, (eI (lN f0))), (14, (eI (0 : Int)))] ?_
  refine bP 0 ?_
  refine cT [(3, (.lp lo6 0 0)), (4, (.lp lo7 0 0)), (5, (.fn (.func 115) [] [(.lp lo6 0 0), (.lp lo7 0 0)])), (12, (eL aD f0)), (13, (eI (lN f0))), (14, (eI (0 : Int)))] ?_
  refine cL (fun T H => ∃ out3 : List aS, ∃ cA : Int, ∃ t12 : (List aB), ∃ t13 : Int, ∃ t14 : Int, ∃ lo21 : Nat, Has T [(3, (.lp lo6 0 0)), (4, (.lp lo7 0 0)), (5, (.fn (.func 115) [] [(.lp lo6 0 0), (.lp lo7 0 0)])), (12, (eL aD t12)), (13, (eI t13)), (14, (eI t14))] ∧ aO ⟨H0, [], []⟩ H [(lo6, 1, [(.msl 2 lo21 0 (List.length out3))]), (lo21, 2, List.map bK out3), (lo7, 1, [(eI cA)])] ∧ wK out3 cA t12 t13 t14 = some r) ?_ ⟨([] : List aS), (0 : Int), f0, (lN f0), (0 : Int), lo5, .eq (by kernel_rfl), hO, h0⟩
  clear hO h0
  rintro T H ⟨out3, cA, t12, t13, t14, lo21, hT, hO, h0⟩
  refine bB hT ?_
  clear hT
  unfold wK at h0
  obtain ⟨rr0, hl0, h0⟩ := aV h0
  refine cB (by kernel_rfl) (fun (s : List aS × Int × Int) T H => ∃ lo21 : Nat, Has T [(3, (.lp lo6 0 0)), (4, (.lp lo7 0 0)), (5, (.fn (.func 115) [] [(.lp lo6 0 0), (.lp lo7 0 0)])), (12, (eL aD t12)), (13, (eI t13)), (14, (eI s.2.2))] ∧ aO ⟨H0, [], []⟩ H [(lo6, 1, [(.msl 2 lo21 0 (List.length s.1))]), (lo21, 2, List.map bK s.1), (lo7, 1, [(eI s.2.1)])]) hl0 ⟨lo21, .eq (by kernel_rfl), hO⟩ ?_
  clear hO
  rintro k0 s out1 T H ⟨lo21, hT, hO⟩ h1 ho0
  obtain ⟨out3, cA, t14⟩ := s
  replace h1 : mP t12 t13 out3 cA t14 = some out1 := h1
  try dsimp only at hT
  refine bB hT ?_
  clear hT
  unfold mP at h1
  refine aY aG 1 [] [(15, (aL (decide (t14 < t13))))] ?_
  refine aQ ?_
  refine bL h1 (fun h1 => ?_) (fun h1 => ?_)
  · refine bN ?_
    refine bF [(3, (.lp lo6 0 0)), (4, (.lp lo7 0 0)), (5, (.fn (.func 115) [] [(.lp lo6 0 0), (.lp lo7 0 0)])), (12, (eL aD t12)), (13, (eI t13)), (14, (eI t14))] ?_
    refine dB (fun T H => ∃ out3 : List aS, ∃ cA : Int, ∃ lo23 : Nat, Has T [(3, (.lp lo6 0 0)), (4, (.lp lo7 0 0)), (5, (.fn (.func 115) [] [(.lp lo6 0 0), (.lp lo7 0 0)])), (12, (eL aD t12)), (13, (eI t13)), (14, (eI t14))] ∧ aO ⟨H0, [], []⟩ H [(lo6, 1, [(.msl 2 lo23 0 (List.length out3))]), (lo23, 2, List.map bK out3), (lo7, 1, [(eI cA)])] ∧ sS out3 cA t12 t13 t14 = some out1) ?_ ?_
    · clear hO h1
      rintro T H ⟨out3, cA, lo23, hT, hO, h1⟩
      refine bB hT ?_
      clear hT
      unfold sS at h1
      refine aT aG 2 ?_
      refine bC ?_
      exact aI (aH (⟨rfl, _, (oI h1).symm, _, .eq (by kernel_rfl), hO⟩))
    refine bP 1 ?_
    refine aQ ?_
    refine aT aG 4 ?_
    obtain ⟨c24, h1⟩ := bJ h1
    refine qG 2 [0 ≤ t14 ∧ t14 < (lN t12)] ⟨c24, trivial⟩ ?_
    refine nB 2 (aD (aB.mk 0 0)) (by kernel_rfl) (by kernel_rfl) hO ?_
    intro lo25 H hO
    refine iW 3 lo25 2 0 (aD (aB.mk 0 0)) (aD (gD t12 t14)) [(aD (aB.mk 0 0))] [(lo6, 1, [(.msl 2 lo21 0 (List.length out3))]), (lo21, 2, List.map bK out3), (lo7, 1, [(eI cA)]), (lo25, 2, [(aD (gD t12 t14))])] hO rfl (by kernel_rfl) ?_
    intro H hO
    refine cH ?_
    refine bS [] [(7, (.lp lo25 0 0))] ?_
    refine dB (fun T H => ∃ out3 : List aS, ∃ cA : Int, ∃ j7 : aB, ∃ lo26 : Nat, Has T [(3, (.lp lo6 0 0)), (4, (.lp lo7 0 0)), (5, (.fn (.func 115) [] [(.lp lo6 0 0), (.lp lo7 0 0)])), (7, (.lp lo25 0 0)), (12, (eL aD t12)), (13, (eI t13)), (14, (eI t14))] ∧ aO ⟨H0, [], []⟩ H [(lo6, 1, [(.msl 2 lo26 0 (List.length out3))]), (lo26, 2, List.map bK out3), (lo7, 1, [(eI cA)]), (lo25, 2, [(aD j7)])] ∧ sG out3 cA j7 t12 t13 t14 = some out1) ?_ ?_
    · clear hO h1
      rintro T H ⟨out3, cA, j7, lo26, hT, hO, h1⟩
      refine bB hT ?_
      clear hT
      unfold sG at h1
      refine aQ ?_
      refine aT aG 4 ?_
      refine bM 1 ?_
      refine lM 3 lo25 2 0 (aD j7) (eI j7.Net) [(aD j7)] hO rfl ?_
      refine bC ?_
      refine bS [] [(31, (eI (wR (0 - j7.Net)))), (32, (eI (0 : Int)))] ?_
      refine bP 4 ?_
      refine cT [(3, (.lp lo6 0 0)), (4, (.lp lo7 0 0)), (5, (.fn (.func 115) [] [(.lp lo6 0 0), (.lp lo7 0 0)])), (7, (.lp lo25 0 0)), (12, (eL aD t12)), (13, (eI t13)), (14, (eI t14)), (31, (eI (wR (0 - j7.Net)))), (32, (eI (0 : Int)))] ?_
      refine cL (fun T H => ∃ out3 : List aS, ∃ cA : Int, ∃ j7 : aB, ∃ t31 : Int, ∃ t32 : Int, ∃ lo28 : Nat, Has T [(3, (.lp lo6 0 0)), (4, (.lp lo7 0 0)), (5, (.fn (.func 115) [] [(.lp lo6 0 0), (.lp lo7 0 0)])), (7, (.lp lo25 0 0)), (12, (eL aD t12)), (13, (eI t13)), (14, (eI t14)), (31, (eI t31)), (32, (eI t32))] ∧ aO ⟨H0, [], []⟩ H [(lo6, 1, [(.msl 2 lo28 0 (List.length out3))]), (lo28, 2, List.map bK out3), (lo7, 1, [(eI cA)]), (lo25, 2, [(aD j7)])] ∧ vY out3 cA j7 t12 t13 t14 t31 t32 = some out1) ?_ ⟨out3, cA, j7, wR (0 - j7.Net), (0 : Int), lo26, .eq (by kernel_rfl), hO, h1⟩
      clear hO h1
      rintro T H ⟨out3, cA, j7, t31, t32, lo28, hT, hO, h1⟩
      refine bB hT ?_
      clear hT
      unfold vY at h1
      obtain ⟨rr1, hl1, h1⟩ := aV h1
      refine cB (by kernel_rfl) (fun (s : List aS × Int × aB × Int) T H => ∃ lo28 : Nat, Has T [(3, (.lp lo6 0 0)), (4, (.lp lo7 0 0)), (5, (.fn (.func 115) [] [(.lp lo6 0 0), (.lp lo7 0 0)])), (7, (.lp lo25 0 0)), (12, (eL aD t12)), (13, (eI t13)), (14, (eI t14)), (31, (eI t31)), (32, (eI s.2.2.2))] ∧ aO ⟨H0, [], []⟩ H [(lo6, 1, [(.msl 2 lo28 0 (List.length s.1))]), (lo28, 2, List.map bK s.1), (lo7, 1, [(eI s.2.1)]), (lo25, 2, [(aD s.2.2.1)])]) hl1 ⟨lo28, .eq (by kernel_rfl), hO⟩ ?_
      clear hO
      rintro k1 s out2 T H ⟨lo28, hT, hO⟩ h2 ho1
      obtain ⟨out3, cA, j7, t32⟩ := s
      replace h2 : lF t12 t13 t14 t31 out3 cA j7 t32 = some out2 := h2
      try dsimp only at hT
      refine bB hT ?_
      clear hT
      unfold lF at h2
      refine aY aG 1 [] [(33, (aL (decide (t32 < t31))))] ?_
      refine aQ ?_
      refine bL h2 (fun h2 => ?_) (fun h2 => ?_)
      · refine bN ?_
        refine bF [(3, (.lp lo6 0 0)), (4, (.lp lo7 0 0)), (5, (.fn (.func 115) [] [(.lp lo6 0 0), (.lp lo7 0 0)])), (7, (.lp lo25 0 0)), (12, (eL aD t12)), (13, (eI t13)), (14, (eI t14)), (31, (eI t31)), (32, (eI t32))] ?_
        refine aQ ?_
        refine bP 5 ?_
        refine aT aG 4 ?_
        refine bM 2 ?_
        refine lM 3 lo25 2 0 (aD j7) (eI j7.At) [(aD j7)] hO rfl ?_
        obtain ⟨x30, hx31, h2⟩ := aV h2
        refine aBM [(lo25, 2, [(aD j7)])] [0, 1, 2, 3] (zF j7.At lo6 lo28 out3 lo7 cA _ hx31) hO ?_
        intro r33 L34 H hP35 hO
        obtain ⟨lo32, rfl, rfl⟩ := hP35
        replace hO : aO ⟨H0, [], []⟩ H [(lo6, 1, [(.msl 2 lo32 0 (List.length x30.1))]), (lo32, 2, List.map bK x30.1), (lo7, 1, [(eI x30.2)]), (lo25, 2, [(aD j7)])] := hO
        refine cH ?_
        refine dD [(3, (.lp lo6 0 0)), (4, (.lp lo7 0 0)), (5, (.fn (.func 115) [] [(.lp lo6 0 0), (.lp lo7 0 0)])), (7, (.lp lo25 0 0)), (12, (eL aD t12)), (13, (eI t13)), (14, (eI t14)), (31, (eI t31)), (32, (eI t32))] ?_
        refine aI (aU (aH (?_)))
        refine aT aG 2 ?_
        refine bC ?_
        exact aI (aH (⟨rfl, _, (oI h2).symm, _, .eq (by kernel_rfl), hO⟩))
      refine dU 4 ?_
      replace hO := hO.pick (L' := [(lo6, 1, [(.msl 2 lo28 0 (List.length out3))]), (lo28, 2, List.map bK out3), (lo7, 1, [(eI cA)])]) [0, 1, 2] (by decide) (by kernel_rfl)
      obtain rfl := oI h2
      obtain rfl : _ = rr1 := ho1
      replace h1 : sS out3 cA t12 t13 t14 = some out1 := h1
      exact aI (aZ (aZ (bO (aU (aH (⟨rfl, _, _, _, .eq (by kernel_rfl), hO, h1⟩))))))
    refine aQ ?_
    refine aT aG 3 ?_
    refine bM 1 ?_
    refine lM 3 lo25 2 0 (aD (gD t12 t14)) (eI ((gD t12 t14).Net)) [(aD (gD t12 t14))] hO rfl ?_
    refine bC ?_
    refine bS [] [(19, (eI ((gD t12 t14).Net))), (20, (eI (0 : Int)))] ?_
    refine bP 2 ?_
    refine cT [(3, (.lp lo6 0 0)), (4, (.lp lo7 0 0)), (5, (.fn (.func 115) [] [(.lp lo6 0 0), (.lp lo7 0 0)])), (7, (.lp lo25 0 0)), (12, (eL aD t12)), (13, (eI t13)), (14, (eI t14)), (19, (eI ((gD t12 t14).Net))), (20, (eI (0 : Int)))] ?_
    refine cL (fun T H => ∃ out3 : List aS, ∃ cA : Int, ∃ j7 : aB, ∃ t19 : Int, ∃ t20 : Int, ∃ lo37 : Nat, Has T [(3, (.lp lo6 0 0)), (4, (.lp lo7 0 0)), (5, (.fn (.func 115) [] [(.lp lo6 0 0), (.lp lo7 0 0)])), (7, (.lp lo25 0 0)), (12, (eL aD t12)), (13, (eI t13)), (14, (eI t14)), (19, (eI t19)), (20, (eI t20))] ∧ aO ⟨H0, [], []⟩ H [(lo6, 1, [(.msl 2 lo37 0 (List.length out3))]), (lo37, 2, List.map bK out3), (lo7, 1, [(eI cA)]), (lo25, 2, [(aD j7)])] ∧ wC out3 cA j7 t12 t13 t14 t19 t20 = some out1) ?_ ⟨out3, cA, gD t12 t14, (gD t12 t14).Net, (0 : Int), lo21, .eq (by kernel_rfl), hO, h1⟩
    clear hO h1
    rintro T H ⟨out3, cA, j7, t19, t20, lo37, hT, hO, h1⟩
    refine bB hT ?_
    clear hT
    unfold wC at h1
    obtain ⟨rr1, hl1, h1⟩ := aV h1
    refine cB (by kernel_rfl) (fun (s : List aS × Int × aB × Int) T H => ∃ lo37 : Nat, Has T [(3, (.lp lo6 0 0)), (4, (.lp lo7 0 0)), (5, (.fn (.func 115) [] [(.lp lo6 0 0), (.lp lo7 0 0)])), (7, (.lp lo25 0 0)), (12, (eL aD t12)), (13, (eI t13)), (14, (eI t14)), (19, (eI t19)), (20, (eI s.2.2.2))] ∧ aO ⟨H0, [], []⟩ H [(lo6, 1, [(.msl 2 lo37 0 (List.length s.1))]), (lo37, 2, List.map bK s.1), (lo7, 1, [(eI s.2.1)]), (lo25, 2, [(aD s.2.2.1)])]) hl1 ⟨lo37, .eq (by kernel_rfl), hO⟩ ?_
    clear hO
    rintro k1 s out2 T H ⟨lo37, hT, hO⟩ h2 ho1
    obtain ⟨out3, cA, j7, t20⟩ := s
    replace h2 : lH t12 t13 t14 t19 out3 cA j7 t20 = some out2 := h2
    try dsimp only at hT
    refine bB hT ?_
    clear hT
    unfold lH at h2
    refine aY aG 1 [] [(21, (aL (decide (t20 < t19))))] ?_
    refine aQ ?_
    refine bL h2 (fun h2 => ?_) (fun h2 => ?_)
    · refine bN ?_
      refine bF [(3, (.lp lo6 0 0)), (4, (.lp lo7 0 0)), (5, (.fn (.func 115) [] [(.lp lo6 0 0), (.lp lo7 0 0)])), (7, (.lp lo25 0 0)), (12, (eL aD t12)), (13, (eI t13)), (14, (eI t14)), (19, (eI t19)), (20, (eI t20))] ?_
      refine aQ ?_
      refine bP 3 ?_
      refine aT aG 7 ?_
      refine lM 0 lo6 1 0 (.msl 2 lo37 0 (List.length out3)) (.msl 2 lo37 0 (List.length out3)) [(.msl 2 lo37 0 (List.length out3))] hO rfl ?_
      refine bM 2 ?_
      refine lM 3 lo25 2 0 (aD j7) (eI j7.At) [(aD j7)] hO rfl ?_
      refine bM 4 ?_
      refine xY (xs := [(bK (aS.mk j7.At 0))]) (k := 2) (by kernel_rfl) (by kernel_rfl) ?_
      obtain ⟨c40, h2⟩ := bJ h2
      refine HL (e := bK) out3 ([aS.mk j7.At 0]) 1 lo37 2 16 (fI [(bK (aS.mk j7.At 0))]) (fun lo39 => [(lo6, 1, [(.msl 2 lo37 0 (List.length out3))]), (lo39, 2, List.map bK (out3 ++ ([aS.mk j7.At 0]))), (lo7, 1, [(eI cA)]), (lo25, 2, [(aD j7)])]) (by kernel_rfl) (by kernel_rfl) hO (by kernel_rfl) (by kernel_rfl) c40 (fun _ => by kernel_rfl) ?_
      intro lo39 H hO
      refine iW 0 lo6 1 0 (.msl 2 lo37 0 (List.length out3)) (.msl 2 lo39 0 (List.length (out3 ++ ([aS.mk j7.At 0])))) [(.msl 2 lo37 0 (List.length out3))] [(lo6, 1, [(.msl 2 lo39 0 (List.length (out3 ++ ([aS.mk j7.At 0]))))]), (lo39, 2, List.map bK (out3 ++ ([aS.mk j7.At 0]))), (lo7, 1, [(eI cA)]), (lo25, 2, [(aD j7)])] hO rfl (by kernel_rfl) ?_
      intro H hO
      refine cH ?_
      refine dD [(3, (.lp lo6 0 0)), (4, (.lp lo7 0 0)), (5, (.fn (.func 115) [] [(.lp lo6 0 0), (.lp lo7 0 0)])), (7, (.lp lo25 0 0)), (12, (eL aD t12)), (13, (eI t13)), (14, (eI t14)), (19, (eI t19)), (20, (eI t20))] ?_
      refine aI (aU (aH (?_)))
      refine aT aG 2 ?_
      refine bC ?_
      exact aI (aH (⟨rfl, _, (oI h2).symm, _, .eq (by kernel_rfl), hO⟩))
    refine dU 2 ?_
    obtain rfl := oI h2
    obtain rfl : _ = rr1 := ho1
    replace h1 : sG out3 cA j7 t12 t13 t14 = some out1 := h1
    exact aI (aZ (aZ (bO (aH (⟨rfl, _, _, _, _, .eq (by kernel_rfl), hO, h1⟩)))))
  refine dU 0 ?_
  obtain rfl := oI h1
  obtain rfl : _ = rr0 := ho0
  replace h0 : rW out3 cA = some r := h0
  exact aI (aZ (aZ (bO (aH (⟨rfl, _, _, _, .eq (by kernel_rfl), hO, h0⟩)))))

theorem OG (l0 : (List aC)) (r : ((List aM) × Int)) (h0 : sJ l0 = some r) : bT Try.prog 43 [(eL aE l0)] (.tup [(eL aJ r.1), (eI r.2)]) := by
  intro H0
  refine AN aG Try.func43 (by kernel_rfl) (by kernel_rfl) (by kernel_rfl) ?_
  have hO := aO.start H0
  unfold sJ at h0
  refine aY aG 2 [] [] ?_
  refine aQ ?_
  refine bP 0 ?_
  refine aQ ?_
  refine aT aG 4 ?_
  refine bM 1 ?_
  obtain ⟨x1, hx2, h0⟩ := aV h0
  refine cJ (KU l0 _ hx2) hO ?_
  intro H hO
  refine bC ?_
  refine bS [] [(12, (aL (!x1)))] ?_
  refine bL h0 (fun h0 => ?_) (fun h0 => ?_)
  · refine bV aG 2 [(2, (.sl true 0 (fun _ => .bad))), (3, (eI (2 : Int)))] ?_
    refine bH ?_
    refine cS (l := [(2, (eL aJ ([]))), (3, (eI (2 : Int)))]) ⟨[(2, (.sl true 0 (fun _ => .bad))), (3, (eI (2 : Int)))], by kernel_rfl, rfl, ⟨fJ, aX.refl _, trivial⟩⟩ ?_
    obtain rfl := oI h0
    exact aI (bR (bA (QM0 (.inr rfl) (rs := [.tmp 2, .tmp 3]) (xs := [(eL aJ ([])), (eI (2 : Int))]) (x := (.tup [(eL aJ ([])), (eI (2 : Int))])) (by kernel_rfl) (zJ (x := (eL aJ ([]))) (by kernel_rfl) (zJ (x := (eI (2 : Int))) (by kernel_rfl) nZ)) (by kernel_rfl) ⟨rfl, hO.out⟩)))
  refine aQ ?_
  refine aT aG 4 ?_
  refine bM 1 ?_
  obtain ⟨x5, hx6, h0⟩ := aV h0
  refine cJ (RN l0 _ hx6) hO ?_
  intro H hO
  refine bC ?_
  refine bS [12] [(16, (aL (!x5)))] ?_
  refine bL h0 (fun h0 => ?_) (fun h0 => ?_)
  · refine bV aG 2 [(2, (.sl true 0 (fun _ => .bad))), (3, (eI (20 : Int)))] ?_
    refine bH ?_
    refine cS (l := [(2, (eL aJ ([]))), (3, (eI (20 : Int)))]) ⟨[(2, (.sl true 0 (fun _ => .bad))), (3, (eI (20 : Int)))], by kernel_rfl, rfl, ⟨fJ, aX.refl _, trivial⟩⟩ ?_
    obtain rfl := oI h0
    exact aI (bR (bA (QM0 (.inr rfl) (rs := [.tmp 2, .tmp 3]) (xs := [(eL aJ ([])), (eI (20 : Int))]) (x := (.tup [(eL aJ ([])), (eI (20 : Int))])) (by kernel_rfl) (zJ (x := (eL aJ ([]))) (by kernel_rfl) (zJ (x := (eI (20 : Int))) (by kernel_rfl) nZ)) (by kernel_rfl) ⟨rfl, hO.out⟩)))
  refine bN ?_
  refine dD [(0, (eL aE l0))] ?_
  refine aI (aU (aH (?_)))
  refine aQ ?_
  refine aT aG 2 ?_
  refine nB 1 (eI 0) (by kernel_rfl) (by kernel_rfl) hO ?_
  intro lo9 H hO
  refine iW 0 lo9 1 0 (eI 0) (eI (0 : Int)) [(eI 0)] [(lo9, 1, [(eI (0 : Int))])] hO rfl (by kernel_rfl) ?_
  intro H hO
  refine cH ?_
  refine bS [] [(4, (.lp lo9 0 0))] ?_
  refine aQ ?_
  refine aQ ?_
  refine aT aG 2 ?_
  refine bM 1 ?_
  obtain ⟨x10, hx11, h0⟩ := aV h0
  refine cJ (zT l0 _ hx11) hO ?_
  intro H hO
  refine cH ?_
  refine bS [] [(21, (.fn (.func 117) [] [(.rp (eL aE x10))]))] ?_
  refine bP 1 ?_
  refine cT [(0, (eL aE l0)), (4, (.lp lo9 0 0)), (21, (.fn (.func 117) [] [(.rp (eL aE x10))]))] ?_
  refine cL (fun T H => ∃ n4 : Int, ∃ uZ : (List aC), Has T [(0, (eL aE l0)), (4, (.lp lo9 0 0)), (21, (.fn (.func 117) [] [(.rp (eL aE uZ))]))] ∧ aO ⟨H0, [], []⟩ H [(lo9, 1, [(eI n4)])] ∧ uY l0 n4 uZ = some r) ?_ ⟨(0 : Int), x10, .eq (by kernel_rfl), hO, h0⟩
  clear hO h0
  rintro T H ⟨n4, uZ, hT, hO, h0⟩
  refine bB (l := [(0, (eL aE l0)), (4, (.lp lo9 0 0)), (21, (.fn (.func 117) [] [(.rp (eL aE uZ))]))]) hT ?_
  clear hT
  unfold uY at h0
  obtain ⟨o0, hl0, h0⟩ := aV h0
  refine yK (fid := 117) (ys := []) (cs := [(.rp (eL aE uZ))]) #[22, 23] (fun (A : xQ) (b lL : Nat) (st : (Int) ⊕ (Int)) (G' : Gs) => Sum.elim (fun (s : Int) => G' = (lL, .raw (iZ b A .ready none)) :: (up [(lo9, 1, [(eI s)])] ++ [])) (fun (s : Int) => False) st) (.inl n4) o0 (.tup []) (by kernel_rfl) (by kernel_rfl) (by kernel_rfl) hO (fun _ _ => rfl) ?_ ?_
  · intro b lL
    clear hO h0
    refine vD _ b (fun st t22 t23 => rnd (fun (s : Int) => nA l0 uZ s t22 t23) st) ?_ uZ _ _ hl0
    intro st t22 t23 out1 rr hr
    obtain ⟨s, rfl, h1, rfl⟩ := MF hr
    clear hr
    intro Hr Gr hi hg
    obtain ⟨n4, rfl⟩ : ∃ x, x = s := ⟨_, rfl⟩
    dsimp only [Sum.elim_inl] at hi
    obtain rfl := hi
    replace h1 : nA l0 uZ n4 t22 t23 = some out1 := h1
    unfold nA at h1
    obtain ⟨E1, hE, hO⟩ := tB hg
    refine sW (yJ (hO.gm 0 _ rfl).2 (by kernel_rfl) (by kernel_rfl) ?_)
    refine cT [(0, (eL aE l0)), (4, (.lp lo9 0 0)), (21, (.fn (.func 117) [] [(.rp (eL aE uZ))])), (22, (eL aK t22)), (23, (eL aD t23))] ?_
    refine aT aG 1 ?_
    refine bC ?_
    refine dD [(4, (.lp lo9 0 0)), (6, (eL aD t23))] ?_
    refine aI (⟨rfl, rfl, (hO.gm 0 _ rfl).2, ?_⟩)
    intro o1 ho1
    replace hO := hO.rS o1
    refine bP 2 ?_
    refine kC (jO [26]) aG 5 ?_
    refine kS 0 lo9 1 0 (eI n4) (eI n4) [(eI n4)] hO rfl ?_
    refine uJ 2 ?_
    obtain ⟨x12, hx13, h1⟩ := aV h1
    refine yF (IF t23 _ hx13) hO ?_
    intro H hO
    refine uJ 4 ?_
    refine rR 0 lo9 1 0 (eI n4) (eI (wR (n4 + x12))) [(eI n4)] [(lo9, 1, [(eI (wR (n4 + x12)))])] hO rfl (by kernel_rfl) ?_
    intro H hO
    refine xP (by kernel_rfl) ?_
    refine dD [(4, (.lp lo9 0 0))] ?_
    obtain rfl := oI h1
    exact aI (aU (⟨(dZ hO hE ho1 .dead).1, rfl, _, rfl, (dZ hO hE ho1 _).2⟩))
  · intro b lD15 lL H' G' hi hO
    rcases o0 with s | s
    · dsimp only [Sum.elim_inl] at hi
      obtain rfl := hi
      replace h0 : (cond (decide ((4096 : Int) < s)) (some ([], (7 : Int))) (bI (0 ≤ s ∧ (40 : Int) * s ≤ 281474976710656 ∧ s ≤ 9223372036854775807) <| (mT l0).bind fun x20 => qT ([] : List aM) x20)) = some r := h0
      obtain ⟨hlL, hO⟩ := nL hO
      refine ⟨_, _, hlL, (by intro e; cases e), ?_⟩
      refine dD [(0, (eL aE l0)), (4, (.lp lo9 0 0))] ?_
      refine aI (aU (aH (?_)))
      refine aQ ?_
      refine aQ ?_
      refine aT aG 2 ?_
      refine lM 0 lo9 1 0 (eI s) (eI s) [(eI s)] hO rfl ?_
      refine bC ?_
      refine bS [] [(29, (aL (decide ((4096 : Int) < s))))] ?_
      refine bL h0 (fun h0 => ?_) (fun h0 => ?_)
      · refine aQ ?_
        refine aT aG 2 ?_
        refine bC ?_
        refine dD [(2, (.sl true 0 (fun _ => .bad))), (3, (eI (7 : Int)))] ?_
        replace hO := hO.pick (L' := []) [] (by decide) (by kernel_rfl)
        refine aI (aH (?_))
        refine bH ?_
        refine cS (l := [(2, (eL aJ ([]))), (3, (eI (7 : Int)))]) ⟨[(2, (.sl true 0 (fun _ => .bad))), (3, (eI (7 : Int)))], by kernel_rfl, rfl, ⟨fJ, aX.refl _, trivial⟩⟩ ?_
        obtain rfl := oI h0
        have hD := (hO.gm 0 _ rfl).2
        replace hO := (hO.rS .dead).rI
        exact aI (bA (QM1 (.inr rfl) hD (rs := [.tmp 2, .tmp 3]) (xs := [(eL aJ ([])), (eI (7 : Int))]) (x := (.tup [(eL aJ ([])), (eI (7 : Int))])) (by kernel_rfl) (zJ (x := (eL aJ ([]))) (by kernel_rfl) (zJ (x := (eI (7 : Int))) (by kernel_rfl) nZ)) (by kernel_rfl) ⟨rfl, hO.out⟩))
      refine bN ?_
      refine bF [(0, (eL aE l0)), (4, (.lp lo9 0 0))] ?_
      refine aQ ?_
      refine aT aG 4 ?_
      refine lM 0 lo9 1 0 (eI s) (eI s) [(eI s)] hO rfl ?_
      obtain ⟨c17, h0⟩ := bJ h0
      refine HM 3 40 s (by kernel_rfl) (by kernel_rfl) c17 hO ?_
      intro lo18 H hO
      refine qE 1 (.sl true 0 (fun _ => .bad)) (eL aJ ([])) (by kernel_rfl) (by kernel_rfl) (by kernel_rfl) (fJ) (by kernel_rfl) (by kernel_rfl) hO ?_
      intro lo19 H hO
      refine iW 2 lo19 1 0 (eL aJ ([])) (.msl 3 lo18 0 (List.length ([] : List aM))) [(eL aJ ([]))] [(lo9, 1, [(eI s)]), (lo18, 3, List.map aJ ([] : List aM)), (lo19, 1, [(.msl 3 lo18 0 (List.length ([] : List aM)))])] hO rfl (by kernel_rfl) ?_
      intro H hO
      refine cH ?_
      replace hO := hO.pick (L' := [(lo19, 1, [(.msl 3 lo18 0 (List.length ([] : List aM)))]), (lo18, 3, List.map aJ ([] : List aM))]) [2, 1] (by decide) (by kernel_rfl)
      refine bS [4] [(7, (.lp lo19 0 0))] ?_
      refine aQ ?_
      refine aQ ?_
      refine aT aG 2 ?_
      refine bM 1 ?_
      obtain ⟨x20, hx21, h0⟩ := aV h0
      refine cJ (zT l0 _ hx21) hO ?_
      intro H hO
      refine cH ?_
      refine bS [0] [(33, (.fn (.func 117) [] [(.rp (eL aE x20))]))] ?_
      refine bP 3 ?_
      refine cT [(7, (.lp lo19 0 0)), (33, (.fn (.func 117) [] [(.rp (eL aE x20))]))] ?_
      refine cL (fun T H => ∃ out7 : List aM, ∃ uT : (List aC), ∃ lo22 : Nat, Has T [(7, (.lp lo19 0 0)), (33, (.fn (.func 117) [] [(.rp (eL aE uT))]))] ∧ aO ⟨H0, [], (lD15, .raw vH) :: []⟩ H [(lo19, 1, [(.msl 3 lo22 0 (List.length out7))]), (lo22, 3, List.map aJ out7)] ∧ qT out7 uT = some r) ?_ ⟨([] : List aM), x20, lo18, .eq (by kernel_rfl), hO, h0⟩
      clear hO h0
      rintro T H ⟨out7, uT, lo22, hT, hO, h0⟩
      refine bB (l := [(7, (.lp lo19 0 0)), (33, (.fn (.func 117) [] [(.rp (eL aE uT))]))]) hT ?_
      clear hT
      unfold qT at h0
      obtain ⟨o0, hl0, h0⟩ := aV h0
      refine yK (fid := 117) (ys := []) (cs := [(.rp (eL aE uT))]) #[34, 35] (fun (A : xQ) (b lL : Nat) (st : (List aM) ⊕ (List aM)) (G' : Gs) => Sum.elim (fun (s : List aM) => ∃ lo22 : Nat, G' = (lL, .raw (iZ b A .ready none)) :: (up [(lo19, 1, [(.msl 3 lo22 0 (List.length s))]), (lo22, 3, List.map aJ s)] ++ (lD15, .raw vH) :: [])) (fun (s : List aM) => False) st) (.inl out7) o0 (.tup []) (by kernel_rfl) (by kernel_rfl) (by kernel_rfl) hO (fun _ _ => ⟨lo22, rfl⟩) ?_ ?_
      · intro b lL
        clear hO h0
        refine vD _ b (fun st t34 t35 => rnd (fun (s : List aM) => nE uT s t34 t35) st) ?_ uT _ _ hl0
        intro st t34 t35 out1 rr hr
        obtain ⟨s, rfl, h1, rfl⟩ := MF hr
        clear hr
        intro Hr Gr hi hg
        obtain ⟨out7, rfl⟩ : ∃ x, x = s := ⟨_, rfl⟩
        dsimp only [Sum.elim_inl] at hi
        obtain ⟨lo22, rfl⟩ := hi
        replace h1 : nE uT out7 t34 t35 = some out1 := h1
        unfold nE at h1
        obtain ⟨E1, hE, hO⟩ := tB hg
        refine sW (yJ (hO.gm 0 _ rfl).2 (by kernel_rfl) (by kernel_rfl) ?_)
        refine cT [(7, (.lp lo19 0 0)), (33, (.fn (.func 117) [] [(.rp (eL aE uT))])), (34, (eL aK t34)), (35, (eL aD t35))] ?_
        refine aY aG 1 [33, 34] [(8, (eL aK t34))] ?_
        refine aT aG 1 ?_
        refine bC ?_
        refine dD [(7, (.lp lo19 0 0)), (8, (eL aK t34)), (9, (eL aD t35))] ?_
        refine aI (⟨rfl, rfl, (hO.gm 0 _ rfl).2, ?_⟩)
        intro o1 ho1
        replace hO := hO.rS o1
        refine bP 4 ?_
        refine aQ ?_
        refine aT aG 4 ?_
        refine bM 1 ?_
        obtain ⟨x23, hx24, h1⟩ := aV h1
        refine cJ (RA t35 _ hx24) hO ?_
        intro H hO
        refine bC ?_
        refine bS [9] [(37, (eL bK x23)), (38, (eI (lN x23))), (39, (eI (0 : Int)))] ?_
        refine bP 5 ?_
        refine cT [(7, (.lp lo19 0 0)), (8, (eL aK t34)), (37, (eL bK x23)), (38, (eI (lN x23))), (39, (eI (0 : Int)))] ?_
        refine cL (fun T H => ∃ out7 : List aM, ∃ r8 : (List aF), ∃ t37 : (List aS), ∃ t38 : Int, ∃ t39 : Int, ∃ lo27 : Nat, Has T [(7, (.lp lo19 0 0)), (8, (eL aK r8)), (37, (eL bK t37)), (38, (eI t38)), (39, (eI t39))] ∧ aO ⟨Hr, E1, (lL, o1) :: (lD15, .raw vH) :: []⟩ H [(lo19, 1, [(.msl 3 lo27 0 (List.length out7))]), (lo27, 3, List.map aJ out7)] ∧ qU out7 r8 t37 t38 t39 = some out1) ?_ ⟨out7, t34, x23, (lN x23), (0 : Int), lo22, .eq (by kernel_rfl), hO, h1⟩
        clear hO h1
        rintro T H ⟨out7, r8, t37, t38, t39, lo27, hT, hO, h1⟩
        refine bB hT ?_
        clear hT
        unfold qU at h1
        obtain ⟨rr1, hl1, h1⟩ := aV h1
        refine cB (by kernel_rfl) (fun (s : List aM × Int) T H => ∃ lo27 : Nat, Has T [(7, (.lp lo19 0 0)), (8, (eL aK r8)), (37, (eL bK t37)), (38, (eI t38)), (39, (eI s.2))] ∧ aO ⟨Hr, E1, (lL, o1) :: (lD15, .raw vH) :: []⟩ H [(lo19, 1, [(.msl 3 lo27 0 (List.length s.1))]), (lo27, 3, List.map aJ s.1)]) hl1 ⟨lo27, .eq (by kernel_rfl), hO⟩ ?_
        clear hO
        rintro k1 s out2 T H ⟨lo27, hT, hO⟩ h2 ho1
        obtain ⟨out7, t39⟩ := s
        replace h2 : lQ r8 t37 t38 out7 t39 = some out2 := h2
        try dsimp only at hT
        refine bB hT ?_
        clear hT
        unfold lQ at h2
        refine aY aG 1 [] [(40, (aL (decide (t39 < t38))))] ?_
        refine aQ ?_
        refine bL h2 (fun h2 => ?_) (fun h2 => ?_)
        · refine bN ?_
          refine bF [(7, (.lp lo19 0 0)), (8, (eL aK r8)), (37, (eL bK t37)), (38, (eI t38)), (39, (eI t39))] ?_
          refine aQ ?_
          refine bP 6 ?_
          refine aQ ?_
          refine aT aG 4 ?_
          obtain ⟨c29, h2⟩ := bJ h2
          refine qG 2 [0 ≤ t39 ∧ t39 < (lN t37)] ⟨c29, trivial⟩ ?_
          refine nB 2 (bK (aS.mk 0 0)) (by kernel_rfl) (by kernel_rfl) hO ?_
          intro lo30 H hO
          refine iW 2 lo30 2 0 (bK (aS.mk 0 0)) (bK (gD t37 t39)) [(bK (aS.mk 0 0))] [(lo19, 1, [(.msl 3 lo27 0 (List.length out7))]), (lo27, 3, List.map aJ out7), (lo30, 2, [(bK (gD t37 t39))])] hO rfl (by kernel_rfl) ?_
          intro H hO
          refine cH ?_
          refine bS [] [(11, (.lp lo30 0 0))] ?_
          refine cT [(7, (.lp lo19 0 0)), (8, (eL aK r8)), (11, (.lp lo30 0 0)), (37, (eL bK t37)), (38, (eI t38)), (39, (eI t39))] ?_
          refine NI 2 2 11 2 lo30 (bK (gD t37 t39)) [(lo19, 1, [(.msl 3 lo27 0 (List.length out7))]), (lo27, 3, List.map aJ out7)] hO (by kernel_rfl) (by kernel_rfl) (by kernel_rfl) ?_
          intro H hO
          refine kC (jO [45, 46, 48]) aG 8 ?_
          refine kS 0 lo19 1 0 (.msl 3 lo27 0 (List.length out7)) (.msl 3 lo27 0 (List.length out7)) [(.msl 3 lo27 0 (List.length out7))] hO rfl ?_
          refine uJ 2 ?_
          obtain ⟨x31, hx32, h2⟩ := aV h2
          refine yF (DV r8 _ hx32) hO ?_
          intro H hO
          refine uJ 5 ?_
          refine OX (xs := [(aJ (aM.mk x31 (gD t37 t39)))]) (k := 3) (by kernel_rfl) (by kernel_rfl) ?_
          obtain ⟨c35, h2⟩ := bJ h2
          refine LL (e := aJ) out7 ([aM.mk x31 (gD t37 t39)]) 1 lo27 3 40 (fI [(aJ (aM.mk x31 (gD t37 t39)))]) (fun lo34 => [(lo19, 1, [(.msl 3 lo27 0 (List.length out7))]), (lo34, 3, List.map aJ (out7 ++ ([aM.mk x31 (gD t37 t39)])))]) (by kernel_rfl) (by kernel_rfl) hO (by kernel_rfl) (by kernel_rfl) c35 (fun _ => by kernel_rfl) ?_
          intro lo34 H hO
          refine rR 0 lo19 1 0 (.msl 3 lo27 0 (List.length out7)) (.msl 3 lo34 0 (List.length (out7 ++ ([aM.mk x31 (gD t37 t39)])))) [(.msl 3 lo27 0 (List.length out7))] [(lo19, 1, [(.msl 3 lo34 0 (List.length (out7 ++ ([aM.mk x31 (gD t37 t39)]))))]), (lo34, 3, List.map aJ (out7 ++ ([aM.mk x31 (gD t37 t39)])))] hO rfl (by kernel_rfl) ?_
          intro H hO
          refine xP (by kernel_rfl) ?_
          refine dD [(7, (.lp lo19 0 0)), (8, (eL aK r8)), (37, (eL bK t37)), (38, (eI t38)), (39, (eI t39))] ?_
          refine aI (aU (aH (?_)))
          refine aT aG 2 ?_
          refine bC ?_
          exact aI (aH (⟨rfl, _, (oI h2).symm, _, .eq (by kernel_rfl), hO⟩))
        refine dU 5 ?_
        refine dD [(7, (.lp lo19 0 0))] ?_
        obtain rfl := oI h2
        obtain rfl : _ = rr1 := ho1
        replace h1 : some (.inl out7) = some out1 := h1
        obtain rfl := oI h1
        exact aI (aZ (aZ (bO (aU (⟨(dZ hO hE ho1 .dead).1, rfl, _, ⟨lo27, rfl⟩, (dZ hO hE ho1 _).2⟩)))))
      · intro b lD36 lL H' G' hi hO
        rcases o0 with s | s
        · dsimp only [Sum.elim_inl] at hi
          obtain ⟨lo22, rfl⟩ := hi
          replace h0 : (some (s, (0 : Int))) = some r := h0
          obtain ⟨hlL, hO⟩ := nL hO
          refine ⟨_, _, hlL, (by intro e; cases e), ?_⟩
          refine dD [(7, (.lp lo19 0 0))] ?_
          refine aI (aU (aH (?_)))
          refine aQ ?_
          refine aT aG 3 ?_
          refine lM 0 lo19 1 0 (.msl 3 lo22 0 (List.length s)) (.msl 3 lo22 0 (List.length s)) [(.msl 3 lo22 0 (List.length s))] hO rfl ?_
          refine bC ?_
          refine dD [(2, (.msl 3 lo22 0 (List.length s))), (3, (eI (0 : Int)))] ?_
          replace hO := hO.pick (L' := [(lo22, 3, List.map aJ s)]) [1] (by decide) (by kernel_rfl)
          refine aI (aH (?_))
          refine bH ?_
          refine dD [(2, (.msl 3 lo22 0 (List.length s))), (3, (eI (0 : Int)))] ?_
          refine GV (en := aJ) s 0 0 2 3 lo22 (List.length s) hO (by kernel_rfl) (by kernel_rfl) (by kernel_rfl) (L' := []) (by kernel_rfl) ?_
          intro H37 hO
          obtain rfl := oI h0
          have hD := (hO.gm 0 _ rfl).2
          have hE := (hO.gm 1 _ rfl).2
          have hF := hO.gn 0 1 _ _ rfl rfl (by decide)
          replace hO := ((hO.rS .dead).rI.rS .dead).rI
          exact aI (QM2 (.inr rfl) hD hE hF (rs := [.tmp 2, .tmp 3]) (xs := [(eL aJ s), (eI (0 : Int))]) (x := (.tup [(eL aJ s), (eI (0 : Int))])) (by kernel_rfl) (zJ (x := (eL aJ s)) (by kernel_rfl) (zJ (x := (eI (0 : Int))) (by kernel_rfl) nZ)) (by kernel_rfl) ⟨rfl, hO.out⟩)
        · exact hi.elim
    · exact hi.elim

theorem CG (l0 : (List aM)) (r : ((List aM) × Int)) (h0 : qH l0 = some r) : bT Try.prog 11 [(eL aJ l0)] (.tup [(eL aJ r.1), (eI r.2)]) := by
  intro H0
  refine cI Try.func11 ?_
  have hO := aO.start H0
  unfold qH at h0
  refine aY aG 2 [] [] ?_
  refine aQ ?_
  refine aT aG 7 ?_
  refine bM 1 ?_
  obtain ⟨x1, hx2, h0⟩ := aV h0
  refine cJ (HC l0 _ hx2) hO ?_
  intro H hO
  refine bC ?_
  refine bF [(4, (eL aE x1.1)), (5, (eI x1.2))] ?_
  refine aQ ?_
  refine aY aG 2 [] [(12, (aL (!decide (x1.2 = (0 : Int)))))] ?_
  refine bL h0 (fun h0 => ?_) (fun h0 => ?_)
  · refine bV aG 3 [(2, (.sl true 0 (fun _ => .bad))), (3, (eI x1.2))] ?_
    refine bH ?_
    refine cS (l := [(2, (eL aJ ([]))), (3, (eI x1.2))]) ⟨[(2, (.sl true 0 (fun _ => .bad))), (3, (eI x1.2))], by kernel_rfl, rfl, ⟨fJ, aX.refl _, trivial⟩⟩ ?_
    obtain rfl := oI h0
    exact aI (bA (Q_r hO))
  refine bN ?_
  refine bF [(4, (eL aE x1.1))] ?_
  refine aQ ?_
  refine aT aG 6 ?_
  refine bM 1 ?_
  obtain ⟨x5, hx6, h0⟩ := aV h0
  refine cJ (OG x1.1 _ hx6) hO ?_
  intro H hO
  refine bC ?_
  refine bF [(2, (eL aJ x5.1)), (3, (eI x5.2))] ?_
  refine bH ?_
  obtain rfl := oI h0
  exact aI (Q_r hO)

theorem mW (s10 : (List aM)) (s21 : (List aM)) (eq2_f : Nat) (eq2_a eq2_c : List V) (eq2 : aM → aM → Option Bool) (eq2_h : ∀ a0 a1 r, eq2 a0 a1 = some r → bT Try.prog eq2_f (eq2_a ++ [(aJ a0), (aJ a1)] ++ eq2_c) (aL r)) (r : Bool) (h0 : cN s10 s21 eq2 = some r) : bT Try.prog 81 [(eL aJ s10), (eL aJ s21), (.fn (.func eq2_f) eq2_a eq2_c)] (aL r) := by
  intro H0
  refine cI Try.func81 ?_
  have hO := aO.start H0
  unfold cN at h0
  refine aY aG 1 [] [] ?_
  refine aQ ?_
  refine aY aG 5 [] [(14, (aL (!decide ((lN s10) = (lN s21)))))] ?_
  refine bL h0 (fun h0 => ?_) (fun h0 => ?_)
  · refine bV aG 1 [(6, (aL false))] ?_
    refine bH ?_
    obtain rfl := oI h0
    exact aI (bA (Q_r hO))
  refine bN ?_
  refine bF [(0, (eL aJ s10)), (1, (eL aJ s21)), (2, (.fn (.func eq2_f) eq2_a eq2_c))] ?_
  refine dB (fun T H => Has T [] ∧ aO ⟨H0, [], []⟩ H [] ∧ cF eq2  = some r) ?_ ?_
  · clear hO h0
    rintro T H ⟨hT, hO, h0⟩
    refine bB hT ?_
    clear hT
    unfold cF at h0
    refine bV aG 1 [(6, (aL true))] ?_
    refine bH ?_
    obtain rfl := oI h0
    exact aI (Q_r hO)
  refine aY aG 3 [0] [(15, (eL aJ s10)), (16, (eI (lN s10))), (17, (eI (0 : Int)))] ?_
  refine bP 0 ?_
  refine cT [(1, (eL aJ s21)), (2, (.fn (.func eq2_f) eq2_a eq2_c)), (15, (eL aJ s10)), (16, (eI (lN s10))), (17, (eI (0 : Int)))] ?_
  refine cL (fun T H => ∃ t15 : (List aM), ∃ t16 : Int, ∃ t17 : Int, Has T [(1, (eL aJ s21)), (2, (.fn (.func eq2_f) eq2_a eq2_c)), (15, (eL aJ t15)), (16, (eI t16)), (17, (eI t17))] ∧ aO ⟨H0, [], []⟩ H [] ∧ cM eq2 s21 t15 t16 t17 = some r) ?_ ⟨s10, (lN s10), (0 : Int), .eq (by kernel_rfl), hO, h0⟩
  clear hO h0
  rintro T H ⟨t15, t16, t17, hT, hO, h0⟩
  refine bB hT ?_
  clear hT
  unfold cM at h0
  obtain ⟨rr0, hl0, h0⟩ := aV h0
  refine cB (by kernel_rfl) (fun (s : Int) T H => Has T [(1, (eL aJ s21)), (2, (.fn (.func eq2_f) eq2_a eq2_c)), (15, (eL aJ t15)), (16, (eI t16)), (17, (eI s))] ∧ aO ⟨H0, [], []⟩ H []) hl0 ⟨.eq (by kernel_rfl), hO⟩ ?_
  clear hO
  rintro k0 s out1 T H ⟨hT, hO⟩ h1 ho0
  obtain ⟨t17, rfl⟩ : ∃ x, x = s := ⟨_, rfl⟩
  replace h1 : bY eq2 s21 t15 t16 t17 = some out1 := h1
  refine bB hT ?_
  clear hT
  unfold bY at h1
  refine aY aG 1 [] [(18, (aL (decide (t17 < t16))))] ?_
  refine aQ ?_
  refine bL h1 (fun h1 => ?_) (fun h1 => ?_)
  · refine bN ?_
    refine bF [(1, (eL aJ s21)), (2, (.fn (.func eq2_f) eq2_a eq2_c)), (15, (eL aJ t15)), (16, (eI t16)), (17, (eI t17))] ?_
    refine aQ ?_
    refine bP 1 ?_
    refine aQ ?_
    refine aT aG 6 ?_
    obtain ⟨c3, h1⟩ := bJ h1
    refine qG 3 [0 ≤ t17 ∧ t17 < (lN t15)] ⟨c3, trivial⟩ ?_
    refine qE 3 (.agg [(.sl true 0 (fun _ => .bad)), (eI 0), (eI 0)]) (aJ (aM.mk ([]) (aS.mk 0 0))) (by kernel_rfl) (by kernel_rfl) (by kernel_rfl) (GY (xs := [(.sl true 0 (fun _ => .bad)), (eI 0), (eI 0)]) (ys := [(eL aK ([])), (eI 0), (eI 0)]) ⟨fJ, aX.refl _, aX.refl _, trivial⟩) (by kernel_rfl) (by kernel_rfl) hO ?_
    intro lo4 H hO
    refine bM 5 ?_
    refine iW 0 lo4 3 0 (aJ (aM.mk ([]) (aS.mk 0 0))) (aJ (gD t15 t17)) [(aJ (aM.mk ([]) (aS.mk 0 0)))] [(lo4, 3, [(aJ (gD t15 t17))])] hO rfl (by kernel_rfl) ?_
    intro H hO
    refine cH ?_
    refine bS [] [(7, (eI t17)), (8, (.lp lo4 0 0))] ?_
    refine aQ ?_
    refine aT aG 6 ?_
    obtain ⟨c5, h1⟩ := bJ h1
    refine qG 4 [0 ≤ t17 ∧ t17 < (lN s21)] ⟨c5, trivial⟩ ?_
    refine qE 3 (.agg [(.sl true 0 (fun _ => .bad)), (eI 0), (eI 0)]) (aJ (aM.mk ([]) (aS.mk 0 0))) (by kernel_rfl) (by kernel_rfl) (by kernel_rfl) (GY (xs := [(.sl true 0 (fun _ => .bad)), (eI 0), (eI 0)]) (ys := [(eL aK ([])), (eI 0), (eI 0)]) ⟨fJ, aX.refl _, aX.refl _, trivial⟩) (by kernel_rfl) (by kernel_rfl) hO ?_
    intro lo6 H hO
    refine iW 1 lo6 3 0 (aJ (aM.mk ([]) (aS.mk 0 0))) (aJ (gD s21 t17)) [(aJ (aM.mk ([]) (aS.mk 0 0)))] [(lo4, 3, [(aJ (gD t15 t17))]), (lo6, 3, [(aJ (gD s21 t17))])] hO rfl (by kernel_rfl) ?_
    intro H hO
    refine cH ?_
    refine bS [7] [(9, (.lp lo6 0 0))] ?_
    refine aQ ?_
    refine aT aG 5 ?_
    refine bM 1 ?_
    refine lM 0 lo4 3 0 (aJ (gD t15 t17)) (aJ (gD t15 t17)) [(aJ (gD t15 t17))] hO rfl ?_
    refine lM 1 lo6 3 0 (aJ (gD s21 t17)) (aJ (gD s21 t17)) [(aJ (gD s21 t17))] hO rfl ?_
    obtain ⟨x7, hx8, h1⟩ := aV h1
    refine cJ (eq2_h (gD t15 t17) (gD s21 t17) _ hx8) hO ?_
    intro H hO
    refine bC ?_
    replace hO := hO.pick (L' := []) [] (by decide) (by kernel_rfl)
    refine bS [8, 9] [(30, (aL (!x7)))] ?_
    refine bL h1 (fun h1 => ?_) (fun h1 => ?_)
    · refine bV aG 1 [(6, (aL false))] ?_
      refine bH ?_
      obtain rfl := oI h1
      obtain rfl : _ = rr0 := ho0
      replace h0 : some false = some r := h0
      obtain rfl := oI h0
      exact aI (bR (bA (bA (bR (bA (Q_r hO))))))
    refine bN ?_
    refine dD [(1, (eL aJ s21)), (2, (.fn (.func eq2_f) eq2_a eq2_c)), (15, (eL aJ t15)), (16, (eI t16)), (17, (eI t17))] ?_
    refine aI (aU (aH (?_)))
    refine aT aG 2 ?_
    refine bC ?_
    exact aI (aH (⟨rfl, _, (oI h1).symm, .eq (by kernel_rfl), hO⟩))
  refine dU 0 ?_
  obtain rfl := oI h1
  obtain rfl : _ = rr0 := ho0
  replace h0 : cF eq2  = some r := h0
  exact aI (aZ (aZ (bO (aH (⟨rfl, .eq (by kernel_rfl), hO, h0⟩)))))

theorem OC (x0 : aM) (y1 : aM) (r : Bool) (h0 : nU x0 y1 = some r) : bT Try.prog 82 [(aJ x0), (aJ y1)] (aL r) := by
  intro H0
  refine cI Try.func82 ?_
  have hO := aO.start H0
  unfold nU at h0
  refine aQ ?_
  refine aT aG 3 ?_
  refine gO 3 (aJ x0) (by kernel_rfl) (by kernel_rfl) ?_
  refine gO 3 (aJ y1) (by kernel_rfl) (by kernel_rfl) ?_
  refine bC ?_
  refine bF [(2, (.rp (aJ x0))), (3, (.rp (aJ y1)))] ?_
  refine aQ ?_
  refine aT aG 13 ?_
  refine bM 10 ?_
  obtain ⟨x1, hx2, h0⟩ := aV h0
  refine gQ [(10, true)] 78 [(eL aK x0.Row), (eL aK y1.Row)] (aL x1) ((decide (x0.Span.From = y1.Span.From)) && ((decide (x0.Span.To = y1.Span.To)) && true)) (by kernel_rfl) (by kernel_rfl) (by kernel_rfl) (fun hb3 => (EI x0.Row y1.Row _ (jH hx2 hb3))) hO ?_
  intro H hO
  refine bC ?_
  refine bF [(4, (aL (((decide (x0.Span.From = y1.Span.From)) && ((decide (x0.Span.To = y1.Span.To)) && true)) && x1)))] ?_
  refine bH ?_
  obtain rfl := oI h0
  exact aI (Q_r hO)

theorem SL (a0 : (List aM)) (b1 : (List aM)) (r : Bool) (h0 : sY a0 b1 = some r) : bT Try.prog 41 [(eL aJ a0), (eL aJ b1)] (aL r) := by
  intro H0
  refine cI Try.func41 ?_
  have hO := aO.start H0
  unfold sY at h0
  refine aY aG 1 [] [] ?_
  refine aQ ?_
  refine aT aG 4 ?_
  refine bM 2 ?_
  obtain ⟨x1, hx2, h0⟩ := aV h0
  refine cJ (mW a0 b1 82 [] [] (fun y0 y1 => nU y0 y1) (fun y0 y1 r h => OC y0 y1 r h) _ hx2) hO ?_
  intro H hO
  refine bC ?_
  refine bF [(4, (aL x1))] ?_
  refine bH ?_
  obtain rfl := oI h0
  exact aI (Q_r hO)

theorem GS (a0 : (List aF)) (b1 : (List aF)) (r : Bool) (h0 : qO a0 b1 = some r) : bT Try.prog 46 [(eL aK a0), (eL aK b1)] (aL r) := by
  intro H0
  refine cI Try.func46 ?_
  have hO := aO.start H0
  unfold qO at h0
  refine aY aG 1 [] [] ?_
  refine aQ ?_
  refine aY aG 5 [] [(10, (aL (!decide ((lN a0) = (lN b1)))))] ?_
  refine bL h0 (fun h0 => ?_) (fun h0 => ?_)
  · refine bV aG 1 [(4, (aL false))] ?_
    refine bH ?_
    obtain rfl := oI h0
    exact aI (bA (Q_r hO))
  refine bN ?_
  refine bF [(0, (eL aK a0)), (1, (eL aK b1))] ?_
  refine dB (fun T H => Has T [] ∧ aO ⟨H0, [], []⟩ H [] ∧ rZ  = some r) ?_ ?_
  · clear hO h0
    rintro T H ⟨hT, hO, h0⟩
    refine bB hT ?_
    clear hT
    unfold rZ at h0
    refine bV aG 1 [(4, (aL true))] ?_
    refine bH ?_
    obtain rfl := oI h0
    exact aI (Q_r hO)
  refine aY aG 1 [] [(5, (eI (0 : Int)))] ?_
  refine bP 0 ?_
  refine cT [(0, (eL aK a0)), (1, (eL aK b1)), (5, (eI (0 : Int)))] ?_
  refine cL (fun T H => ∃ i5 : Int, Has T [(0, (eL aK a0)), (1, (eL aK b1)), (5, (eI i5))] ∧ aO ⟨H0, [], []⟩ H [] ∧ wQ a0 b1 i5 = some r) ?_ ⟨(0 : Int), .eq (by kernel_rfl), hO, h0⟩
  clear hO h0
  rintro T H ⟨i5, hT, hO, h0⟩
  refine bB hT ?_
  clear hT
  unfold wQ at h0
  obtain ⟨rr0, hl0, h0⟩ := aV h0
  refine cB (by kernel_rfl) (fun (s : Int) T H => Has T [(0, (eL aK a0)), (1, (eL aK b1)), (5, (eI s))] ∧ aO ⟨H0, [], []⟩ H []) hl0 ⟨.eq (by kernel_rfl), hO⟩ ?_
  clear hO
  rintro k0 s out1 T H ⟨hT, hO⟩ h1 ho0
  obtain ⟨i5, rfl⟩ : ∃ x, x = s := ⟨_, rfl⟩
  replace h1 : pN a0 b1 i5 = some out1 := h1
  refine bB hT ?_
  clear hT
  unfold pN at h1
  refine aQ ?_
  refine aY aG 4 [] [(14, (aL (decide (i5 < (lN a0)))))] ?_
  refine bL h1 (fun h1 => ?_) (fun h1 => ?_)
  · refine bN ?_
    refine bF [(0, (eL aK a0)), (1, (eL aK b1)), (5, (eI i5))] ?_
    refine aQ ?_
    refine bP 1 ?_
    refine aQ ?_
    refine kC (jO [20, 24]) aG 9 ?_
    obtain ⟨c3, h1⟩ := bJ h1
    obtain ⟨c4, h1⟩ := bJ h1
    refine JX (Ds := [0 ≤ i5 ∧ i5 < (lN a0), 0 ≤ i5 ∧ i5 < (lN b1)]) (by kernel_rfl) ⟨c3, c4, trivial⟩ ?_
    refine bS [] [(25, (aL (!((decide (((gD a0 i5).Kind) = ((gD b1 i5).Kind))) && ((decide (((gD a0 i5).Num) = ((gD b1 i5).Num))) && ((oE ((gD a0 i5).Text) ((gD b1 i5).Text)) && true))))))] ?_
    refine bL h1 (fun h1 => ?_) (fun h1 => ?_)
    · refine bV aG 1 [(4, (aL false))] ?_
      refine bH ?_
      obtain rfl := oI h1
      obtain rfl : _ = rr0 := ho0
      replace h0 : some false = some r := h0
      obtain rfl := oI h0
      exact aI (bR (bA (bA (bR (bA (Q_r hO))))))
    refine bN ?_
    refine dD [(0, (eL aK a0)), (1, (eL aK b1)), (5, (eI i5))] ?_
    refine aI (aU (aH (?_)))
    refine aT aG 3 ?_
    refine bC ?_
    exact aI (aH (⟨rfl, _, (oI h1).symm, .eq (by kernel_rfl), hO⟩))
  refine dU 0 ?_
  obtain rfl := oI h1
  obtain rfl : _ = rr0 := ho0
  replace h0 : rZ  = some r := h0
  exact aI (aZ (aZ (bO (aH (⟨rfl, .eq (by kernel_rfl), hO, h0⟩)))))

theorem PT (a0 : (List aM)) (b1 : (List aM)) (r : Bool) (h0 : rD a0 b1 = some r) : bT Try.prog 12 [(eL aJ a0), (eL aJ b1)] (aL r) := by
  intro H0
  refine cI Try.func12 ?_
  have hO := aO.start H0
  unfold rD at h0
  refine aY aG 1 [] [] ?_
  refine aQ ?_
  refine aY aG 5 [] [(10, (aL (!decide ((lN a0) = (lN b1)))))] ?_
  refine bL h0 (fun h0 => ?_) (fun h0 => ?_)
  · refine bV aG 1 [(4, (aL false))] ?_
    refine bH ?_
    obtain rfl := oI h0
    exact aI (bA (Q_r hO))
  refine bN ?_
  refine bF [(0, (eL aJ a0)), (1, (eL aJ b1))] ?_
  refine dB (fun T H => Has T [] ∧ aO ⟨H0, [], []⟩ H [] ∧ sH  = some r) ?_ ?_
  · clear hO h0
    rintro T H ⟨hT, hO, h0⟩
    refine bB hT ?_
    clear hT
    unfold sH at h0
    refine bV aG 1 [(4, (aL true))] ?_
    refine bH ?_
    obtain rfl := oI h0
    exact aI (Q_r hO)
  refine aY aG 1 [] [(5, (eI (0 : Int)))] ?_
  refine bP 0 ?_
  refine cT [(0, (eL aJ a0)), (1, (eL aJ b1)), (5, (eI (0 : Int)))] ?_
  refine cL (fun T H => ∃ i5 : Int, Has T [(0, (eL aJ a0)), (1, (eL aJ b1)), (5, (eI i5))] ∧ aO ⟨H0, [], []⟩ H [] ∧ wM a0 b1 i5 = some r) ?_ ⟨(0 : Int), .eq (by kernel_rfl), hO, h0⟩
  clear hO h0
  rintro T H ⟨i5, hT, hO, h0⟩
  refine bB hT ?_
  clear hT
  unfold wM at h0
  obtain ⟨rr0, hl0, h0⟩ := aV h0
  refine cB (by kernel_rfl) (fun (s : Int) T H => Has T [(0, (eL aJ a0)), (1, (eL aJ b1)), (5, (eI s))] ∧ aO ⟨H0, [], []⟩ H []) hl0 ⟨.eq (by kernel_rfl), hO⟩ ?_
  clear hO
  rintro k0 s out1 T H ⟨hT, hO⟩ h1 ho0
  obtain ⟨i5, rfl⟩ : ∃ x, x = s := ⟨_, rfl⟩
  replace h1 : pO a0 b1 i5 = some out1 := h1
  refine bB hT ?_
  clear hT
  unfold pO at h1
  refine aQ ?_
  refine aY aG 4 [] [(14, (aL (decide (i5 < (lN a0)))))] ?_
  refine bL h1 (fun h1 => ?_) (fun h1 => ?_)
  · refine bN ?_
    refine bF [(0, (eL aJ a0)), (1, (eL aJ b1)), (5, (eI i5))] ?_
    refine aQ ?_
    refine bP 1 ?_
    refine aQ ?_
    obtain ⟨c3, h1⟩ := bJ h1
    obtain ⟨c4, h1⟩ := bJ h1
    obtain ⟨c5, h1⟩ := bJ h1
    obtain ⟨c6, h1⟩ := bJ h1
    obtain ⟨x7, hx8, h1⟩ := aV h1
    refine kC (jO [21, 26, 33, 38]) aG 25 ?_
    refine CV (K := fun T H => Has (lift T) [(0, (eL aJ a0)), (1, (eL aJ b1)), (5, (eI i5)), (41, (aL ((!((decide ((((gD a0 i5).Span).From) = (((gD b1 i5).Span).From))) && ((decide ((((gD a0 i5).Span).To) = (((gD b1 i5).Span).To))) && true))) || (!x7))))] ∧ aO ⟨H0, [], []⟩ H []) ?_ ?_
    · refine dM 12 [0 ≤ i5 ∧ i5 < (lN a0), 0 ≤ i5 ∧ i5 < (lN b1)] ⟨c3, c4, trivial⟩ ?_
      refine DJ (t := 28) (e := !((decide ((((gD a0 i5).Span).From) = (((gD b1 i5).Span).From))) && ((decide ((((gD a0 i5).Span).To) = (((gD b1 i5).Span).To))) && true))) (by kernel_rfl) (fun hg9 => ?_) (fun hg9 => ?_)
      · refine qF ?_
        exact ⟨⟨[(0, (eL aJ a0)), (1, (eL aJ b1)), (5, (eI i5)), (41, (aL true))], by kernel_rfl, rfl, ⟨aX.refl _, aX.refl _, aX.refl _, aX.eq (congrArg aL (aBI hg9 rfl).symm), trivial⟩⟩, hO⟩
      refine dM 22 [0 ≤ i5 ∧ i5 < (lN a0), 0 ≤ i5 ∧ i5 < (lN b1)] ⟨(c5 (VZ hg9)), (c6 (VZ hg9)), trivial⟩ ?_
      refine LK 46 [(eL aK ((gD a0 i5).Row)), (eL aK ((gD b1 i5).Row))] (aL x7) (by kernel_rfl) (by kernel_rfl) (GS ((gD a0 i5).Row) ((gD b1 i5).Row) _ (jH hx8 (VZ hg9))) hO ?_
      intro H hO
      refine qF ?_
      exact ⟨⟨[(0, (eL aJ a0)), (1, (eL aJ b1)), (5, (eI i5)), (41, (aL (!x7)))], by kernel_rfl, rfl, ⟨aX.refl _, aX.refl _, aX.refl _, aX.eq (congrArg aL (aBI hg9 rfl).symm), trivial⟩⟩, hO⟩
    · rintro T H ⟨hT, hO⟩
      refine cS hT ?_
      clear hT
      refine aI (aH ?_)
      refine bL h1 (fun h1 => ?_) (fun h1 => ?_)
      · refine bV aG 1 [(4, (aL false))] ?_
        refine bH ?_
        obtain rfl := oI h1
        obtain rfl : _ = rr0 := ho0
        replace h0 : some false = some r := h0
        obtain rfl := oI h0
        exact aI (bR (bA (bA (bR (bA (Q_r hO))))))
      refine bN ?_
      refine dD [(0, (eL aJ a0)), (1, (eL aJ b1)), (5, (eI i5))] ?_
      refine aI (aU (aH (?_)))
      refine aT aG 3 ?_
      refine bC ?_
      exact aI (aH (⟨rfl, _, (oI h1).symm, .eq (by kernel_rfl), hO⟩))
  refine dU 0 ?_
  obtain rfl := oI h1
  obtain rfl : _ = rr0 := ho0
  replace h0 : sH  = some r := h0
  exact aI (aZ (aZ (bO (aH (⟨rfl, .eq (by kernel_rfl), hO, h0⟩)))))

theorem BL  (r : Bool) (h0 : pF  = some r) : bT Try.prog 10 [] (aL r) := by
  intro H0
  refine cI Try.func10 ?_
  have hO := aO.start H0
  unfold pF at h0
  refine bV aG 1 [] ?_
  refine aQ ?_
  refine aT aG 9 ?_
  obtain ⟨x1, hx2, h0⟩ := aV h0
  refine cJ (nM (5 : Int) (9 : Int) _ hx2) hO ?_
  intro H hO
  obtain ⟨x4, hx5, h0⟩ := aV h0
  refine cJ (nM (2 : Int) (5 : Int) _ hx5) hO ?_
  intro H hO
  refine xY (xs := [(aJ x1), (aJ x4)]) (k := 3) (by kernel_rfl) (by kernel_rfl) ?_
  obtain ⟨x7, hx8, h0⟩ := aV h0
  refine aBJ 11 [(fI [(aJ x1), (aJ x4)])] (.tup [(eL aJ x7.1), (eI x7.2)]) (bT.sub (CG ([x1, x4]) _ hx8) ⟨CY (l := [x1, x4]), trivial⟩) hO ?_
  intro H hO
  refine bC ?_
  refine bF [(1, (eL aJ x7.1)), (2, (eI x7.2))] ?_
  refine aQ ?_
  refine aT aG 9 ?_
  obtain ⟨x10, hx11, h0⟩ := aV h0
  refine cJ (nM (1 : Int) (10 : Int) _ hx11) hO ?_
  intro H hO
  obtain ⟨x13, hx14, h0⟩ := aV h0
  refine cJ (nM (3 : Int) (5 : Int) _ hx14) hO ?_
  intro H hO
  refine xY (xs := [(aJ x10), (aJ x13)]) (k := 3) (by kernel_rfl) (by kernel_rfl) ?_
  obtain ⟨x16, hx17, h0⟩ := aV h0
  refine aBJ 11 [(fI [(aJ x10), (aJ x13)])] (.tup [(eL aJ x16.1), (eI x16.2)]) (bT.sub (CG ([x10, x13]) _ hx17) ⟨CY (l := [x10, x13]), trivial⟩) hO ?_
  intro H hO
  refine bC ?_
  refine bS [] [(3, (eL aJ x16.1)), (4, (eI x16.2))] ?_
  refine aQ ?_
  refine aT aG 29 ?_
  refine bM 8 ?_
  obtain ⟨x19, hx20, h0⟩ := aV h0
  refine gQ [(25, true)] 44 [(eI (2 : Int)), (eI (9 : Int))] (aJ x19) ((decide (x7.2 = (0 : Int))) && (decide (x16.2 = (0 : Int)))) (by kernel_rfl) (by kernel_rfl) (by kernel_rfl) (fun hb21 => (nM (2 : Int) (9 : Int) _ (jH hx20 hb21))) hO ?_
  intro H hO
  refine YP [(25, true)] [(aJ x19)] (by kernel_rfl) (by kernel_rfl) ?_
  obtain ⟨x22, hx23, h0⟩ := aV h0
  refine gQ [(25, true)] 41 [(eL aJ x7.1), (fI [(aJ x19)])] (aL x22) ((decide (x7.2 = (0 : Int))) && (decide (x16.2 = (0 : Int)))) (by kernel_rfl) (by kernel_rfl) (by kernel_rfl) (fun hb24 => (bT.sub (SL x7.1 ([x19]) _ (jH hx23 hb24)) ⟨aX.refl _, CY (l := [x19]), trivial⟩)) hO ?_
  intro H hO
  refine bM 14 ?_
  obtain ⟨x25, hx26, h0⟩ := aV h0
  refine gQ [(31, true)] 44 [(eI (1 : Int)), (eI (5 : Int))] (aJ x25) (((decide (x7.2 = (0 : Int))) && (decide (x16.2 = (0 : Int)))) && x22) (by kernel_rfl) (by kernel_rfl) (by kernel_rfl) (fun hb27 => (nM (1 : Int) (5 : Int) _ (jH hx26 hb27))) hO ?_
  intro H hO
  obtain ⟨x28, hx29, h0⟩ := aV h0
  refine gQ [(31, true)] 44 [(eI (3 : Int)), (eI (10 : Int))] (aJ x28) (((decide (x7.2 = (0 : Int))) && (decide (x16.2 = (0 : Int)))) && x22) (by kernel_rfl) (by kernel_rfl) (by kernel_rfl) (fun hb30 => (nM (3 : Int) (10 : Int) _ (jH hx29 hb30))) hO ?_
  intro H hO
  refine YP [(31, true)] [(aJ x25), (aJ x28)] (by kernel_rfl) (by kernel_rfl) ?_
  obtain ⟨x31, hx32, h0⟩ := aV h0
  refine gQ [(31, true)] 12 [(eL aJ x16.1), (fI [(aJ x25), (aJ x28)])] (aL x31) (((decide (x7.2 = (0 : Int))) && (decide (x16.2 = (0 : Int)))) && x22) (by kernel_rfl) (by kernel_rfl) (by kernel_rfl) (fun hb33 => (bT.sub (PT x16.1 ([x25, x28]) _ (jH hx32 hb33)) ⟨aX.refl _, CY (l := [x25, x28]), trivial⟩)) hO ?_
  intro H hO
  refine bM 20 ?_
  obtain ⟨x34, hx35, h0⟩ := aV h0
  refine gQ [(38, true)] 44 [(eI (-1 : Int)), (eI (0 : Int))] (aJ x34) ((((decide (x7.2 = (0 : Int))) && (decide (x16.2 = (0 : Int)))) && x22) && x31) (by kernel_rfl) (by kernel_rfl) (by kernel_rfl) (fun hb36 => (nM (-1 : Int) (0 : Int) _ (jH hx35 hb36))) hO ?_
  intro H hO
  obtain ⟨x37, hx38, h0⟩ := aV h0
  refine gQ [(38, true)] 45 [(aJ x34)] (aL x37) ((((decide (x7.2 = (0 : Int))) && (decide (x16.2 = (0 : Int)))) && x22) && x31) (by kernel_rfl) (by kernel_rfl) (by kernel_rfl) (fun hb39 => (DO x34 _ (jH hx38 hb39))) hO ?_
  intro H hO
  refine bM 24 ?_
  obtain ⟨x40, hx41, h0⟩ := aV h0
  refine gQ [(42, true)] 44 [(eI (3 : Int)), (eI (3 : Int))] (aJ x40) (((((decide (x7.2 = (0 : Int))) && (decide (x16.2 = (0 : Int)))) && x22) && x31) && x37) (by kernel_rfl) (by kernel_rfl) (by kernel_rfl) (fun hb42 => (nM (3 : Int) (3 : Int) _ (jH hx41 hb42))) hO ?_
  intro H hO
  obtain ⟨x43, hx44, h0⟩ := aV h0
  refine gQ [(42, true)] 45 [(aJ x40)] (aL x43) (((((decide (x7.2 = (0 : Int))) && (decide (x16.2 = (0 : Int)))) && x22) && x31) && x37) (by kernel_rfl) (by kernel_rfl) (by kernel_rfl) (fun hb45 => (DO x40 _ (jH hx44 hb45))) hO ?_
  intro H hO
  refine bC ?_
  refine bF [(0, (aL ((((((decide (x7.2 = (0 : Int))) && (decide (x16.2 = (0 : Int)))) && x22) && x31) && x37) && (!x43))))] ?_
  refine bH ?_
  obtain rfl := oI h0
  exact aI (Q_r hO)

theorem SS (f0 : (List aB)) (r : Bool) (h0 : vW f0 = some r) : bT Try.prog 72 [(eL aD f0)] (aL r) := by
  intro H0
  refine cI Try.func72 ?_
  have hO := aO.start H0
  unfold vW at h0
  refine aY aG 1 [] [] ?_
  refine aQ ?_
  refine aY aG 3 [] [(6, (aL (decide ((1024 : Int) < (lN f0)))))] ?_
  refine bL h0 (fun h0 => ?_) (fun h0 => ?_)
  · refine bV aG 1 [(2, (aL false))] ?_
    refine bH ?_
    obtain rfl := oI h0
    exact aI (bA (Q_r hO))
  refine bN ?_
  refine bF [(0, (eL aD f0))] ?_
  refine dB (fun T H => Has T [] ∧ aO ⟨H0, [], []⟩ H [] ∧ uA  = some r) ?_ ?_
  · clear hO h0
    rintro T H ⟨hT, hO, h0⟩
    refine bB hT ?_
    clear hT
    unfold uA at h0
    refine bV aG 1 [(2, (aL true))] ?_
    refine bH ?_
    obtain rfl := oI h0
    exact aI (Q_r hO)
  refine aY aG 1 [] [(3, (eI (0 : Int)))] ?_
  refine bP 0 ?_
  refine cT [(0, (eL aD f0)), (3, (eI (0 : Int)))] ?_
  refine cL (fun T H => ∃ i3 : Int, Has T [(0, (eL aD f0)), (3, (eI i3))] ∧ aO ⟨H0, [], []⟩ H [] ∧ xM f0 i3 = some r) ?_ ⟨(0 : Int), .eq (by kernel_rfl), hO, h0⟩
  clear hO h0
  rintro T H ⟨i3, hT, hO, h0⟩
  refine bB hT ?_
  clear hT
  unfold xM at h0
  obtain ⟨rr0, hl0, h0⟩ := aV h0
  refine cB (by kernel_rfl) (fun (s : Int) T H => Has T [(0, (eL aD f0)), (3, (eI s))] ∧ aO ⟨H0, [], []⟩ H []) hl0 ⟨.eq (by kernel_rfl), hO⟩ ?_
  clear hO
  rintro k0 s out1 T H ⟨hT, hO⟩ h1 ho0
  obtain ⟨i3, rfl⟩ : ∃ x, x = s := ⟨_, rfl⟩
  replace h1 : lB f0 i3 = some out1 := h1
  refine bB hT ?_
  clear hT
  unfold lB at h1
  refine aQ ?_
  refine aY aG 4 [] [(10, (aL (decide (i3 < (lN f0)))))] ?_
  refine bL h1 (fun h1 => ?_) (fun h1 => ?_)
  · refine bN ?_
    refine bF [(0, (eL aD f0)), (3, (eI i3))] ?_
    refine aQ ?_
    refine bP 1 ?_
    refine aQ ?_
    refine aQ ?_
    refine aT aG 38 ?_
    obtain ⟨c3, h1⟩ := bJ h1
    obtain ⟨c4, h1⟩ := bJ h1
    obtain ⟨c5, h1⟩ := bJ h1
    obtain ⟨c6, h1⟩ := bJ h1
    obtain ⟨c7, h1⟩ := bJ h1
    refine vB [0 ≤ i3 ∧ i3 < (lN f0), (((!(decide (((gD f0 i3).At) < (-1 : Int))))) = true → 0 ≤ i3 ∧ i3 < (lN f0)), (((!((decide (((gD f0 i3).At) < (-1 : Int))) || (decide ((1125899906842624 : Int) ≤ ((gD f0 i3).At)))))) = true → 0 ≤ i3 ∧ i3 < (lN f0)), (((!(((decide (((gD f0 i3).At) < (-1 : Int))) || (decide ((1125899906842624 : Int) ≤ ((gD f0 i3).At)))) || (decide (((gD f0 i3).Net) = (0 : Int)))))) = true → 0 ≤ i3 ∧ i3 < (lN f0)), (((!((((decide (((gD f0 i3).At) < (-1 : Int))) || (decide ((1125899906842624 : Int) ≤ ((gD f0 i3).At)))) || (decide (((gD f0 i3).Net) = (0 : Int)))) || (decide ((1048576 : Int) < ((gD f0 i3).Net)))))) = true → 0 ≤ i3 ∧ i3 < (lN f0))] ⟨c3, c4, c5, c6, c7, trivial⟩ ?_
    refine bS [] [(50, (aL (((((decide (((gD f0 i3).At) < (-1 : Int))) || (decide ((1125899906842624 : Int) ≤ ((gD f0 i3).At)))) || (decide (((gD f0 i3).Net) = (0 : Int)))) || (decide ((1048576 : Int) < ((gD f0 i3).Net)))) || (decide (((gD f0 i3).Net) < (-1048576 : Int))))))] ?_
    refine bL h1 (fun h1 => ?_) (fun h1 => ?_)
    · refine bV aG 1 [(2, (aL false))] ?_
      refine bH ?_
      obtain rfl := oI h1
      obtain rfl : _ = rr0 := ho0
      replace h0 : some false = some r := h0
      obtain rfl := oI h0
      exact aI (bA (bR (bA (bA (bR (bA (Q_r hO)))))))
    refine bN ?_
    refine bF [(0, (eL aD f0)), (3, (eI i3))] ?_
    refine aQ ?_
    obtain ⟨c9, h1⟩ := bJ h1
    obtain ⟨c10, h1⟩ := bJ h1
    refine kC (jO [58, 64]) aG 16 ?_
    refine CV (K := fun T H => Has (lift T) [(0, (eL aD f0)), (3, (eI i3)), (66, (aL ((decide ((0 : Int) < i3)) && (decide (((gD f0 i3).At) ≤ ((gD f0 (wR (i3 - (1 : Int)))).At))))))] ∧ aO ⟨H0, [], []⟩ H []) ?_ ?_
    · refine uJ 3 ?_
      refine DJ (t := 53) (e := decide ((0 : Int) < i3)) (by kernel_rfl) (fun hg11 => ?_) (fun hg11 => ?_)
      · refine JX (Ds := [0 ≤ i3 ∧ i3 < (lN f0), 0 ≤ (wR (i3 - (1 : Int))) ∧ (wR (i3 - (1 : Int))) < (lN f0)]) (by kernel_rfl) ⟨(c9 hg11), (c10 hg11), trivial⟩ ?_
        exact ⟨⟨[(0, (eL aD f0)), (3, (eI i3)), (66, (aL (decide (((gD f0 i3).At) ≤ ((gD f0 (wR (i3 - (1 : Int)))).At)))))], by kernel_rfl, rfl, ⟨aX.refl _, aX.refl _, aX.eq (congrArg aL (CA hg11 rfl).symm), trivial⟩⟩, hO⟩
      refine qF ?_
      exact ⟨⟨[(0, (eL aD f0)), (3, (eI i3)), (66, (aL false))], by kernel_rfl, rfl, ⟨aX.refl _, aX.refl _, aX.eq (congrArg aL (CA hg11 rfl).symm), trivial⟩⟩, hO⟩
    · rintro T H ⟨hT, hO⟩
      refine cS hT ?_
      clear hT
      refine aI (aH ?_)
      refine bL h1 (fun h1 => ?_) (fun h1 => ?_)
      · refine bV aG 1 [(2, (aL false))] ?_
        refine bH ?_
        obtain rfl := oI h1
        obtain rfl : _ = rr0 := ho0
        replace h0 : some false = some r := h0
        obtain rfl := oI h0
        exact aI (bR (bA (bA (bR (bA (Q_r hO))))))
      refine bN ?_
      refine dD [(0, (eL aD f0)), (3, (eI i3))] ?_
      refine aI (aU (aH (?_)))
      refine aT aG 3 ?_
      refine bC ?_
      exact aI (aH (⟨rfl, _, (oI h1).symm, .eq (by kernel_rfl), hO⟩))
  refine dU 0 ?_
  obtain rfl := oI h1
  obtain rfl : _ = rr0 := ho0
  replace h0 : uA  = some r := h0
  exact aI (aZ (aZ (bO (aH (⟨rfl, .eq (by kernel_rfl), hO, h0⟩)))))

theorem OH (f0 : (List aB)) (t1 : Int) (r : Int) (h0 : pV f0 t1 = some r) : bT Try.prog 76 [(eL aD f0), (eI t1)] (eI r) := by
  intro H0
  refine cI Try.func76 ?_
  have hO := aO.start H0
  unfold pV at h0
  refine aY aG 1 [] [] ?_
  refine aY aG 1 [] [(5, (eI (0 : Int)))] ?_
  refine dB (fun T H => ∃ v5 : Int, Has T [(5, (eI v5))] ∧ aO ⟨H0, [], []⟩ H [] ∧ qQ v5 = some r) ?_ ?_
  · clear hO h0
    rintro T H ⟨v5, hT, hO, h0⟩
    refine bB hT ?_
    clear hT
    unfold qQ at h0
    refine bV aG 2 [(4, (eI v5))] ?_
    refine bH ?_
    obtain rfl := oI h0
    exact aI (Q_r hO)
  refine aY aG 1 [] [(6, (eI (0 : Int)))] ?_
  refine bP 0 ?_
  refine cT [(0, (eL aD f0)), (1, (eI t1)), (5, (eI (0 : Int))), (6, (eI (0 : Int)))] ?_
  refine cL (fun T H => ∃ v5 : Int, ∃ i6 : Int, Has T [(0, (eL aD f0)), (1, (eI t1)), (5, (eI v5)), (6, (eI i6))] ∧ aO ⟨H0, [], []⟩ H [] ∧ vA f0 t1 v5 i6 = some r) ?_ ⟨(0 : Int), (0 : Int), .eq (by kernel_rfl), hO, h0⟩
  clear hO h0
  rintro T H ⟨v5, i6, hT, hO, h0⟩
  refine bB hT ?_
  clear hT
  unfold vA at h0
  obtain ⟨rr0, hl0, h0⟩ := aV h0
  refine cB (by kernel_rfl) (fun (s : Int × Int) T H => Has T [(0, (eL aD f0)), (1, (eI t1)), (5, (eI s.1)), (6, (eI s.2))] ∧ aO ⟨H0, [], []⟩ H []) hl0 ⟨.eq (by kernel_rfl), hO⟩ ?_
  clear hO
  rintro k0 s out1 T H ⟨hT, hO⟩ h1 ho0
  obtain ⟨v5, i6⟩ := s
  replace h1 : iT f0 t1 v5 i6 = some out1 := h1
  try dsimp only at hT
  refine bB hT ?_
  clear hT
  unfold iT at h1
  refine aQ ?_
  refine aY aG 4 [] [(10, (aL (decide (i6 < (lN f0)))))] ?_
  refine bL h1 (fun h1 => ?_) (fun h1 => ?_)
  · refine bN ?_
    refine bF [(0, (eL aD f0)), (1, (eI t1)), (5, (eI v5)), (6, (eI i6))] ?_
    refine dB (fun T H => ∃ v5 : Int, Has T [(0, (eL aD f0)), (1, (eI t1)), (5, (eI v5)), (6, (eI i6))] ∧ aO ⟨H0, [], []⟩ H [] ∧ oT f0 t1 v5 i6 = some out1) ?_ ?_
    · clear hO h1
      rintro T H ⟨v5, hT, hO, h1⟩
      refine bB hT ?_
      clear hT
      unfold oT at h1
      refine aT aG 3 ?_
      refine bC ?_
      exact aI (aH (⟨rfl, _, (oI h1).symm, .eq (by kernel_rfl), hO⟩))
    refine bP 1 ?_
    refine aQ ?_
    refine aT aG 7 ?_
    obtain ⟨c2, h1⟩ := bJ h1
    refine vB [0 ≤ i6 ∧ i6 < (lN f0)] ⟨c2, trivial⟩ ?_
    refine bS [] [(19, (aL (decide (((gD f0 i6).At) ≤ t1))))] ?_
    refine bL h1 (fun h1 => ?_) (fun h1 => ?_)
    · refine aT aG 8 ?_
      obtain ⟨c4, h1⟩ := bJ h1
      refine vB [0 ≤ i6 ∧ i6 < (lN f0)] ⟨c4, trivial⟩ ?_
      exact aI (aU (aH (⟨rfl, _, .eq (by kernel_rfl), hO, h1⟩)))
    refine bN ?_
    exact aI (aU (aH (⟨rfl, _, .eq (by kernel_rfl), hO, h1⟩)))
  refine dU 0 ?_
  obtain rfl := oI h1
  obtain rfl : _ = rr0 := ho0
  replace h0 : qQ v5 = some r := h0
  exact aI (aZ (aZ (bO (aH (⟨rfl, _, .eq (by kernel_rfl), hO, h0⟩)))))

end Go.Abs
namespace Go.Abs
open Go Go.RowKit Go.Proofs
theorem FH (l0 : (List aM)) (r1 : (List aF)) (t2 : Int) (r : Int) (h0 : pU l0 r1 t2 = some r) : bT Try.prog 34 [(eL aJ l0), (eL aK r1), (eI t2)] (eI r) := by
  intro H0
  refine cI Try.func34 ?_
  have hO := aO.start H0
  unfold pU at h0
  refine aY aG 1 [] [] ?_
  refine aY aG 1 [] [(7, (eI (0 : Int)))] ?_
  refine dB (fun T H => ∃ n7 : Int, Has T [(7, (eI n7))] ∧ aO ⟨H0, [], []⟩ H [] ∧ rA n7 = some r) ?_ ?_
  · clear hO h0
    rintro T H ⟨n7, hT, hO, h0⟩
    refine bB hT ?_
    clear hT
    unfold rA at h0
    refine bV aG 2 [(6, (eI n7))] ?_
    refine bH ?_
    obtain rfl := oI h0
    exact aI (Q_r hO)
  refine aY aG 1 [] [(8, (eI (0 : Int)))] ?_
  refine bP 0 ?_
  refine cT [(0, (eL aJ l0)), (1, (eL aK r1)), (2, (eI t2)), (7, (eI (0 : Int))), (8, (eI (0 : Int)))] ?_
  refine cL (fun T H => ∃ n7 : Int, ∃ i8 : Int, Has T [(0, (eL aJ l0)), (1, (eL aK r1)), (2, (eI t2)), (7, (eI n7)), (8, (eI i8))] ∧ aO ⟨H0, [], []⟩ H [] ∧ uW l0 r1 t2 n7 i8 = some r) ?_ ⟨(0 : Int), (0 : Int), .eq (by kernel_rfl), hO, h0⟩
  clear hO h0
  rintro T H ⟨n7, i8, hT, hO, h0⟩
  refine bB hT ?_
  clear hT
  unfold uW at h0
  obtain ⟨rr0, hl0, h0⟩ := aV h0
  refine cB (by kernel_rfl) (fun (s : Int × Int) T H => Has T [(0, (eL aJ l0)), (1, (eL aK r1)), (2, (eI t2)), (7, (eI s.1)), (8, (eI s.2))] ∧ aO ⟨H0, [], []⟩ H []) hl0 ⟨.eq (by kernel_rfl), hO⟩ ?_
  clear hO
  rintro k0 s out1 T H ⟨hT, hO⟩ h1 ho0
  obtain ⟨n7, i8⟩ := s
  replace h1 : lU l0 r1 t2 n7 i8 = some out1 := h1
  try dsimp only at hT
  refine bB hT ?_
  clear hT
  unfold lU at h1
  refine aQ ?_
  refine aY aG 4 [] [(12, (aL (decide (i8 < (lN l0)))))] ?_
  refine bL h1 (fun h1 => ?_) (fun h1 => ?_)
  · refine bN ?_
    refine bF [(0, (eL aJ l0)), (1, (eL aK r1)), (2, (eI t2)), (7, (eI n7)), (8, (eI i8))] ?_
    refine dB (fun T H => ∃ n7 : Int, Has T [(0, (eL aJ l0)), (1, (eL aK r1)), (2, (eI t2)), (7, (eI n7)), (8, (eI i8))] ∧ aO ⟨H0, [], []⟩ H [] ∧ oU l0 r1 t2 n7 i8 = some out1) ?_ ?_
    · clear hO h1
      rintro T H ⟨n7, hT, hO, h1⟩
      refine bB hT ?_
      clear hT
      unfold oU at h1
      refine aT aG 3 ?_
      refine bC ?_
      exact aI (aH (⟨rfl, _, (oI h1).symm, .eq (by kernel_rfl), hO⟩))
    refine bP 1 ?_
    refine aQ ?_
    refine aT aG 27 ?_
    obtain ⟨c2, h1⟩ := bJ h1
    refine qG 6 [0 ≤ i8 ∧ i8 < (lN l0)] ⟨c2, trivial⟩ ?_
    obtain ⟨x3, hx4, h1⟩ := aV h1
    refine cJ (GS ((gD l0 i8).Row) r1 _ hx4) hO ?_
    intro H hO
    obtain ⟨c6, h1⟩ := bJ h1
    obtain ⟨c7, h1⟩ := bJ h1
    refine vB [((x3) = true → 0 ≤ i8 ∧ i8 < (lN l0)), (((x3 && (decide ((((gD l0 i8).Span).From) ≤ t2)))) = true → 0 ≤ i8 ∧ i8 < (lN l0))] ⟨c6, c7, trivial⟩ ?_
    refine bS [] [(41, (aL ((x3 && (decide ((((gD l0 i8).Span).From) ≤ t2))) && (decide (t2 < (((gD l0 i8).Span).To))))))] ?_
    refine bL h1 (fun h1 => ?_) (fun h1 => ?_)
    · refine aT aG 3 ?_
      refine bC ?_
      exact aI (aU (aH (⟨rfl, _, .eq (by kernel_rfl), hO, h1⟩)))
    refine bN ?_
    exact aI (aU (aH (⟨rfl, _, .eq (by kernel_rfl), hO, h1⟩)))
  refine dU 0 ?_
  obtain rfl := oI h1
  obtain rfl : _ = rr0 := ho0
  replace h0 : rA n7 = some r := h0
  exact aI (aZ (aZ (bO (aH (⟨rfl, _, .eq (by kernel_rfl), hO, h0⟩)))))

theorem RQ (l0 : (List aC)) (r1 : (List aF)) (r : (List aB)) (h0 : tN l0 r1 = some r) : bT Try.prog 36 [(eL aE l0), (eL aK r1)] (eL aD r) := by
  intro H0
  refine AN aG Try.func36 (by kernel_rfl) (by kernel_rfl) (by kernel_rfl) ?_
  have hO := aO.start H0
  unfold tN at h0
  refine aQ ?_
  refine aT aG 2 ?_
  refine gO 1 (eL aK r1) (by kernel_rfl) (by kernel_rfl) ?_
  refine qE 1 (.sl true 0 (fun _ => .bad)) (eL aD ([])) (by kernel_rfl) (by kernel_rfl) (by kernel_rfl) (fJ) (by kernel_rfl) (by kernel_rfl) hO ?_
  intro lo1 H hO
  refine cH ?_
  refine bS [1] [(3, (.rp (eL aK r1))), (4, (.lp lo1 0 0))] ?_
  refine aQ ?_
  refine aQ ?_
  refine aT aG 3 ?_
  refine bM 1 ?_
  obtain ⟨x2, hx3, h0⟩ := aV h0
  refine cJ (xB r1 _ hx3) hO ?_
  intro H hO
  refine bC ?_
  refine bS [] [(9, (aL (!x2)))] ?_
  refine bL h0 (fun h0 => ?_) (fun h0 => ?_)
  · refine aQ ?_
    refine aT aG 1 ?_
    refine iW 0 lo1 1 0 (eL aD ([])) (.sl true 0 (fun _ => .bad)) [(eL aD ([]))] [(lo1, 1, [(.sl true 0 (fun _ => .bad))])] hO rfl (by kernel_rfl) ?_
    intro H hO
    refine cH ?_
    refine AT 0 lo1 1 (.sl true 0 (fun _ => .bad)) (eL aD ([])) [(lo1, 1, [(eL aD ([]))])] hO (by kernel_rfl) (by kernel_rfl) fJ (by kernel_rfl) ?_
    intro H hO
    refine bF [(4, (.lp lo1 0 0))] ?_
    refine bH ?_
    obtain rfl := oI h0
    exact aI (bA (QM0 (.inr rfl) (rs := [.cell 4 57]) (xs := [(eL aD ([]))]) (x := (eL aD ([]))) (by kernel_rfl) (qY (lo := lo1) (k := 1) (y := (eL aD ([]))) (x := (eL aD ([]))) 0 hO (by kernel_rfl) (by kernel_rfl) (by kernel_rfl) (by kernel_rfl) nZ) (by kernel_rfl) ⟨rfl, hO.out⟩))
  refine bN ?_
  refine bF [(0, (eL aE l0)), (3, (.rp (eL aK r1))), (4, (.lp lo1 0 0))] ?_
  refine aQ ?_
  refine aQ ?_
  refine aT aG 2 ?_
  refine bM 1 ?_
  obtain ⟨x6, hx7, h0⟩ := aV h0
  refine cJ (zT l0 _ hx7) hO ?_
  intro H hO
  refine cH ?_
  refine bS [0] [(11, (.fn (.func 117) [] [(.rp (eL aE x6))]))] ?_
  refine bP 0 ?_
  refine cT [(3, (.rp (eL aK r1))), (4, (.lp lo1 0 0)), (11, (.fn (.func 117) [] [(.rp (eL aE x6))]))] ?_
  refine cL (fun T H => ∃ r3 : (List aF), ∃ t4 : (List aB), ∃ uQ : (List aC), Has T [(3, (.rp (eL aK r3))), (4, (.lp lo1 0 0)), (11, (.fn (.func 117) [] [(.rp (eL aE uQ))]))] ∧ aO ⟨H0, [], []⟩ H [(lo1, 1, [(eL aD t4)])] ∧ wB r3 t4 uQ = some r) ?_ ⟨r1, [], x6, .eq (by kernel_rfl), hO, h0⟩
  clear hO h0
  rintro T H ⟨r3, t4, uQ, hT, hO, h0⟩
  refine bB (l := [(3, (.rp (eL aK r3))), (4, (.lp lo1 0 0)), (11, (.fn (.func 117) [] [(.rp (eL aE uQ))]))]) hT ?_
  clear hT
  unfold wB at h0
  obtain ⟨o0, hl0, h0⟩ := aV h0
  refine yK (fid := 117) (ys := []) (cs := [(.rp (eL aE uQ))]) #[12, 13] (fun (A : xQ) (b lL : Nat) (st : ((List aB)) ⊕ ((List aB))) (G' : Gs) => Sum.elim (fun (s : (List aB)) => G' = (lL, .raw (iZ b A .ready none)) :: (up [(lo1, 1, [(eL aD s)])] ++ [])) (fun (s : (List aB)) => G' = (lL, .raw (iZ b A .done (some .ret))) :: (up [(lo1, 1, [(eL aD s)])] ++ [])) st) (.inl t4) o0 (.tup []) (by kernel_rfl) (by kernel_rfl) (by kernel_rfl) hO (fun _ _ => rfl) ?_ ?_
  · intro b lL
    clear hO h0
    refine vD _ b (fun st t12 t13 => rnd (fun (s : (List aB)) => nX r3 uQ s t12 t13) st) ?_ uQ _ _ hl0
    intro st t12 t13 out1 rr hr
    obtain ⟨s, rfl, h1, rfl⟩ := MF hr
    clear hr
    intro Hr Gr hi hg
    obtain ⟨t4, rfl⟩ : ∃ x, x = s := ⟨_, rfl⟩
    dsimp only [Sum.elim_inl] at hi
    obtain rfl := hi
    replace h1 : nX r3 uQ t4 t12 t13 = some out1 := h1
    unfold nX at h1
    obtain ⟨E1, hE, hO⟩ := tB hg
    refine sW (yJ (hO.gm 0 _ rfl).2 (by kernel_rfl) (by kernel_rfl) ?_)
    refine cT [(3, (.rp (eL aK r3))), (4, (.lp lo1 0 0)), (11, (.fn (.func 117) [] [(.rp (eL aE uQ))])), (12, (eL aK t12)), (13, (eL aD t13))] ?_
    refine aY aG 1 [11, 12] [(5, (eL aK t12))] ?_
    refine aT aG 1 ?_
    refine bC ?_
    refine dD [(3, (.rp (eL aK r3))), (4, (.lp lo1 0 0)), (5, (eL aK t12)), (6, (eL aD t13))] ?_
    refine aI (⟨rfl, rfl, (hO.gm 0 _ rfl).2, ?_⟩)
    intro o1 ho1
    replace hO := hO.rS o1
    refine bP 1 ?_
    refine aQ ?_
    refine aT aG 3 ?_
    refine bM 2 ?_
    obtain ⟨x8, hx9, h1⟩ := aV h1
    refine cJ (EI t12 r3 _ hx9) hO ?_
    intro H hO
    refine cH ?_
    refine bS [3, 5] [(16, (aL x8))] ?_
    refine bL h1 (fun h1 => ?_) (fun h1 => ?_)
    · refine aQ ?_
      refine aT aG 2 ?_
      refine bM 1 ?_
      refine iW 0 lo1 1 0 (eL aD t4) (eL aD t13) [(eL aD t4)] [(lo1, 1, [(eL aD t13)])] hO rfl (by kernel_rfl) ?_
      intro H hO
      refine cH ?_
      refine bF [(4, (.lp lo1 0 0))] ?_
      refine bH ?_
      refine dD [(4, (.lp lo1 0 0))] ?_
      obtain rfl := oI h1
      exact aI (bR (⟨(dZ hO hE ho1 .dead).1, rfl, _, rfl, (dZ hO hE ho1 _).2⟩))
    refine bN ?_
    refine dD [(4, (.lp lo1 0 0))] ?_
    obtain rfl := oI h1
    exact aI (aU (⟨(dZ hO hE ho1 .dead).1, rfl, _, rfl, (dZ hO hE ho1 _).2⟩))
  · intro b lD12 lL H' G' hi hO
    rcases o0 with s | s
    · dsimp only [Sum.elim_inl] at hi
      obtain rfl := hi
      replace h0 : (some ([])) = some r := h0
      obtain ⟨hlL, hO⟩ := nL hO
      refine ⟨_, _, hlL, (by intro e; cases e), ?_⟩
      refine dD [(4, (.lp lo1 0 0))] ?_
      refine aI (aU (aH (?_)))
      refine aQ ?_
      refine aT aG 1 ?_
      refine iW 0 lo1 1 0 (eL aD s) (.sl true 0 (fun _ => .bad)) [(eL aD s)] [(lo1, 1, [(.sl true 0 (fun _ => .bad))])] hO rfl (by kernel_rfl) ?_
      intro H hO
      refine cH ?_
      refine AT 0 lo1 1 (.sl true 0 (fun _ => .bad)) (eL aD ([])) [(lo1, 1, [(eL aD ([]))])] hO (by kernel_rfl) (by kernel_rfl) fJ (by kernel_rfl) ?_
      intro H hO
      refine bF [(4, (.lp lo1 0 0))] ?_
      refine bH ?_
      obtain rfl := oI h0
      have hD := (hO.gm 0 _ rfl).2
      replace hO := (hO.rS .dead).rI
      exact aI (QM1 (.inr rfl) hD (rs := [.cell 4 57]) (xs := [(eL aD ([]))]) (x := (eL aD ([]))) (by kernel_rfl) (qY (lo := lo1) (k := 1) (y := (eL aD ([]))) (x := (eL aD ([]))) 0 hO (by kernel_rfl) (by kernel_rfl) (by kernel_rfl) (by kernel_rfl) nZ) (by kernel_rfl) ⟨rfl, hO.out⟩)
    · dsimp only [Sum.elim_inr] at hi
      obtain rfl := hi
      replace h0 : (some s) = some r := h0
      obtain ⟨hlL, hO⟩ := nL hO
      refine ⟨_, _, hlL, (by intro e; cases e), ?_⟩
      refine bH ?_
      obtain rfl := oI h0
      have hD := (hO.gm 0 _ rfl).2
      replace hO := (hO.rS .dead).rI
      exact aI (bR (bA (QM1 (.inr rfl) hD (rs := [.cell 4 57]) (xs := [(eL aD s)]) (x := (eL aD s)) (by kernel_rfl) (qY (lo := lo1) (k := 1) (y := (eL aD s)) (x := (eL aD s)) 0 hO (by kernel_rfl) (by kernel_rfl) (by kernel_rfl) (by kernel_rfl) nZ) (by kernel_rfl) ⟨rfl, hO.out⟩)))

theorem VD (f0 : (List aB)) (t1 : Int) (r : Int) (h0 : yD f0 t1 = some r) : bT Try.prog 35 [(eL aD f0), (eI t1)] (eI r) := by
  intro H0
  refine cI Try.func35 ?_
  have hO := aO.start H0
  unfold yD at h0
  refine aY aG 1 [] [] ?_
  refine aQ ?_
  refine aQ ?_
  refine aT aG 3 ?_
  refine bM 1 ?_
  obtain ⟨x1, hx2, h0⟩ := aV h0
  refine cJ (SS f0 _ hx2) hO ?_
  intro H hO
  refine bC ?_
  refine bS [] [(7, (aL (!x1)))] ?_
  refine bL h0 (fun h0 => ?_) (fun h0 => ?_)
  · refine bV aG 1 [(4, (eI (0 : Int)))] ?_
    refine bH ?_
    obtain rfl := oI h0
    exact aI (bA (Q_r hO))
  refine bN ?_
  refine bF [(0, (eL aD f0)), (1, (eI t1))] ?_
  refine aQ ?_
  refine aT aG 4 ?_
  refine bM 2 ?_
  obtain ⟨x5, hx6, h0⟩ := aV h0
  refine cJ (OH f0 t1 _ hx6) hO ?_
  intro H hO
  refine bC ?_
  refine bF [(4, (eI x5))] ?_
  refine bH ?_
  obtain rfl := oI h0
  exact aI (Q_r hO)

theorem HP (l0 : (List aM)) (t1 : Int) (r : Bool) (h0 : qM l0 t1 = some r) : bT Try.prog 7 [(eL aJ l0), (eI t1)] (aL r) := by
  intro H0
  refine cI Try.func7 ?_
  have hO := aO.start H0
  unfold qM at h0
  refine aY aG 1 [] [] ?_
  refine aQ ?_
  refine aY aG 11 [] [(21, (aL (((decide ((200 : Int) < (lN l0))) || (decide (t1 < (-1 : Int)))) || (decide ((1125899906842624 : Int) ≤ t1)))))] ?_
  refine bL h0 (fun h0 => ?_) (fun h0 => ?_)
  · refine aQ ?_
    refine aT aG 2 ?_
    obtain ⟨x2, hx3, h0⟩ := aV h0
    refine cJ (BL  _ hx3) hO ?_
    intro H hO
    refine bC ?_
    refine bF [(4, (aL x2))] ?_
    refine bH ?_
    obtain rfl := oI h0
    exact aI (bA (Q_r hO))
  refine bN ?_
  refine bF [(0, (eL aJ l0)), (1, (eI t1))] ?_
  refine aQ ?_
  refine aT aG 7 ?_
  refine bM 1 ?_
  obtain ⟨x5, hx6, h0⟩ := aV h0
  refine cJ (CG l0 _ hx6) hO ?_
  intro H hO
  refine bC ?_
  refine bS [] [(5, (eL aJ x5.1)), (6, (eI x5.2))] ?_
  refine aQ ?_
  refine aT aG 7 ?_
  refine bM 1 ?_
  obtain ⟨x8, hx9, h0⟩ := aV h0
  refine cJ (HC l0 _ hx9) hO ?_
  intro H hO
  refine bC ?_
  refine bS [] [(7, (eL aE x8.1)), (8, (eI x8.2))] ?_
  refine aQ ?_
  refine aY aG 6 [] [(38, (aL ((!decide (x5.2 = (0 : Int))) || (!decide (x8.2 = (0 : Int))))))] ?_
  refine bL h0 (fun h0 => ?_) (fun h0 => ?_)
  · refine aQ ?_
    refine aT aG 7 ?_
    obtain ⟨x12, hx13, h0⟩ := aV h0
    refine cJ (BL  _ hx13) hO ?_
    intro H hO
    refine bC ?_
    refine bF [(4, (aL (x12 && (decide (x5.2 = x8.2)))))] ?_
    refine bH ?_
    obtain rfl := oI h0
    exact aI (bA (Q_r hO))
  refine bN ?_
  refine bF [(0, (eL aJ l0)), (1, (eI t1)), (5, (eL aJ x5.1)), (7, (eL aE x8.1))] ?_
  refine dB (fun T H => Has T [] ∧ aO ⟨H0, [], []⟩ H [] ∧ nO  = some r) ?_ ?_
  · clear hO h0
    rintro T H ⟨hT, hO, h0⟩
    refine bB hT ?_
    clear hT
    unfold nO at h0
    refine aQ ?_
    refine aT aG 2 ?_
    obtain ⟨x15, hx16, h0⟩ := aV h0
    refine cJ (BL  _ hx16) hO ?_
    intro H hO
    refine bC ?_
    refine bF [(4, (aL x15))] ?_
    refine bH ?_
    obtain rfl := oI h0
    exact aI (Q_r hO)
  refine aY aG 1 [] [(9, (eI (0 : Int)))] ?_
  refine bP 0 ?_
  refine cT [(0, (eL aJ l0)), (1, (eI t1)), (5, (eL aJ x5.1)), (7, (eL aE x8.1)), (9, (eI (0 : Int)))] ?_
  refine cL (fun T H => ∃ a5 : (List aM), ∃ x7 : (List aC), ∃ i9 : Int, Has T [(0, (eL aJ l0)), (1, (eI t1)), (5, (eL aJ a5)), (7, (eL aE x7)), (9, (eI i9))] ∧ aO ⟨H0, [], []⟩ H [] ∧ qC l0 t1 a5 x7 i9 = some r) ?_ ⟨x5.1, x8.1, (0 : Int), .eq (by kernel_rfl), hO, h0⟩
  clear hO h0
  rintro T H ⟨a5, x7, i9, hT, hO, h0⟩
  refine bB hT ?_
  clear hT
  unfold qC at h0
  obtain ⟨rr0, hl0, h0⟩ := aV h0
  refine cB (by kernel_rfl) (fun (s : Int) T H => Has T [(0, (eL aJ l0)), (1, (eI t1)), (5, (eL aJ a5)), (7, (eL aE x7)), (9, (eI s))] ∧ aO ⟨H0, [], []⟩ H []) hl0 ⟨.eq (by kernel_rfl), hO⟩ ?_
  clear hO
  rintro k0 s out1 T H ⟨hT, hO⟩ h1 ho0
  obtain ⟨i9, rfl⟩ : ∃ x, x = s := ⟨_, rfl⟩
  replace h1 : jK l0 t1 a5 x7 i9 = some out1 := h1
  refine bB hT ?_
  clear hT
  unfold jK at h1
  refine aQ ?_
  refine aY aG 4 [] [(48, (aL (decide (i9 < (lN l0)))))] ?_
  refine bL h1 (fun h1 => ?_) (fun h1 => ?_)
  · refine bN ?_
    refine bF [(0, (eL aJ l0)), (1, (eI t1)), (5, (eL aJ a5)), (7, (eL aE x7)), (9, (eI i9))] ?_
    refine aQ ?_
    refine bP 1 ?_
    refine aQ ?_
    refine aT aG 9 ?_
    obtain ⟨c19, h1⟩ := bJ h1
    refine qG 7 [0 ≤ i9 ∧ i9 < (lN l0)] ⟨c19, trivial⟩ ?_
    obtain ⟨x20, hx21, h1⟩ := aV h1
    refine cJ (FH l0 ((gD l0 i9).Row) t1 _ hx21) hO ?_
    intro H hO
    refine bC ?_
    refine bS [] [(10, (eI x20))] ?_
    refine aQ ?_
    refine aT aG 23 ?_
    obtain ⟨c23, h1⟩ := bJ h1
    refine qG 7 [0 ≤ i9 ∧ i9 < (lN l0)] ⟨c23, trivial⟩ ?_
    obtain ⟨x24, hx25, h1⟩ := aV h1
    refine cJ (FH a5 ((gD l0 i9).Row) t1 _ hx25) hO ?_
    intro H hO
    obtain ⟨c27, h1⟩ := bJ h1
    refine qG 17 [(((!(!decide (x24 = x20)))) = true → 0 ≤ i9 ∧ i9 < (lN l0))] ⟨c27, trivial⟩ ?_
    obtain ⟨x28, hx29, h1⟩ := aV h1
    refine gQ [(69, false)] 36 [(eL aE x7), (eL aK ((gD l0 i9).Row))] (eL aD x28) (!(!decide (x24 = x20))) (by kernel_rfl) (by kernel_rfl) (by kernel_rfl) (fun hb30 => (RQ x7 ((gD l0 i9).Row) _ (jH hx29 hb30))) hO ?_
    intro H hO
    refine bM 19 ?_
    obtain ⟨x31, hx32, h1⟩ := aV h1
    refine gQ [(69, false)] 35 [(eL aD x28), (eI t1)] (eI x31) (!(!decide (x24 = x20))) (by kernel_rfl) (by kernel_rfl) (by kernel_rfl) (fun hb33 => (VD x28 t1 _ (jH hx32 hb33))) hO ?_
    intro H hO
    refine bC ?_
    refine bS [10] [(81, (aL ((!decide (x24 = x20)) || (!decide (x31 = x20)))))] ?_
    refine bL h1 (fun h1 => ?_) (fun h1 => ?_)
    · refine bV aG 1 [(4, (aL false))] ?_
      refine bH ?_
      obtain rfl := oI h1
      obtain rfl : _ = rr0 := ho0
      replace h0 : some false = some r := h0
      obtain rfl := oI h0
      exact aI (bR (bA (bA (bR (bA (Q_r hO))))))
    refine bN ?_
    refine dD [(0, (eL aJ l0)), (1, (eI t1)), (5, (eL aJ a5)), (7, (eL aE x7)), (9, (eI i9))] ?_
    refine aI (aU (aH (?_)))
    refine aT aG 3 ?_
    refine bC ?_
    exact aI (aH (⟨rfl, _, (oI h1).symm, .eq (by kernel_rfl), hO⟩))
  refine dU 0 ?_
  obtain rfl := oI h1
  obtain rfl : _ = rr0 := ho0
  replace h0 : nO  = some r := h0
  exact aI (aZ (aZ (bO (aH (⟨rfl, .eq (by kernel_rfl), hO, h0⟩)))))

end Go.Abs
namespace Go.Abs
open Go Go.RowKit Go.Proofs
theorem GI {H : Type} {enc : TypeId × Value → H} {w : World} : wG enc Try.prog w 79 aK BH :=
  BE Try.underlying79 (by kernel_rfl) (qI (c' := IG) (ok' := BH) (fun (a : Int) (b : Int × ByteArray × Unit) => (aF.mk a b.1 b.2.1 : aF)) (by kernel_rfl) (BV Try.underlying77) (qI (c' := fun (b : Int × ByteArray × Unit) => (V.cells (wT .i64 b.1) ++ (V.cells (yM b.2.1) ++ []))) (ok' := fun b => (CE b.1 ∧ ((fun s => s.size ≤ maxLen) b.2.1 ∧ True))) (fun a b => (a, b)) (by kernel_rfl) (BV Try.underlying3) (qI (c' := fun (b : ByteArray × Unit) => (V.cells (yM b.1) ++ [])) (ok' := fun b => ((fun s => s.size ≤ maxLen) b.1 ∧ True)) (fun a b => (a, b)) (by kernel_rfl) (SB Try.underlying9) (DS ()) (fun _ _ => rfl) (fun _ _ h1 h2 => ⟨h1, h2⟩)) (fun _ _ => rfl) (fun _ _ h1 h2 => ⟨h1, h2⟩)) (fun _ _ => rfl) (fun _ _ h1 h2 => ⟨h1, h2⟩))

theorem HN {H : Type} {enc : TypeId × Value → H} {w : World} : wG enc Try.prog w 30 bK zA :=
  BE Try.underlying30 (by kernel_rfl) (qI (c' := EB) (ok' := zA) (fun (a : Int) (b : Int × Unit) => (aS.mk a b.1 : aS)) (by kernel_rfl) (BV Try.underlying3) (qI (c' := fun (b : Int × Unit) => (V.cells (wT .i64 b.1) ++ [])) (ok' := fun b => (CE b.1 ∧ True)) (fun a b => (a, b)) (by kernel_rfl) (BV Try.underlying3) (DS ()) (fun _ _ => rfl) (fun _ _ h1 h2 => ⟨h1, h2⟩)) (fun _ _ => rfl) (fun _ _ h1 h2 => ⟨h1, h2⟩))

theorem FV {H : Type} {enc : TypeId × Value → H} {w : World} : wG enc Try.prog w 32 aJ tY :=
  BE Try.underlying32 (by kernel_rfl) (qI (c' := HS) (ok' := tY) (fun (a : (List aF)) (b : aS × Unit) => (aM.mk a b.1 : aM)) (by kernel_rfl) (SQ Try.underlying28 (by decide +kernel) (fun _ => by kernel_rfl) (fun _ => rfl) GI (by kernel_rfl)) (qI (c' := fun (b : aS × Unit) => (V.cells (bK b.1) ++ [])) (ok' := fun b => (zA b.1 ∧ True)) (fun a b => (a, b)) (by kernel_rfl) HN (DS ()) (fun _ _ => rfl) (fun _ _ h1 h2 => ⟨h1, h2⟩)) (fun _ _ => rfl) (fun _ _ h1 h2 => ⟨h1, h2⟩))

end Go.Abs
namespace Go.Abs
open Go
theorem fT {n : Int} (h1 : -9223372036854775808 ≤ n) (h2 : n ≤ 9223372036854775807) : IntKind.i64.wrap n = n := by
  simp only [IntKind.wrap, IntKind.bits, IntKind.signed]
  simp
  split <;> omega

def wA {α st R : Type} (step : st → α → Option (st ⊕ R)) (fin : st → R) : st → List α → Option R
  | s, [] => some (fin s)
  | s, a :: r => match step s a with
    | some (.inl s') => wA step fin s' r
    | some (.inr x) => some x
    | none => none

theorem VL {α st R : Type} {step : st → α → Option (st ⊕ R)} {fin : st → R} {s s' : st} {a : α} {r : List α} (h : step s a = some (.inl s')) : wA step fin s (a :: r) = wA step fin s' r := by
  simp only [wA, h]

theorem VX {α st R : Type} {step : st → α → Option (st ⊕ R)} {fin : st → R} {s : st} {x : R} {a : α} {r : List α} (h : step s a = some (.inr x)) : wA step fin s (a :: r) = some x := by
  simp only [wA, h]

theorem UN {α S st R : Type} {body : S → Option (S ⊕ R)} {l : List α} (mk : st → Int → S) (step : st → α → Option (st ⊕ R)) (fin : st → R)
    (hn : ∀ (i : Nat) a s, l[i]? = some a → (∀ s', step s a = some (.inl s') → body (mk s i) = some (.inl (mk s' ((i + 1 : Nat) : Int)))) ∧ (∀ x, step s a = some (.inr x) → body (mk s i) = some (.inr x)))
    (he : ∀ s, body (mk s (l.length : Nat)) = some (.inr (fin s))) : ∀ (m k : Nat) (s : st) (r : R), l.length - k = m → k ≤ l.length → wA step fin s (l.drop k) = some r → lp body (mk s k) = some r
  | 0, k, s, r, hm, hk, h => by
    have : k = l.length := by omega
    subst this
    rw [List.drop_length] at h
    simp only [wA, Option.some.injEq] at h
    subst h
    exact cO (he s)
  | m + 1, k, s, r, hm, hk, h => by
    have hlt : k < l.length := by omega
    have hd : l.drop k = l[k] :: l.drop (k + 1) := List.drop_eq_getElem_cons hlt
    rw [hd] at h
    simp only [wA] at h
    obtain ⟨h1, h2⟩ := hn k l[k] s (List.getElem?_eq_getElem hlt)
    split at h
    · rename_i s' hs
      rw [eG (h1 s' hs)]
      exact UN mk step fin hn he m (k + 1) s' r (by omega) (by omega) h
    · rename_i x hs
      simp at h; subst h
      exact cO (h2 x hs)
    · cases h

theorem ZY {α S st R : Type} {body : S → Option (S ⊕ R)} {l : List α} (mk : st → Int → S) (step : st → α → Option (st ⊕ R)) (fin : st → R)
    (hn : ∀ (i : Nat) a s, l[i]? = some a → (∀ s', step s a = some (.inl s') → body (mk s i) = some (.inl (mk s' ((i + 1 : Nat) : Int)))) ∧ (∀ x, step s a = some (.inr x) → body (mk s i) = some (.inr x)))
    (he : ∀ s, body (mk s (l.length : Nat)) = some (.inr (fin s))) {s : st} {r : R} (h : wA step fin s l = some r) : lp body (mk s 0) = some r :=
  UN mk step fin hn he _ 0 s r rfl (Nat.zero_le _) (by simpa using h)

theorem idx {α : Type} [Inhabited α] {l : List α} {i : Nat} {a : α} (h : l[i]? = some a) (hl : l.length < 4611686018427387904) :
    decide ((i : Int) < ((l.length : Nat) : Int)) = true ∧ (0 ≤ (i : Int) ∧ (i : Int) < ((l.length : Nat) : Int)) ∧ l.getD (Int.toNat (i : Int)) default = a ∧ IntKind.i64.wrap ((i : Int) + 1) = ((i + 1 : Nat) : Int) := by
  have hlt : i < l.length := (List.getElem?_eq_some_iff.1 h).1
  refine ⟨by simpa using hlt, ⟨by omega, by omega⟩, ?_, ?_⟩
  · rw [Int.toNat_natCast, List.getD_eq_getElem?_getD, h]; rfl
  · rw [fT (by omega) (by omega)]; omega

theorem jB {n : Nat} : decide (((n : Nat) : Int) < ((n : Nat) : Int)) = false := by simp

theorem aCl {α : Type} {j : α} {r : List α} : (0 : Int) ≤ 0 ∧ (0 : Int) < ((List.length (j :: r) : Nat) : Int) := ⟨by omega, by simp⟩

theorem aBP {α : Type} [Inhabited α] {j : α} {r : List α} : List.getD (j :: r) (Int.toNat (0 : Int)) default = j := rfl

end Go.Abs
namespace Go.Abs
open Go
theorem drop_cons {α : Type} {l r : List α} {a : α} {k : Nat} (h : l.drop k = a :: r) : l[k]? = some a ∧ l.drop (k + 1) = r := by
  have hk : k < l.length := by
    apply Classical.byContradiction; intro hn
    rw [List.drop_eq_nil_of_le (by omega)] at h; cases h
  rw [List.drop_eq_getElem_cons hk] at h
  obtain ⟨h1, h2⟩ := List.cons.inj h
  exact ⟨by rw [List.getElem?_eq_getElem hk, h1], h2⟩

theorem YO {α S st R : Type} {body : S → Option (S ⊕ R)} {l : List α} (mk : st → Int → S) (G : st → List α → R) (Inv : st → List α → Prop)
    (hn : ∀ (i : Nat) a r s, l[i]? = some a → Inv s (a :: r) → (∃ s', body (mk s i) = some (.inl (mk s' ((i + 1 : Nat) : Int))) ∧ Inv s' r ∧ G s' r = G s (a :: r)) ∨ body (mk s i) = some (.inr (G s (a :: r))))
    (he : ∀ s, Inv s [] → body (mk s (l.length : Nat)) = some (.inr (G s []))) : ∀ (r : List α) (k : Nat) (s : st), l.drop k = r → k ≤ l.length → Inv s r → lp body (mk s k) = some (G s r)
  | [], k, s, hd, hk, hi => by
    have : k = l.length := by
      have := congrArg List.length hd
      simp only [List.length_drop, List.length_nil] at this; omega
    subst this
    exact cO (he s hi)
  | a :: r, k, s, hd, hk, hi => by
    obtain ⟨h1, h2⟩ := drop_cons hd
    have hlt : k < l.length := (List.getElem?_eq_some_iff.1 h1).1
    rcases hn k a r s h1 hi with ⟨s', hb, hi', hg⟩ | hb
    · rw [eG hb, YO mk G Inv hn he r (k + 1) s' h2 (by omega) hi', hg]
    · exact cO hb

theorem uU {α S st R : Type} {body : S → Option (S ⊕ R)} {l : List α} (mk : st → Int → S) (G : st → List α → R) (Inv : st → List α → Prop) (s : st)
    (hn : ∀ (i : Nat) a r s, l[i]? = some a → Inv s (a :: r) → (∃ s', body (mk s i) = some (.inl (mk s' ((i + 1 : Nat) : Int))) ∧ Inv s' r ∧ G s' r = G s (a :: r)) ∨ body (mk s i) = some (.inr (G s (a :: r))))
    (he : ∀ s, Inv s [] → body (mk s (l.length : Nat)) = some (.inr (G s []))) (hi : Inv s l) : lp body (mk s 0) = some (G s l) :=
  YO mk G Inv hn he l 0 s rfl (Nat.zero_le _) hi

theorem aBz {α S R : Type} {body : S → Option (S ⊕ R)} {l : List α} (mk : Int → S) (bad : α → Bool) (x y : R)
    (hn : ∀ (i : Nat) a, l[i]? = some a → body (mk i) = some (if bad a then .inr x else .inl (mk ((i + 1 : Nat) : Int))))
    (he : body (mk (l.length : Nat)) = some (.inr y)) : lp body (mk 0) = some (if l.any bad then x else y) := by
  refine uU (st := Unit) (fun _ i => mk i) (fun _ r => if r.any bad then x else y) (fun _ _ => True) () ?_ ?_ trivial
  · intro i a r s ha _
    have hb := hn i a ha
    cases h : bad a
    · left; refine ⟨(), ?_, trivial, ?_⟩
      · simpa [h] using hb
      · simp [List.any_cons, h]
    · right; simpa [h, List.any_cons] using hb
  · intro _ _; simpa using he

end Go.Abs
namespace Go.Abs
open Go
noncomputable def zM {α : Type} [Inhabited α] (cmp3 : α → α → Option Int) (aA : List α) (a1 : Int) (b2 : Int) (i8 : Int) : Option ((List α × Int) ⊕ ((List α))) :=
  some (.inl (aA, IntKind.i64.wrap (i8 + (1 : Int))))

noncomputable def lS {α : Type} [Inhabited α] (cmp3 : α → α → Option Int) (a1 : Int) (b2 : Int) (i8 : Int) (aA : List α) (j9 : Int) : Option ((List α × Int) ⊕ ((List α))) :=
  bI ((((decide (a1 < j9))) = true → 0 ≤ j9 ∧ j9 < ((List.length aA : Nat) : Int))) <|
  bI ((((decide (a1 < j9))) = true → 0 ≤ (IntKind.i64.wrap (j9 - (1 : Int))) ∧ (IntKind.i64.wrap (j9 - (1 : Int))) < ((List.length aA : Nat) : Int))) <|
  (cV (decide (a1 < j9)) (cmp3 (List.getD aA (Int.toNat j9) default) (List.getD aA (Int.toNat (IntKind.i64.wrap (j9 - (1 : Int)))) default))).bind fun x3 =>
  cond ((decide (a1 < j9)) && (decide (x3 < (0 : Int))))
  (bI (0 ≤ (IntKind.i64.wrap (j9 - (1 : Int))) ∧ (IntKind.i64.wrap (j9 - (1 : Int))) < ((List.length aA : Nat) : Int)) <|
  bI (0 ≤ j9 ∧ j9 < ((List.length aA : Nat) : Int)) <|
  bI (0 ≤ j9 ∧ j9 < ((List.length aA : Nat) : Int)) <|
  bI (0 ≤ (IntKind.i64.wrap (j9 - (1 : Int))) ∧ (IntKind.i64.wrap (j9 - (1 : Int))) < ((List.length aA : Nat) : Int)) <|
  some (.inl (List.set (List.set aA (Int.toNat j9) (List.getD aA (Int.toNat (IntKind.i64.wrap (j9 - (1 : Int)))) default)) (Int.toNat (IntKind.i64.wrap (j9 - (1 : Int)))) (List.getD aA (Int.toNat j9) default), IntKind.i64.wrap (j9 - (1 : Int)))))
  (some (.inr aA))

noncomputable def zN {α : Type} [Inhabited α] (cmp3 : α → α → Option Int) (aA : List α) (a1 : Int) (b2 : Int) (i8 : Int) (j9 : Int) : Option ((List α × Int) ⊕ ((List α))) :=
  (lp (fun s => lS cmp3 a1 b2 i8 s.1 s.2) (aA, j9)).bind (fun rr => zM cmp3 rr a1 b2 i8)

noncomputable def jL {α : Type} [Inhabited α] (cmp3 : α → α → Option Int) (a1 : Int) (b2 : Int) (aA : List α) (i8 : Int) : Option ((List α × Int) ⊕ ((List α))) :=
  cond (decide (i8 < b2))
  (zN cmp3 aA a1 b2 i8 i8)
  (some (.inr aA))

noncomputable def zE {α : Type} [Inhabited α] (cmp3 : α → α → Option Int) (aA : List α) (a1 : Int) (b2 : Int) (i8 : Int) : Option (List α) :=
  (lp (fun s => jL cmp3 a1 b2 s.1 s.2) (aA, i8)).bind (fun rr => some rr)

noncomputable def mZ {α : Type} [Inhabited α] (aA : (List α)) (a1 : Int) (b2 : Int) (cmp3 : α → α → Option Int) : Option (List α) :=
  zE cmp3 aA a1 b2 (IntKind.i64.wrap (a1 + (1 : Int)))

noncomputable def oX {α : Type} [Inhabited α] (cmp4 : α → α → Option Int) (a1 : Int) (b2 : Int) (n3 : Int) (aA : List α) (i10 : Int) : Option ((List α × Int) ⊕ ((List α))) :=
  cond (decide (i10 < n3))
  (bI (0 ≤ (IntKind.i64.wrap (b2 + i10)) ∧ (IntKind.i64.wrap (b2 + i10)) < ((List.length aA : Nat) : Int)) <|
  bI (0 ≤ (IntKind.i64.wrap (a1 + i10)) ∧ (IntKind.i64.wrap (a1 + i10)) < ((List.length aA : Nat) : Int)) <|
  bI (0 ≤ (IntKind.i64.wrap (a1 + i10)) ∧ (IntKind.i64.wrap (a1 + i10)) < ((List.length aA : Nat) : Int)) <|
  bI (0 ≤ (IntKind.i64.wrap (b2 + i10)) ∧ (IntKind.i64.wrap (b2 + i10)) < ((List.length aA : Nat) : Int)) <|
  some (.inl (List.set (List.set aA (Int.toNat (IntKind.i64.wrap (a1 + i10))) (List.getD aA (Int.toNat (IntKind.i64.wrap (b2 + i10))) default)) (Int.toNat (IntKind.i64.wrap (b2 + i10))) (List.getD aA (Int.toNat (IntKind.i64.wrap (a1 + i10))) default), IntKind.i64.wrap (i10 + (1 : Int)))))
  (some (.inr aA))

noncomputable def CX {α : Type} [Inhabited α] (cmp4 : α → α → Option Int) (aA : List α) (a1 : Int) (b2 : Int) (n3 : Int) (i10 : Int) : Option (List α) :=
  (lp (fun s => oX cmp4 a1 b2 n3 s.1 s.2) (aA, i10)).bind (fun rr => some rr)

noncomputable def tS {α : Type} [Inhabited α] (aA : (List α)) (a1 : Int) (b2 : Int) (n3 : Int) (cmp4 : α → α → Option Int) : Option (List α) :=
  CX cmp4 aA a1 b2 n3 (0 : Int)

noncomputable def CN {α : Type} [Inhabited α] (cmp4 : α → α → Option Int) (aA : List α) (m2 : Int) (i10 : Int) : Option (List α) :=
  (tS aA (IntKind.i64.wrap (m2 - i10)) m2 i10 cmp4).bind fun x1 =>
  some x1

noncomputable def mC {α : Type} [Inhabited α] (cmp4 : α → α → Option Int) (m2 : Int) (aA : List α) (i10 : Int) (j11 : Int) : Option ((List α × Int × Int) ⊕ ((List α × Int))) :=
  cond (!decide (i10 = j11))
  (cond (decide (j11 < i10))
  ((tS aA (IntKind.i64.wrap (m2 - i10)) m2 j11 cmp4).bind fun x4 =>
  some (.inl (x4, IntKind.i64.wrap (i10 - j11), j11)))
  ((tS aA (IntKind.i64.wrap (m2 - i10)) (IntKind.i64.wrap ((IntKind.i64.wrap (m2 + j11)) - i10)) i10 cmp4).bind fun x7 =>
  some (.inl (x7, i10, IntKind.i64.wrap (j11 - i10)))))
  (some (.inr (aA, i10)))

noncomputable def IE {α : Type} [Inhabited α] (cmp4 : α → α → Option Int) (aA : List α) (m2 : Int) (i10 : Int) (j11 : Int) : Option (List α) :=
  (lp (fun s => mC cmp4 m2 s.1 s.2.1 s.2.2) (aA, i10, j11)).bind (fun rr => CN cmp4 rr.1 m2 rr.2)

noncomputable def BM {α : Type} [Inhabited α] (aA : (List α)) (a1 : Int) (m2 : Int) (b3 : Int) (cmp4 : α → α → Option Int) : Option (List α) :=
  IE cmp4 aA m2 (IntKind.i64.wrap (m2 - a1)) (IntKind.i64.wrap (b3 - m2))

noncomputable def zO {α : Type} [Inhabited α] (cmp4 : α → α → Option Int) (rec : (List α) → Int → Int → Int → Option (List α)) (aA : List α) (b3 : Int) (bQ : Int) (dS : Int) : Option (List α) :=
  cond ((decide (bQ < dS)) && (decide (dS < b3)))
  ((rec aA bQ dS b3).bind fun x2 =>
  some x2)
  (some aA)

noncomputable def pP {α : Type} [Inhabited α] (cmp4 : α → α → Option Int) (rec : (List α) → Int → Int → Int → Option (List α)) (aA : List α) (a1 : Int) (b3 : Int) (bQ : Int) (aR : Int) (dS : Int) : Option (List α) :=
  cond ((decide (a1 < aR)) && (decide (aR < bQ)))
  ((rec aA a1 aR bQ).bind fun x6 =>
  zO cmp4 rec x6 b3 bQ dS)
  (zO cmp4 rec aA b3 bQ dS)

noncomputable def FC {α : Type} [Inhabited α] (cmp4 : α → α → Option Int) (rec : (List α) → Int → Int → Int → Option (List α)) (aA : List α) (a1 : Int) (m2 : Int) (b3 : Int) (bQ : Int) (n19 : Int) (aR : Int) : Option (List α) :=
  cond ((decide (aR < m2)) && (decide (m2 < (IntKind.i64.wrap (n19 - aR)))))
  ((BM aA aR m2 (IntKind.i64.wrap (n19 - aR)) cmp4).bind fun x10 =>
  pP cmp4 rec x10 a1 b3 bQ aR (IntKind.i64.wrap (n19 - aR)))
  (pP cmp4 rec aA a1 b3 bQ aR (IntKind.i64.wrap (n19 - aR)))

noncomputable def nV {α : Type} [Inhabited α] (cmp4 : α → α → Option Int) (rec : (List α) → Int → Int → Int → Option (List α)) (a1 : Int) (m2 : Int) (b3 : Int) (bQ : Int) (n19 : Int) (p22 : Int) (aA : List α) (aR : Int) (r21 : Int) : Option ((List α × Int × Int) ⊕ ((List α × Int))) :=
  cond (decide (aR < r21))
  (bI (0 ≤ (1 : Int)) <|
  bI (0 ≤ (IntKind.i64.wrap (p22 - (IntKind.i64.wrap (Int.fdiv (IntKind.u64.wrap (IntKind.i64.wrap (aR + r21))) (2 ^ (min (Int.toNat (1 : Int)) 64)))))) ∧ (IntKind.i64.wrap (p22 - (IntKind.i64.wrap (Int.fdiv (IntKind.u64.wrap (IntKind.i64.wrap (aR + r21))) (2 ^ (min (Int.toNat (1 : Int)) 64)))))) < ((List.length aA : Nat) : Int)) <|
  bI (0 ≤ (IntKind.i64.wrap (Int.fdiv (IntKind.u64.wrap (IntKind.i64.wrap (aR + r21))) (2 ^ (min (Int.toNat (1 : Int)) 64)))) ∧ (IntKind.i64.wrap (Int.fdiv (IntKind.u64.wrap (IntKind.i64.wrap (aR + r21))) (2 ^ (min (Int.toNat (1 : Int)) 64)))) < ((List.length aA : Nat) : Int)) <|
  (cmp4 (List.getD aA (Int.toNat (IntKind.i64.wrap (p22 - (IntKind.i64.wrap (Int.fdiv (IntKind.u64.wrap (IntKind.i64.wrap (aR + r21))) (2 ^ (min (Int.toNat (1 : Int)) 64))))))) default) (List.getD aA (Int.toNat (IntKind.i64.wrap (Int.fdiv (IntKind.u64.wrap (IntKind.i64.wrap (aR + r21))) (2 ^ (min (Int.toNat (1 : Int)) 64))))) default)).bind fun x17 =>
  cond (!(decide (x17 < (0 : Int))))
  (some (.inl (aA, IntKind.i64.wrap ((IntKind.i64.wrap (Int.fdiv (IntKind.u64.wrap (IntKind.i64.wrap (aR + r21))) (2 ^ (min (Int.toNat (1 : Int)) 64)))) + (1 : Int)), r21)))
  (some (.inl (aA, aR, IntKind.i64.wrap (Int.fdiv (IntKind.u64.wrap (IntKind.i64.wrap (aR + r21))) (2 ^ (min (Int.toNat (1 : Int)) 64)))))))
  (some (.inr (aA, aR)))

noncomputable def FF {α : Type} [Inhabited α] (cmp4 : α → α → Option Int) (rec : (List α) → Int → Int → Int → Option (List α)) (aA : List α) (a1 : Int) (m2 : Int) (b3 : Int) (bQ : Int) (n19 : Int) (aR : Int) (r21 : Int) (p22 : Int) : Option (List α) :=
  (lp (fun s => nV cmp4 rec a1 m2 b3 bQ n19 p22 s.1 s.2.1 s.2.2) (aA, aR, r21)).bind (fun rr => FC cmp4 rec rr.1 a1 m2 b3 bQ n19 rr.2)

noncomputable def wO {α : Type} [Inhabited α] (cmp4 : α → α → Option Int) (rec : (List α) → Int → Int → Int → Option (List α)) (aA : List α) (a1 : Int) (m2 : Int) (b3 : Int) (bQ : Int) (n19 : Int) (aR : Int) (r21 : Int) : Option (List α) :=
  FF cmp4 rec aA a1 m2 b3 bQ n19 aR r21 (IntKind.i64.wrap (n19 - (1 : Int)))

noncomputable def wE {α : Type} [Inhabited α] (cmp4 : α → α → Option Int) (rec : (List α) → Int → Int → Int → Option (List α)) (aA : List α) (a1 : Int) (m2 : Int) (b3 : Int) : Option (List α) :=
  bI (0 ≤ (1 : Int)) <|
  cond (decide ((IntKind.i64.wrap (Int.fdiv (IntKind.u64.wrap (IntKind.i64.wrap (a1 + b3))) (2 ^ (min (Int.toNat (1 : Int)) 64)))) < m2))
  (wO cmp4 rec aA a1 m2 b3 (IntKind.i64.wrap (Int.fdiv (IntKind.u64.wrap (IntKind.i64.wrap (a1 + b3))) (2 ^ (min (Int.toNat (1 : Int)) 64)))) (IntKind.i64.wrap ((IntKind.i64.wrap (Int.fdiv (IntKind.u64.wrap (IntKind.i64.wrap (a1 + b3))) (2 ^ (min (Int.toNat (1 : Int)) 64)))) + m2)) (IntKind.i64.wrap ((IntKind.i64.wrap ((IntKind.i64.wrap (Int.fdiv (IntKind.u64.wrap (IntKind.i64.wrap (a1 + b3))) (2 ^ (min (Int.toNat (1 : Int)) 64)))) + m2)) - b3)) (IntKind.i64.wrap (Int.fdiv (IntKind.u64.wrap (IntKind.i64.wrap (a1 + b3))) (2 ^ (min (Int.toNat (1 : Int)) 64)))))
  (wO cmp4 rec aA a1 m2 b3 (IntKind.i64.wrap (Int.fdiv (IntKind.u64.wrap (IntKind.i64.wrap (a1 + b3))) (2 ^ (min (Int.toNat (1 : Int)) 64)))) (IntKind.i64.wrap ((IntKind.i64.wrap (Int.fdiv (IntKind.u64.wrap (IntKind.i64.wrap (a1 + b3))) (2 ^ (min (Int.toNat (1 : Int)) 64)))) + m2)) a1 m2)

noncomputable def FE {α : Type} [Inhabited α] (cmp4 : α → α → Option Int) (rec : (List α) → Int → Int → Int → Option (List α)) (aA : List α) : Option (List α) :=
  some aA

noncomputable def nH {α : Type} [Inhabited α] (cmp4 : α → α → Option Int) (rec : (List α) → Int → Int → Int → Option (List α)) (i14 : Int) (aA : List α) (k17 : Int) : Option ((List α × Int) ⊕ ((List α))) :=
  cond (decide (i14 < k17))
  (bI (0 ≤ (IntKind.i64.wrap (k17 - (1 : Int))) ∧ (IntKind.i64.wrap (k17 - (1 : Int))) < ((List.length aA : Nat) : Int)) <|
  bI (0 ≤ k17 ∧ k17 < ((List.length aA : Nat) : Int)) <|
  bI (0 ≤ k17 ∧ k17 < ((List.length aA : Nat) : Int)) <|
  bI (0 ≤ (IntKind.i64.wrap (k17 - (1 : Int))) ∧ (IntKind.i64.wrap (k17 - (1 : Int))) < ((List.length aA : Nat) : Int)) <|
  some (.inl (List.set (List.set aA (Int.toNat k17) (List.getD aA (Int.toNat (IntKind.i64.wrap (k17 - (1 : Int)))) default)) (Int.toNat (IntKind.i64.wrap (k17 - (1 : Int)))) (List.getD aA (Int.toNat k17) default), IntKind.i64.wrap (k17 - (1 : Int)))))
  (some (.inr aA))

noncomputable def CU {α : Type} [Inhabited α] (cmp4 : α → α → Option Int) (rec : (List α) → Int → Int → Int → Option (List α)) (aA : List α) (i14 : Int) (k17 : Int) : Option (List α) :=
  (lp (fun s => nH cmp4 rec i14 s.1 s.2) (aA, k17)).bind (fun rr => FE cmp4 rec rr)

noncomputable def EZ {α : Type} [Inhabited α] (cmp4 : α → α → Option Int) (rec : (List α) → Int → Int → Int → Option (List α)) (aA : List α) (m2 : Int) (i14 : Int) : Option (List α) :=
  CU cmp4 rec aA i14 m2

noncomputable def nD {α : Type} [Inhabited α] (cmp4 : α → α → Option Int) (rec : (List α) → Int → Int → Int → Option (List α)) (m2 : Int) (aA : List α) (i14 : Int) (j15 : Int) : Option ((List α × Int × Int) ⊕ ((List α × Int))) :=
  cond (decide (i14 < j15))
  (bI (0 ≤ (1 : Int)) <|
  bI (0 ≤ m2 ∧ m2 < ((List.length aA : Nat) : Int)) <|
  bI (0 ≤ (IntKind.i64.wrap (Int.fdiv (IntKind.u64.wrap (IntKind.i64.wrap (i14 + j15))) (2 ^ (min (Int.toNat (1 : Int)) 64)))) ∧ (IntKind.i64.wrap (Int.fdiv (IntKind.u64.wrap (IntKind.i64.wrap (i14 + j15))) (2 ^ (min (Int.toNat (1 : Int)) 64)))) < ((List.length aA : Nat) : Int)) <|
  (cmp4 (List.getD aA (Int.toNat m2) default) (List.getD aA (Int.toNat (IntKind.i64.wrap (Int.fdiv (IntKind.u64.wrap (IntKind.i64.wrap (i14 + j15))) (2 ^ (min (Int.toNat (1 : Int)) 64))))) default)).bind fun x31 =>
  cond (!(decide (x31 < (0 : Int))))
  (some (.inl (aA, IntKind.i64.wrap ((IntKind.i64.wrap (Int.fdiv (IntKind.u64.wrap (IntKind.i64.wrap (i14 + j15))) (2 ^ (min (Int.toNat (1 : Int)) 64)))) + (1 : Int)), j15)))
  (some (.inl (aA, i14, IntKind.i64.wrap (Int.fdiv (IntKind.u64.wrap (IntKind.i64.wrap (i14 + j15))) (2 ^ (min (Int.toNat (1 : Int)) 64)))))))
  (some (.inr (aA, i14)))

noncomputable def DA {α : Type} [Inhabited α] (cmp4 : α → α → Option Int) (rec : (List α) → Int → Int → Int → Option (List α)) (aA : List α) (m2 : Int) (i14 : Int) (j15 : Int) : Option (List α) :=
  (lp (fun s => nD cmp4 rec m2 s.1 s.2.1 s.2.2) (aA, i14, j15)).bind (fun rr => EZ cmp4 rec rr.1 m2 rr.2)

noncomputable def zS {α : Type} [Inhabited α] (cmp4 : α → α → Option Int) (rec : (List α) → Int → Int → Int → Option (List α)) (aA : List α) (a1 : Int) (m2 : Int) (b3 : Int) : Option (List α) :=
  cond (decide ((IntKind.i64.wrap (b3 - m2)) = (1 : Int)))
  (DA cmp4 rec aA m2 a1 m2)
  (wE cmp4 rec aA a1 m2 b3)

noncomputable def DG {α : Type} [Inhabited α] (cmp4 : α → α → Option Int) (rec : (List α) → Int → Int → Int → Option (List α)) (aA : List α) : Option (List α) :=
  some aA

noncomputable def nG {α : Type} [Inhabited α] (cmp4 : α → α → Option Int) (rec : (List α) → Int → Int → Int → Option (List α)) (i10 : Int) (aA : List α) (k13 : Int) : Option ((List α × Int) ⊕ ((List α))) :=
  cond (decide (k13 < (IntKind.i64.wrap (i10 - (1 : Int)))))
  (bI (0 ≤ (IntKind.i64.wrap (k13 + (1 : Int))) ∧ (IntKind.i64.wrap (k13 + (1 : Int))) < ((List.length aA : Nat) : Int)) <|
  bI (0 ≤ k13 ∧ k13 < ((List.length aA : Nat) : Int)) <|
  bI (0 ≤ k13 ∧ k13 < ((List.length aA : Nat) : Int)) <|
  bI (0 ≤ (IntKind.i64.wrap (k13 + (1 : Int))) ∧ (IntKind.i64.wrap (k13 + (1 : Int))) < ((List.length aA : Nat) : Int)) <|
  some (.inl (List.set (List.set aA (Int.toNat k13) (List.getD aA (Int.toNat (IntKind.i64.wrap (k13 + (1 : Int)))) default)) (Int.toNat (IntKind.i64.wrap (k13 + (1 : Int)))) (List.getD aA (Int.toNat k13) default), IntKind.i64.wrap (k13 + (1 : Int)))))
  (some (.inr aA))

noncomputable def CS {α : Type} [Inhabited α] (cmp4 : α → α → Option Int) (rec : (List α) → Int → Int → Int → Option (List α)) (aA : List α) (i10 : Int) (k13 : Int) : Option (List α) :=
  (lp (fun s => nG cmp4 rec i10 s.1 s.2) (aA, k13)).bind (fun rr => DG cmp4 rec rr)

noncomputable def CT {α : Type} [Inhabited α] (cmp4 : α → α → Option Int) (rec : (List α) → Int → Int → Int → Option (List α)) (aA : List α) (a1 : Int) (i10 : Int) : Option (List α) :=
  CS cmp4 rec aA i10 a1

noncomputable def nF {α : Type} [Inhabited α] (cmp4 : α → α → Option Int) (rec : (List α) → Int → Int → Int → Option (List α)) (a1 : Int) (aA : List α) (i10 : Int) (j11 : Int) : Option ((List α × Int × Int) ⊕ ((List α × Int))) :=
  cond (decide (i10 < j11))
  (bI (0 ≤ (1 : Int)) <|
  bI (0 ≤ (IntKind.i64.wrap (Int.fdiv (IntKind.u64.wrap (IntKind.i64.wrap (i10 + j11))) (2 ^ (min (Int.toNat (1 : Int)) 64)))) ∧ (IntKind.i64.wrap (Int.fdiv (IntKind.u64.wrap (IntKind.i64.wrap (i10 + j11))) (2 ^ (min (Int.toNat (1 : Int)) 64)))) < ((List.length aA : Nat) : Int)) <|
  bI (0 ≤ a1 ∧ a1 < ((List.length aA : Nat) : Int)) <|
  (cmp4 (List.getD aA (Int.toNat (IntKind.i64.wrap (Int.fdiv (IntKind.u64.wrap (IntKind.i64.wrap (i10 + j11))) (2 ^ (min (Int.toNat (1 : Int)) 64))))) default) (List.getD aA (Int.toNat a1) default)).bind fun x45 =>
  cond (decide (x45 < (0 : Int)))
  (some (.inl (aA, IntKind.i64.wrap ((IntKind.i64.wrap (Int.fdiv (IntKind.u64.wrap (IntKind.i64.wrap (i10 + j11))) (2 ^ (min (Int.toNat (1 : Int)) 64)))) + (1 : Int)), j11)))
  (some (.inl (aA, i10, IntKind.i64.wrap (Int.fdiv (IntKind.u64.wrap (IntKind.i64.wrap (i10 + j11))) (2 ^ (min (Int.toNat (1 : Int)) 64)))))))
  (some (.inr (aA, i10)))

noncomputable def DF {α : Type} [Inhabited α] (cmp4 : α → α → Option Int) (rec : (List α) → Int → Int → Int → Option (List α)) (aA : List α) (a1 : Int) (i10 : Int) (j11 : Int) : Option (List α) :=
  (lp (fun s => nF cmp4 rec a1 s.1 s.2.1 s.2.2) (aA, i10, j11)).bind (fun rr => CT cmp4 rec rr.1 a1 rr.2)

noncomputable def dV {α : Type} [Inhabited α] (cmp4 : α → α → Option Int) (rec : (List α) → Int → Int → Int → Option (List α)) (aA : (List α)) (a1 : Int) (m2 : Int) (b3 : Int) : Option (List α) :=
  cond (decide ((IntKind.i64.wrap (m2 - a1)) = (1 : Int)))
  (DF cmp4 rec aA a1 m2 b3)
  (zS cmp4 rec aA a1 m2 b3)

noncomputable def dX {α : Type} [Inhabited α] (cmp4 : α → α → Option Int) : Nat → (List α) → Int → Int → Int → Option (List α)
  | 0 => fun _ _ _ _ => none
  | k + 1 => dV cmp4 (dX cmp4 k)

noncomputable def oR {α : Type} [Inhabited α] (aA : (List α)) (a1 : Int) (m2 : Int) (b3 : Int) (cmp4 : α → α → Option Int) : Option (List α) := IK (fun k => dX cmp4 k aA a1 m2 b3)

noncomputable def zD {α : Type} [Inhabited α] (cmp2 : α → α → Option Int) (aA : List α) (n1 : Int) (aP : Int) : Option ((List α × Int) ⊕ ((List α))) :=
  some (.inl (aA, IntKind.i64.wrap (aP * (2 : Int))))

noncomputable def vJ {α : Type} [Inhabited α] (cmp2 : α → α → Option Int) (aA : List α) (n1 : Int) (aP : Int) (a7 : Int) : Option ((List α × Int) ⊕ ((List α))) :=
  cond (decide ((IntKind.i64.wrap (a7 + aP)) < n1))
  ((oR aA a7 (IntKind.i64.wrap (a7 + aP)) n1 cmp2).bind fun x4 =>
  zD cmp2 x4 n1 aP)
  (zD cmp2 aA n1 aP)

noncomputable def mB {α : Type} [Inhabited α] (cmp2 : α → α → Option Int) (n1 : Int) (aP : Int) (aA : List α) (a7 : Int) (b8 : Int) : Option ((List α × Int × Int) ⊕ ((List α × Int))) :=
  cond (decide (b8 ≤ n1))
  ((oR aA a7 (IntKind.i64.wrap (a7 + aP)) b8 cmp2).bind fun x8 =>
  some (.inl (x8, b8, IntKind.i64.wrap (b8 + (IntKind.i64.wrap ((2 : Int) * aP))))))
  (some (.inr (aA, a7)))

noncomputable def vM {α : Type} [Inhabited α] (cmp2 : α → α → Option Int) (aA : List α) (n1 : Int) (aP : Int) (a7 : Int) (b8 : Int) : Option ((List α × Int) ⊕ ((List α))) :=
  (lp (fun s => mB cmp2 n1 aP s.1 s.2.1 s.2.2) (aA, a7, b8)).bind (fun rr => vJ cmp2 rr.1 n1 aP rr.2)

noncomputable def jM {α : Type} [Inhabited α] (cmp2 : α → α → Option Int) (n1 : Int) (aA : List α) (aP : Int) : Option ((List α × Int) ⊕ ((List α))) :=
  cond (decide (aP < n1))
  (vM cmp2 aA n1 aP (0 : Int) (IntKind.i64.wrap ((2 : Int) * aP)))
  (some (.inr aA))

noncomputable def yQ {α : Type} [Inhabited α] (cmp2 : α → α → Option Int) (aA : List α) (n1 : Int) (aP : Int) : Option (List α) :=
  (lp (fun s => jM cmp2 n1 s.1 s.2) (aA, aP)).bind (fun rr => some rr)

noncomputable def zC {α : Type} [Inhabited α] (cmp2 : α → α → Option Int) (aA : List α) (n1 : Int) (aP : Int) (a7 : Int) : Option (List α) :=
  (mZ aA a7 n1 cmp2).bind fun x1 =>
  yQ cmp2 x1 n1 aP

noncomputable def mD {α : Type} [Inhabited α] (cmp2 : α → α → Option Int) (n1 : Int) (aP : Int) (aA : List α) (a7 : Int) (b8 : Int) : Option ((List α × Int × Int) ⊕ ((List α × Int))) :=
  cond (decide (b8 ≤ n1))
  ((mZ aA a7 b8 cmp2).bind fun x13 =>
  some (.inl (x13, b8, IntKind.i64.wrap (b8 + aP))))
  (some (.inr (aA, a7)))

noncomputable def yV {α : Type} [Inhabited α] (cmp2 : α → α → Option Int) (aA : List α) (n1 : Int) (aP : Int) (a7 : Int) (b8 : Int) : Option (List α) :=
  (lp (fun s => mD cmp2 n1 aP s.1 s.2.1 s.2.2) (aA, a7, b8)).bind (fun rr => zC cmp2 rr.1 n1 aP rr.2)

noncomputable def wZ {α : Type} [Inhabited α] (aA : (List α)) (n1 : Int) (cmp2 : α → α → Option Int) : Option (List α) :=
  yV cmp2 aA n1 (20 : Int) (0 : Int) (20 : Int)

end Go.Abs
namespace Go.Abs
open Go
variable {α : Type} [Inhabited α]
structure Cmp {β : Type} (ok : β → Prop) (le : β → β → Prop) (cmp : β → β → Option Int) : Prop where
  ans : ∀ x y, ok x → ok y → ∃ v, cmp x y = some v ∧ (v < 0 ↔ ¬ le y x)
  trans : ∀ x y z, ok x → ok y → ok z → le x y → le y z → le x z
  total : ∀ x y, ok x → ok y → le x y ∨ le y x

abbrev Srt {β : Type} (le : β → β → Prop) (l : List β) : Prop := l.Pairwise le

abbrev Oks {β : Type} (ok : β → Prop) (l : List β) : Prop := ∀ x ∈ l, ok x

theorem aAB {Q R : List α} {x : α} : (Q ++ x :: R).getD Q.length default = x := by simp [List.getD_eq_getElem?_getD]

theorem aBk {β : Type} {Q R : List β} {x y : β} : (Q ++ x :: R).set Q.length y = Q ++ y :: R := by simp

theorem pM {Q R d : List α} {x : α} {n : Nat} (hd : d = Q ++ x :: R) (hn : n = Q.length) : d.getD n default = x := by subst hd; subst hn; exact aAB

theorem DI {β : Type} {Q R d : List β} {x y : β} {n : Nat} (hd : d = Q ++ x :: R) (hn : n = Q.length) : d.set n y = Q ++ y :: R := by subst hd; subst hn; exact aBk

theorem wr {n : Int} (h1 : -1099511627776 ≤ n) (h2 : n ≤ 8796093022208) : IntKind.i64.wrap n = n := fT (by omega) (by omega)

theorem QO {β : Type} {Q M R d : List β} {x y : β} {a b : Nat} (hd : d = Q ++ x :: (M ++ y :: R)) (ha : a = Q.length) (hb : b = Q.length + 1 + M.length) : (d.set a y).set b x = Q ++ y :: (M ++ x :: R) := by
  rw [DI hd ha, DI (Q := Q ++ y :: M) (x := y) (R := R) (by simp) (by simp; omega)]
  simp

section ins
variable {ok : α → Prop} {le : α → α → Prop} {cmp : α → α → Option Int}
theorem FI {A T : List α} {x : α} {a b i : Int} {P : List α} (ha : a = (P.length : Nat)) (hl : (P ++ A ++ x :: T).length ≤ 1099511627776)
    (hs : A = [] ∨ ∃ A' y v, A = A' ++ [y] ∧ cmp x y = some v ∧ ¬ v < 0) : lS cmp a b i (P ++ A ++ x :: T) ((P.length + A.length : Nat) : Int) = some (.inr (P ++ A ++ x :: T)) := by
  simp only [List.length_append, List.length_cons] at hl
  unfold lS
  rcases hs with rfl | ⟨A', y, v, rfl, hc, hv⟩
  · have h : decide (a < ((P.length + ([] : List α).length : Nat) : Int)) = false := by subst ha; simp
    rw [h, bD (fun h => by cases h), bD (fun h => by cases h)]
    simp [cV]
  · simp only [List.length_append, List.length_cons, List.length_nil] at hl ⊢
    have h : decide (a < ((P.length + (A'.length + (0 + 1)) : Nat) : Int)) = true := by subst ha; simp; omega
    have hw : IntKind.i64.wrap (((P.length + (A'.length + (0 + 1)) : Nat) : Int) - 1) = ((P.length + A'.length : Nat) : Int) := by rw [wr (by omega) (by omega)]; omega
    have g1 : (P ++ (A' ++ [y]) ++ x :: T).getD (P.length + (A'.length + (0 + 1))) default = x := pM (Q := P ++ (A' ++ [y])) rfl (by simp)
    have g2 : (P ++ (A' ++ [y]) ++ x :: T).getD (P.length + A'.length) default = y := pM (Q := P ++ A') (R := x :: T) (by simp) (by simp)
    rw [h, hw, bD (fun _ => ⟨by omega, by omega⟩), bD (fun _ => ⟨by omega, by omega⟩)]
    rw [Int.toNat_natCast, Int.toNat_natCast, g1, g2]
    simp [cV, hc, hv]

theorem SU {A T : List α} {x y : α} {v : Int} {a b i : Int} {P : List α} (ha : a = (P.length : Nat)) (hl : (P ++ (A ++ [y]) ++ x :: T).length ≤ 1099511627776)
    (hc : cmp x y = some v) (hv : v < 0) : lS cmp a b i (P ++ (A ++ [y]) ++ x :: T) ((P.length + (A ++ [y]).length : Nat) : Int) = some (.inl (P ++ A ++ x :: (y :: T), ((P.length + A.length : Nat) : Int))) := by
  simp only [List.length_append, List.length_cons, List.length_nil] at hl ⊢
  unfold lS
  have h : decide (a < ((P.length + (A.length + (0 + 1)) : Nat) : Int)) = true := by subst ha; simp; omega
  have hw : IntKind.i64.wrap (((P.length + (A.length + (0 + 1)) : Nat) : Int) - 1) = ((P.length + A.length : Nat) : Int) := by rw [wr (by omega) (by omega)]; omega
  have g1 : (P ++ (A ++ [y]) ++ x :: T).getD (P.length + (A.length + (0 + 1))) default = x := pM (Q := P ++ (A ++ [y])) rfl (by simp)
  have g2 : (P ++ (A ++ [y]) ++ x :: T).getD (P.length + A.length) default = y := pM (Q := P ++ A) (R := x :: T) (by simp) (by simp)
  have hs : ((P ++ (A ++ [y]) ++ x :: T).set (P.length + (A.length + (0 + 1))) y).set (P.length + A.length) x = P ++ A ++ x :: (y :: T) := by
    rw [DI (Q := P ++ (A ++ [y])) (x := x) (R := T) rfl (by simp), DI (Q := P ++ A) (x := y) (R := y :: T) (by simp) (by simp)]
  have b1 : 0 ≤ ((P.length + (A.length + (0 + 1)) : Nat) : Int) ∧ ((P.length + (A.length + (0 + 1)) : Nat) : Int) < ((List.length (P ++ (A ++ [y]) ++ x :: T) : Nat) : Int) := ⟨by omega, by simp only [List.length_append, List.length_cons, List.length_nil]; omega⟩
  have b2 : 0 ≤ ((P.length + A.length : Nat) : Int) ∧ ((P.length + A.length : Nat) : Int) < ((List.length (P ++ (A ++ [y]) ++ x :: T) : Nat) : Int) := ⟨by omega, by simp only [List.length_append, List.length_cons, List.length_nil]; omega⟩
  rw [h, hw, bD (fun _ => b1), bD (fun _ => b2), Int.toNat_natCast, Int.toNat_natCast, g1, g2]
  simp only [cV, cond_true, hc, Option.bind_some, Bool.true_and, decide_eq_true hv]
  rw [bD b2, bD b1, bD b1, bD b2, hs]

theorem ZD (C : Cmp ok le cmp) {x : α} (hx : ok x) {a b i : Int} {P : List α} (ha : a = (P.length : Nat)) : ∀ (n : Nat) (A B T : List α), A.length = n → Oks ok A → Oks ok B → Srt le (A ++ B) → (∀ y ∈ B, ¬ le y x) → (P ++ A ++ x :: (B ++ T)).length ≤ 1099511627776 →
    ∃ D, D.Perm (A ++ x :: B) ∧ Srt le D ∧ lp (fun s : List α × Int => lS cmp a b i s.1 s.2) (P ++ A ++ x :: (B ++ T), ((P.length + A.length : Nat) : Int)) = some (P ++ D ++ T) := by
  intro n
  induction n with
  | zero =>
    intro A B T hn _ hB hs hlt hl
    have hA : A = [] := List.length_eq_zero_iff.1 hn
    subst hA
    refine ⟨x :: B, List.Perm.refl _, ?_, ?_⟩
    · refine List.pairwise_cons.2 ⟨fun y hy => ?_, by simpa using hs⟩
      rcases C.total x y hx (hB y hy) with h | h
      · exact h
      · exact absurd h (hlt y hy)
    · rw [cO (FI ha hl (Or.inl rfl))]; simp
  | succ n ih =>
    intro A B T hn hA hB hs hlt hl
    obtain ⟨A', y, rfl⟩ : ∃ A' y, A = A' ++ [y] := by
      rcases List.eq_nil_or_concat A with h | ⟨A', y, h⟩
      · rw [h] at hn; simp at hn
      · exact ⟨A', y, by simpa using h⟩
    have hy : ok y := hA y (by simp)
    obtain ⟨v, hc, hv⟩ := C.ans x y hx hy
    by_cases hneg : v < 0
    · have hb := SU (i := i) (b := b) ha hl hc hneg
      have hl' : (P ++ A' ++ x :: ((y :: B) ++ T)).length ≤ 1099511627776 := by
        simp only [List.length_append, List.length_cons, List.length_nil] at hl ⊢; omega
      obtain ⟨D, d1, d2, d3⟩ := ih A' (y :: B) T (by simpa using hn) (fun z hz => hA z (by simp [hz])) (fun z hz => by rcases List.mem_cons.1 hz with rfl | hz; exact hy; exact hB z hz) (by simpa using hs)
        (fun z hz => by rcases List.mem_cons.1 hz with rfl | hz; exact hv.1 hneg; exact hlt z hz) hl'
      refine ⟨D, d1.trans ?_, d2, ?_⟩
      · simp only [List.append_assoc, List.singleton_append]
        exact List.Perm.append_left _ (List.Perm.swap ..)
      · rw [eG hb]; simpa using d3
    · refine ⟨A' ++ [y] ++ x :: B, List.Perm.refl _, ?_, ?_⟩
      · have hyx : le y x := Classical.byContradiction fun h => hneg (hv.2 h)
        simp only [Srt, List.pairwise_append] at hs ⊢
        obtain ⟨s1, s2, s3⟩ := hs
        refine ⟨s1, List.pairwise_cons.2 ⟨fun z hz => ?_, s2⟩, ?_⟩
        · rcases C.total x z hx (hB z hz) with h | h
          · exact h
          · exact absurd h (hlt z hz)
        · intro z hz w hw
          rcases List.mem_cons.1 hw with rfl | hw
          · rcases List.mem_append.1 hz with hz' | hz'
            · exact C.trans z y w (hA z hz) hy hx (s1.2.2 z hz' y (by simp)) hyx
            · rw [List.mem_singleton] at hz'; subst hz'; exact hyx
          · exact s3 z hz w hw
      · rw [cO (FI ha hl (Or.inr ⟨A', y, v, rfl, hc, hneg⟩))]
        simp

theorem NV (C : Cmp ok le cmp) {a b : Int} {P : List α} (ha : a = (P.length : Nat)) : ∀ (B A T : List α), Oks ok A → Oks ok B → Srt le A → b = ((P.length + A.length + B.length : Nat) : Int) → (P ++ A ++ (B ++ T)).length ≤ 1099511627776 →
    ∃ D, D.Perm (A ++ B) ∧ Srt le D ∧ lp (fun s : List α × Int => jL cmp a b s.1 s.2) (P ++ A ++ (B ++ T), ((P.length + A.length : Nat) : Int)) = some (P ++ D ++ T)
  | [], A, T, _, _, hs, hb, _ => by
    refine ⟨A, by simp, hs, cO ?_⟩
    have : decide (((P.length + A.length : Nat) : Int) < b) = false := by subst hb; simp
    simp only [jL, this, cond_false, List.nil_append]
  | x :: B, A, T, hA, hB, hs, hb, hl => by
    obtain ⟨D, d1, d2, d3⟩ := ZD C (hB x (by simp)) (b := b) (i := ((P.length + A.length : Nat) : Int)) ha A.length A [] (B ++ T) rfl hA (by intro z hz; simp at hz) (by simpa using hs) (by simp) (by simpa using hl)
    have hD : D.length = A.length + 1 := by rw [d1.length_eq]; simp
    have hlt : decide (((P.length + A.length : Nat) : Int) < b) = true := by subst hb; simp; omega
    have hbod : (fun s : List α × Int => jL cmp a b s.1 s.2) (P ++ A ++ (x :: B ++ T), ((P.length + A.length : Nat) : Int)) = some (.inl (P ++ D ++ (B ++ T), ((P.length + D.length : Nat) : Int))) := by
      show jL cmp a b _ _ = _
      simp only [jL, hlt, cond_true, zN]
      rw [show P ++ A ++ (x :: B ++ T) = P ++ A ++ x :: ([] ++ (B ++ T)) by simp, d3]
      simp only [Option.bind_some, zM]
      rw [wr (by omega) (by simp only [List.length_append, List.length_cons] at hl; omega), hD]
      congr 1
    have hl' : (P ++ D ++ (B ++ T)).length ≤ 1099511627776 := by simp only [List.length_append, List.length_cons] at hl ⊢; omega
    obtain ⟨E, e1, e2, e3⟩ := NV C (b := b) ha B D T (fun z hz => by
      have := d1.mem_iff.1 hz
      rcases List.mem_append.1 this with h | h
      · exact hA z h
      · rw [List.mem_singleton] at h; subst h; exact hB z (by simp)) (fun z hz => hB z (by simp [hz])) d2 (by rw [hb]; simp only [List.length_cons]; congr 1; omega) hl'
    refine ⟨E, e1.trans ?_, e2, by rw [eG hbod]; exact e3⟩
    have := d1.append_right B
    simpa using this

theorem YT (C : Cmp ok le cmp) {P A T : List α} {a b : Int} (ha : a = (P.length : Nat)) (hb : b = ((P.length + A.length : Nat) : Int)) (hA : Oks ok A) (hl : (P ++ A ++ T).length ≤ 1099511627776) :
    ∃ D, D.Perm A ∧ Srt le D ∧ mZ (P ++ A ++ T) a b cmp = some (P ++ D ++ T) := by
  unfold mZ zE
  simp only [List.length_append] at hl
  cases A with
  | nil =>
    refine ⟨[], List.Perm.refl _, List.Pairwise.nil, ?_⟩
    rw [cO (r := P ++ [] ++ T)]
    · rfl
    · have : decide (IntKind.i64.wrap (a + 1) < b) = false := by
        rw [wr (by omega) (by omega)]; subst ha; subst hb; simp; omega
      simp only [jL, this, cond_false]
  | cons x A =>
    simp only [List.length_cons] at hl
    have hw : IntKind.i64.wrap (a + 1) = ((P.length + [x].length : Nat) : Int) := by rw [wr (by omega) (by omega)]; subst ha; simp
    obtain ⟨D, d1, d2, d3⟩ := NV C (b := b) ha A [x] T (fun z hz => by rw [List.mem_singleton] at hz; subst hz; exact hA z (by simp)) (fun z hz => hA z (by simp [hz])) (by simp) (by rw [hb]; simp only [List.length_cons, List.length_nil]; congr 1; omega) (by simp only [List.length_append, List.length_cons, List.length_nil]; omega)
    refine ⟨D, by simpa using d1, d2, ?_⟩
    rw [hw, show P ++ x :: A ++ T = P ++ [x] ++ (A ++ T) by simp, d3]
    rfl

end ins
theorem GF {cmp : α → α → Option Int} {a b n : Int} : ∀ (X Y Q Z R : List α) (i : Nat), X.length = Y.length → a + i = (Q.length : Nat) → b + i = ((Q.length + X.length + Z.length : Nat) : Int) → n = ((i + X.length : Nat) : Int) → 0 ≤ a → 0 ≤ b → (Q ++ X ++ Z ++ Y ++ R).length ≤ 1099511627776 →
    lp (fun s : List α × Int => oX cmp a b n s.1 s.2) (Q ++ X ++ Z ++ Y ++ R, ((i : Nat) : Int)) = some (Q ++ Y ++ Z ++ X ++ R)
  | [], Y, Q, Z, R, i, hxy, ha, hb, hn, _, _, hl => by
    have : Y = [] := List.length_eq_zero_iff.1 hxy.symm
    subst this
    refine cO ?_
    have : decide (((i : Nat) : Int) < n) = false := by subst hn; simp
    simp only [oX, this, cond_false]
  | x :: X, [], Q, Z, R, i, hxy, _, _, _, _, _, _ => by simp at hxy
  | x :: X, y :: Y, Q, Z, R, i, hxy, ha, hb, hn, ha0, hb0, hl => by
    simp only [List.length_append, List.length_cons] at hl hb hn hxy
    have hlt : decide (((i : Nat) : Int) < n) = true := by subst hn; simp; omega
    have wa : IntKind.i64.wrap (a + i) = ((Q.length : Nat) : Int) := by rw [wr (by omega) (by omega)]; exact ha
    have wb : IntKind.i64.wrap (b + i) = ((Q.length + 1 + (X ++ Z).length : Nat) : Int) := by rw [wr (by omega) (by omega), hb]; simp only [List.length_append]; congr 1; omega
    have wi : IntKind.i64.wrap (((i : Nat) : Int) + 1) = ((i + 1 : Nat) : Int) := by rw [wr (by omega) (by omega)]; omega
    have hd : Q ++ x :: X ++ Z ++ y :: Y ++ R = Q ++ x :: ((X ++ Z) ++ y :: (Y ++ R)) := by simp
    have b1 : 0 ≤ ((Q.length : Nat) : Int) ∧ ((Q.length : Nat) : Int) < ((List.length (Q ++ x :: X ++ Z ++ y :: Y ++ R) : Nat) : Int) := ⟨by omega, by simp only [List.length_append, List.length_cons]; omega⟩
    have b2 : 0 ≤ ((Q.length + 1 + (X ++ Z).length : Nat) : Int) ∧ ((Q.length + 1 + (X ++ Z).length : Nat) : Int) < ((List.length (Q ++ x :: X ++ Z ++ y :: Y ++ R) : Nat) : Int) := ⟨by omega, by simp only [List.length_append, List.length_cons]; omega⟩
    have g1 : (Q ++ x :: X ++ Z ++ y :: Y ++ R).getD Q.length default = x := pM hd rfl
    have g2 : (Q ++ x :: X ++ Z ++ y :: Y ++ R).getD (Q.length + 1 + (X ++ Z).length) default = y := pM (Q := Q ++ x :: X ++ Z) (R := Y ++ R) (by simp) (by simp; omega)
    have hbod : (fun s : List α × Int => oX cmp a b n s.1 s.2) (Q ++ x :: X ++ Z ++ y :: Y ++ R, ((i : Nat) : Int)) = some (.inl ((Q ++ [y]) ++ X ++ (Z ++ [x]) ++ Y ++ R, ((i + 1 : Nat) : Int))) := by
      show oX cmp a b n _ _ = _
      simp only [oX, hlt, cond_true, wa, wb, wi, bD b1, bD b2, Int.toNat_natCast, g1, g2]
      rw [QO hd rfl rfl]
      simp
    rw [eG hbod, GF X Y (Q ++ [y]) (Z ++ [x]) R (i + 1) (by omega) (by simp; omega) (by simp; omega) (by rw [hn]; congr 1; omega) ha0 hb0 (by simp only [List.length_append, List.length_cons, List.length_nil]; omega)]
    simp

theorem LP {cmp : α → α → Option Int} {a b n : Int} {X Y Q Z R d : List α} (hd : d = Q ++ X ++ Z ++ Y ++ R) (hxy : X.length = Y.length) (ha : a = (Q.length : Nat)) (hb : b = ((Q.length + X.length + Z.length : Nat) : Int)) (hn : n = (X.length : Nat)) (hl : d.length ≤ 1099511627776) :
    tS d a b n cmp = some (Q ++ Y ++ Z ++ X ++ R) := by
  subst hd
  unfold tS CX
  have := GF (cmp := cmp) (a := a) (b := b) (n := n) X Y Q Z R 0 hxy (by omega) (by omega) (by omega) (by omega) (by omega) hl
  simp only [Int.natCast_zero] at this
  rw [this]; rfl

theorem YB {cmp : α → α → Option Int} {m : Int} : ∀ (n : Nat) (X Y Q R : List α), X.length + Y.length ≤ n → X ≠ [] → Y ≠ [] → m = ((Q.length + X.length : Nat) : Int) → (Q ++ X ++ Y ++ R).length ≤ 1099511627776 →
    (lp (fun s : List α × Int × Int => mC cmp m s.1 s.2.1 s.2.2) (Q ++ X ++ Y ++ R, ((X.length : Nat) : Int), ((Y.length : Nat) : Int))).bind (fun rr => CN cmp rr.1 m rr.2) = some (Q ++ Y ++ X ++ R) := by
  intro n
  induction n with
  | zero => intro X Y Q R hn hX; exact absurd (List.length_eq_zero_iff.1 (by omega)) hX
  | succ n ih =>
    intro X Y Q R hn hX hY hm hl
    have hX' : 0 < X.length := List.length_pos_iff.2 hX
    have hY' : 0 < Y.length := List.length_pos_iff.2 hY
    simp only [List.length_append] at hl
    rcases Nat.lt_trichotomy X.length Y.length with h | h | h
    · -- the second is longer
      obtain ⟨Y1, Y2, rfl, hY2⟩ : ∃ Y1 Y2, Y = Y1 ++ Y2 ∧ Y2.length = X.length := ⟨Y.take (Y.length - X.length), Y.drop (Y.length - X.length), (List.take_append_drop _ _).symm, by rw [List.length_drop]; omega⟩
      simp only [List.length_append] at hn hl h
      have hne : decide (((X.length : Nat) : Int) = (((Y1 ++ Y2).length : Nat) : Int)) = false := by simp only [List.length_append]; simp; omega
      have hlt : decide ((((Y1 ++ Y2).length : Nat) : Int) < ((X.length : Nat) : Int)) = false := by simp only [List.length_append]; simp; omega
      have e1 : IntKind.i64.wrap (m - ((X.length : Nat) : Int)) = ((Q.length : Nat) : Int) := by rw [wr (by omega) (by omega)]; omega
      have e0 : IntKind.i64.wrap (m + (((Y1 ++ Y2).length : Nat) : Int)) = m + (((Y1 ++ Y2).length : Nat) : Int) := by simp only [List.length_append]; exact wr (by omega) (by omega)
      have e2 : IntKind.i64.wrap (m + (((Y1 ++ Y2).length : Nat) : Int) - ((X.length : Nat) : Int)) = ((Q.length + X.length + Y1.length : Nat) : Int) := by simp only [List.length_append]; rw [wr (by omega) (by omega)]; omega
      have e3 : IntKind.i64.wrap ((((Y1 ++ Y2).length : Nat) : Int) - ((X.length : Nat) : Int)) = ((Y1.length : Nat) : Int) := by simp only [List.length_append]; rw [wr (by omega) (by omega)]; omega
      have hbod : (fun s : List α × Int × Int => mC cmp m s.1 s.2.1 s.2.2) (Q ++ X ++ (Y1 ++ Y2) ++ R, ((X.length : Nat) : Int), (((Y1 ++ Y2).length : Nat) : Int)) = some (.inl (Q ++ Y2 ++ Y1 ++ (X ++ R), ((Y2.length : Nat) : Int), ((Y1.length : Nat) : Int))) := by
        show mC cmp m _ _ _ = _
        simp only [mC, hne, Bool.not_false, cond_true, hlt, cond_false, e0, e1, e2, e3]
        rw [LP (X := X) (Y := Y2) (Q := Q) (Z := Y1) (R := R) (by simp) hY2.symm rfl rfl rfl (by simp only [List.length_append]; omega)]
        simp [hY2]
      rw [eG hbod, ih Y2 Y1 Q (X ++ R) (by omega) (fun h => by rw [h] at hY2; simp at hY2; omega) (fun h' => by rw [h'] at h; simp at h; omega) (by rw [hm]; congr 1; omega) (by simp only [List.length_append]; omega)]
      simp
    · -- alike
      have hne : decide (((X.length : Nat) : Int) = ((Y.length : Nat) : Int)) = true := by simp; omega
      rw [cO (r := (Q ++ X ++ Y ++ R, ((X.length : Nat) : Int))) (by show mC cmp m _ _ _ = _; simp only [mC, hne, Bool.not_true, cond_false])]
      simp only [Option.bind_some, CN]
      have e1 : IntKind.i64.wrap (m - ((X.length : Nat) : Int)) = ((Q.length : Nat) : Int) := by rw [wr (by omega) (by omega)]; omega
      rw [e1, LP (X := X) (Y := Y) (Q := Q) (Z := []) (R := R) (by simp) h rfl (by rw [hm]; simp) rfl (by simp only [List.length_append]; omega)]
      simp
    · -- the first is longer
      obtain ⟨X1, X2, rfl, hX1⟩ : ∃ X1 X2, X = X1 ++ X2 ∧ X1.length = Y.length := ⟨X.take Y.length, X.drop Y.length, (List.take_append_drop _ _).symm, by rw [List.length_take]; omega⟩
      simp only [List.length_append] at hn hl h hm
      have hne : decide ((((X1 ++ X2).length : Nat) : Int) = ((Y.length : Nat) : Int)) = false := by simp only [List.length_append]; simp; omega
      have hlt : decide (((Y.length : Nat) : Int) < (((X1 ++ X2).length : Nat) : Int)) = true := by simp only [List.length_append]; simp; omega
      have e1 : IntKind.i64.wrap (m - (((X1 ++ X2).length : Nat) : Int)) = ((Q.length : Nat) : Int) := by simp only [List.length_append]; rw [wr (by omega) (by omega)]; omega
      have e3 : IntKind.i64.wrap ((((X1 ++ X2).length : Nat) : Int) - ((Y.length : Nat) : Int)) = ((X2.length : Nat) : Int) := by simp only [List.length_append]; rw [wr (by omega) (by omega)]; omega
      have hbod : (fun s : List α × Int × Int => mC cmp m s.1 s.2.1 s.2.2) (Q ++ (X1 ++ X2) ++ Y ++ R, (((X1 ++ X2).length : Nat) : Int), ((Y.length : Nat) : Int)) = some (.inl ((Q ++ Y) ++ X2 ++ X1 ++ R, ((X2.length : Nat) : Int), ((X1.length : Nat) : Int))) := by
        show mC cmp m _ _ _ = _
        simp only [mC, hne, Bool.not_false, cond_true, hlt, e1, e3]
        rw [LP (X := X1) (Y := Y) (Q := Q) (Z := X2) (R := R) (by simp) hX1 rfl (by rw [hm]; congr 1; omega) (by rw [hX1]) (by simp only [List.length_append]; omega)]
        simp [hX1]
      rw [eG hbod, ih X2 X1 (Q ++ Y) R (by omega) (fun h' => by rw [h'] at h; simp at h; omega) (fun h => by rw [h] at hX1; simp at hX1; omega) (by rw [hm]; simp only [List.length_append]; congr 1; omega) (by simp only [List.length_append]; omega)]
      simp

theorem aBx {cmp : α → α → Option Int} {a m b : Int} {X Y Q R d : List α} (hd : d = Q ++ X ++ Y ++ R) (hX : X ≠ []) (hY : Y ≠ []) (ha : a = (Q.length : Nat)) (hm : m = ((Q.length + X.length : Nat) : Int)) (hb : b = ((Q.length + X.length + Y.length : Nat) : Int)) (hl : d.length ≤ 1099511627776) :
    BM d a m b cmp = some (Q ++ Y ++ X ++ R) := by
  subst hd
  unfold BM IE
  have hl' := hl
  simp only [List.length_append] at hl'
  rw [show IntKind.i64.wrap (m - a) = ((X.length : Nat) : Int) by rw [wr (by omega) (by omega)]; omega, show IntKind.i64.wrap (b - m) = ((Y.length : Nat) : Int) by rw [wr (by omega) (by omega)]; omega]
  exact YB _ X Y Q R (Nat.le_refl _) hX hY hm hl

end Go.Abs
namespace Go.Abs
open Go
variable {α : Type} [Inhabited α]
theorem half {s : Nat} (h : s ≤ 4398046511104) : IntKind.i64.wrap (Int.fdiv (IntKind.u64.wrap (IntKind.i64.wrap (s : Int))) (2 ^ (min (Int.toNat (1 : Int)) 64))) = ((s / 2 : Nat) : Int) := by
  rw [wr (n := (s : Int)) (by omega) (by omega)]
  have hu : IntKind.u64.wrap (s : Int) = (s : Int) := by
    simp only [IntKind.wrap, IntKind.bits, IntKind.signed]
    simp
    omega
  have hp : (2 : Int) ^ (min (Int.toNat (1 : Int)) 64) = 2 := by decide
  rw [hu, hp, Int.fdiv_eq_ediv_of_nonneg _ (by omega), wr (by omega) (by omega)]
  omega

theorem DQ {P B S d : List α} {n k : Nat} (hd : d = P ++ B ++ S) (hn : n = P.length + k) (hk : k < B.length) : d.getD n default = B.getD k default := by
  subst hd; subst hn
  simp only [List.getD_eq_getElem?_getD]
  rw [List.append_assoc, List.getElem?_append_right (by omega), List.getElem?_append_left (by omega)]
  congr 2; omega

theorem DZ {l : List α} {t : Nat} {y : α} (h : y ∈ l.take t) : ∃ i, i < t ∧ i < l.length ∧ y = l.getD i default := by
  obtain ⟨i, hi, rfl⟩ := List.mem_iff_getElem.1 h
  rw [List.length_take] at hi
  refine ⟨i, by omega, by omega, ?_⟩
  rw [List.getElem_take, List.getD_eq_getElem?_getD, List.getElem?_eq_getElem (by omega)]; rfl

theorem tR {l : List α} {t : Nat} {y : α} (h : y ∈ l.drop t) : ∃ i, t ≤ i ∧ i < l.length ∧ y = l.getD i default := by
  obtain ⟨i, hi, rfl⟩ := List.mem_iff_getElem.1 h
  rw [List.length_drop] at hi
  refine ⟨t + i, by omega, by omega, ?_⟩
  rw [List.getElem_drop, List.getD_eq_getElem?_getD, List.getElem?_eq_getElem (by omega)]; rfl

theorem dF {l : List α} {i : Nat} (h : i < l.length) : l.getD i default ∈ l := by
  rw [List.getD_eq_getElem?_getD, List.getElem?_eq_getElem h]; exact List.getElem_mem h

section sym
variable {ok : α → Prop} {le : α → α → Prop} {cmp : α → α → Option Int}
theorem Cmp.refl {β : Type} {ok : β → Prop} {le : β → β → Prop} {cmp : β → β → Option Int} (C : Cmp ok le cmp) {x : β} (h : ok x) : le x x := by rcases C.total x x h h with h | h <;> exact h

theorem sQ (C : Cmp ok le cmp) {l : List α} (ho : Oks ok l) (hs : Srt le l) {i j : Nat} (hij : i ≤ j) (hj : j < l.length) : le (l.getD i default) (l.getD j default) := by
  rcases Nat.lt_or_eq_of_le hij with h | h
  · have := List.pairwise_iff_getElem.1 hs i j (by omega) hj h
    simpa [List.getD_eq_getElem?_getD, List.getElem?_eq_getElem hj, List.getElem?_eq_getElem (show i < l.length by omega)] using this
  · subst h; exact C.refl (ho _ (dF hj))

theorem QH {β : Type} {le : β → β → Prop} {l : List β} (h : Srt le l) (t : Nat) : Srt le (l.take t) := List.Pairwise.sublist (List.take_sublist t l) h

theorem RB {β : Type} {le : β → β → Prop} {l : List β} (h : Srt le l) (t : Nat) : Srt le (l.drop t) := List.Pairwise.sublist (List.drop_sublist t l) h

theorem PF {β : Type} {body : (List β × Int × Int) → Option ((List β × Int × Int) ⊕ (List β × Int))} {d : List β} {f : Nat → Prop} {lo hi : Nat}
    (hb : ∀ i j : Nat, lo ≤ i → i < j → j ≤ hi → ∃ t : Bool, (t = true ↔ f ((i + j) / 2)) ∧ body (d, (i : Int), (j : Int)) = some (.inl (if t then (d, (((i + j) / 2 + 1 : Nat) : Int), (j : Int)) else (d, (i : Int), (((i + j) / 2 : Nat) : Int)))))
    (he : ∀ i : Nat, body (d, (i : Int), (i : Int)) = some (.inr (d, (i : Int)))) :
    ∀ (n i j : Nat), j - i ≤ n → lo ≤ i → i ≤ j → j ≤ hi → (i = lo ∨ f (i - 1)) → (j = hi ∨ ¬ f j) → ∃ s, lo ≤ s ∧ s ≤ hi ∧ (s = lo ∨ f (s - 1)) ∧ (s = hi ∨ ¬ f s) ∧ lp body (d, (i : Int), (j : Int)) = some (d, ((s : Nat) : Int)) := by
  intro n
  induction n with
  | zero =>
    intro i j hn h1 h2 h3 h4 h5
    have : i = j := by omega
    subst this
    exact ⟨i, h1, h3, h4, h5, cO (he i)⟩
  | succ n ih =>
    intro i j hn h1 h2 h3 h4 h5
    by_cases hij : i = j
    · subst hij; exact ⟨i, h1, h3, h4, h5, cO (he i)⟩
    · obtain ⟨t, ht, hbt⟩ := hb i j h1 (by omega) h3
      cases t
      · obtain ⟨s, r1, r2, r3, r4, r5⟩ := ih i ((i + j) / 2) (by omega) h1 (by omega) (by omega) h4 (Or.inr (fun h => by have := ht.2 h; cases this))
        refine ⟨s, r1, r2, r3, r4, ?_⟩
        rw [eG hbt]; exact r5
      · obtain ⟨s, r1, r2, r3, r4, r5⟩ := ih ((i + j) / 2 + 1) j (by omega) (by omega) (by omega) h3 (Or.inr (by simpa using ht.1 rfl)) h5
        refine ⟨s, r1, r2, r3, r4, ?_⟩
        rw [eG hbt]; exact r5

def KZ (le : α → α → Prop) (P A B S r : List α) : Prop := ∃ D, D.Perm (A ++ B) ∧ Srt le D ∧ r = P ++ D ++ S

theorem aAH {cmp : α → α → Option Int} {rec : List α → Int → Int → Int → Option (List α)} {e : Int} {x : α} : ∀ (B Q R : List α) (k : Nat), k = Q.length → e = ((Q.length + B.length + 1 : Nat) : Int) → (Q ++ x :: B ++ R).length ≤ 1099511627776 →
    lp (fun s : List α × Int => nG cmp rec e s.1 s.2) (Q ++ x :: B ++ R, (k : Int)) = some (Q ++ B ++ x :: R)
  | [], Q, R, k, hk, he, hl => by
    simp only [List.length_append, List.length_cons, List.length_nil] at hl he
    refine cO ?_
    show nG cmp rec e _ _ = _
    have : decide ((k : Int) < IntKind.i64.wrap (e - 1)) = false := by rw [wr (by omega) (by omega)]; simp; omega
    simp only [nG, this, cond_false]
    simp
  | y :: B, Q, R, k, hk, he, hl => by
    simp only [List.length_append, List.length_cons] at hl he
    have h1 : decide ((k : Int) < IntKind.i64.wrap (e - 1)) = true := by rw [wr (by omega) (by omega)]; simp; omega
    have hw : IntKind.i64.wrap ((k : Int) + 1) = ((k + 1 : Nat) : Int) := by rw [wr (by omega) (by omega)]; omega
    have b1 : 0 ≤ (k : Int) ∧ (k : Int) < ((List.length (Q ++ x :: y :: B ++ R) : Nat) : Int) := ⟨by omega, by simp only [List.length_append, List.length_cons]; omega⟩
    have b2 : 0 ≤ ((k + 1 : Nat) : Int) ∧ ((k + 1 : Nat) : Int) < ((List.length (Q ++ x :: y :: B ++ R) : Nat) : Int) := ⟨by omega, by simp only [List.length_append, List.length_cons]; omega⟩
    have hd : Q ++ x :: y :: B ++ R = Q ++ x :: ([] ++ y :: (B ++ R)) := by simp
    have g1 : (Q ++ x :: y :: B ++ R).getD k default = x := pM hd hk
    have g2 : (Q ++ x :: y :: B ++ R).getD (k + 1) default = y := pM (Q := Q ++ [x]) (R := B ++ R) (by simp) (by simp; omega)
    have hb : (fun s : List α × Int => nG cmp rec e s.1 s.2) (Q ++ x :: y :: B ++ R, (k : Int)) = some (.inl ((Q ++ [y]) ++ x :: B ++ R, ((k + 1 : Nat) : Int))) := by
      show nG cmp rec e _ _ = _
      simp only [nG, h1, cond_true, hw, bD b1, bD b2, Int.toNat_natCast, g1, g2]
      rw [QO (M := []) hd hk (by simp; omega)]
      simp
    rw [eG hb, aAH B (Q ++ [y]) R (k + 1) (by simp; omega) (by rw [he]; simp only [List.length_append, List.length_cons, List.length_nil]; congr 1; omega) (by simp only [List.length_append, List.length_cons, List.length_nil]; omega)]
    simp

theorem aBq {cmp : α → α → Option Int} {rec : List α → Int → Int → Int → Option (List α)} {e : Int} {x : α} {Q : List α} (he : e = (Q.length : Nat)) : ∀ (n : Nat) (A R : List α) (k : Nat), A.length = n → k = Q.length + A.length → (Q ++ A ++ x :: R).length ≤ 1099511627776 →
    lp (fun s : List α × Int => nH cmp rec e s.1 s.2) (Q ++ A ++ x :: R, (k : Int)) = some (Q ++ x :: A ++ R) := by
  intro n
  induction n with
  | zero =>
    intro A R k hn hk hl
    have hA : A = [] := List.length_eq_zero_iff.1 hn
    subst hA
    refine cO ?_
    show nH cmp rec e _ _ = _
    have : decide (e < (k : Int)) = false := by simp only [List.length_nil] at hk; simp; omega
    simp only [nH, this, cond_false]
    simp
  | succ n ih =>
    intro A R k hn hk hl
    obtain ⟨A', y, rfl⟩ : ∃ A' y, A = A' ++ [y] := by
      rcases List.eq_nil_or_concat A with h | ⟨A', y, h⟩
      · rw [h] at hn; simp at hn
      · exact ⟨A', y, by simpa using h⟩
    simp only [List.length_append, List.length_cons, List.length_nil] at hl hk hn
    have h1 : decide (e < (k : Int)) = true := by simp; omega
    have hw : IntKind.i64.wrap ((k : Int) - 1) = ((Q.length + A'.length : Nat) : Int) := by rw [wr (by omega) (by omega)]; omega
    have b1 : 0 ≤ (k : Int) ∧ (k : Int) < ((List.length (Q ++ (A' ++ [y]) ++ x :: R) : Nat) : Int) := ⟨by omega, by simp only [List.length_append, List.length_cons, List.length_nil]; omega⟩
    have b2 : 0 ≤ ((Q.length + A'.length : Nat) : Int) ∧ ((Q.length + A'.length : Nat) : Int) < ((List.length (Q ++ (A' ++ [y]) ++ x :: R) : Nat) : Int) := ⟨by omega, by simp only [List.length_append, List.length_cons, List.length_nil]; omega⟩
    have g1 : (Q ++ (A' ++ [y]) ++ x :: R).getD k default = x := pM (Q := Q ++ (A' ++ [y])) rfl (by simp; omega)
    have g2 : (Q ++ (A' ++ [y]) ++ x :: R).getD (Q.length + A'.length) default = y := pM (Q := Q ++ A') (R := x :: R) (by simp) (by simp)
    have hb : (fun s : List α × Int => nH cmp rec e s.1 s.2) (Q ++ (A' ++ [y]) ++ x :: R, (k : Int)) = some (.inl (Q ++ A' ++ x :: (y :: R), ((Q.length + A'.length : Nat) : Int))) := by
      show nH cmp rec e _ _ = _
      simp only [nH, h1, cond_true, hw, bD b1, bD b2, Int.toNat_natCast, g1, g2]
      rw [DI (Q := Q ++ (A' ++ [y])) (x := x) (R := R) rfl (by simp; omega), DI (Q := Q ++ A') (x := y) (R := y :: R) (by simp) (by simp)]
    rw [eG hb, ih A' (y :: R) (Q.length + A'.length) (by omega) rfl (by simp only [List.length_append, List.length_cons]; omega)]
    simp

def UJ (cmp : α → α → Option Int) (le : α → α → Prop) (P A B S : List α) (d : List α) (a m b : Int) : Prop :=
  (∃ r, KZ le P A B S r ∧ ∀ rec, dV cmp rec d a m b = some r) ∨
  (∃ A1 A2 B1 B2, A = A1 ++ A2 ∧ B = B1 ++ B2 ∧ 0 < A1.length + B1.length ∧ 0 < A2.length + B2.length ∧ (∀ x ∈ A1 ++ B1, ∀ y ∈ A2 ++ B2, le x y) ∧
    ∀ rec, dV cmp rec d a m b = (cond (decide (A1 ≠ [] ∧ B1 ≠ [])) (rec (P ++ A1 ++ B1 ++ A2 ++ B2 ++ S) a (a + (A1.length : Nat)) (a + ((A1.length + B1.length : Nat) : Int))) (some (P ++ A1 ++ B1 ++ A2 ++ B2 ++ S))).bind fun x =>
      cond (decide (A2 ≠ [] ∧ B2 ≠ [])) (rec x (a + ((A1.length + B1.length : Nat) : Int)) (a + ((A1.length + B1.length + A2.length : Nat) : Int)) b) (some x))

theorem YK (C : Cmp ok le cmp) {P B S : List α} {x : α} {a m b : Int} (hx : ok x) (hB : Oks ok B) (hs : Srt le B) (ha : a = (P.length : Nat)) (hm : m = ((P.length + 1 : Nat) : Int)) (hb : b = ((P.length + 1 + B.length : Nat) : Int)) (hl : (P ++ x :: B ++ S).length ≤ 1099511627776) :
    ∃ r, KZ le P [x] B S r ∧ ∀ rec, dV cmp rec (P ++ x :: B ++ S) a m b = some r := by
  have hl' := hl
  simp only [List.length_append, List.length_cons] at hl'
  have hgx : (P ++ x :: B ++ S).getD P.length default = x := pM (Q := P) (R := B ++ S) (by simp) rfl
  have hgb : ∀ k, k < B.length → (P ++ x :: B ++ S).getD (P.length + 1 + k) default = B.getD k default := fun k hk => DQ (P := P ++ [x]) (B := B) (S := S) (by simp) (by simp) hk
  have hbin : ∀ rec, ∃ s : Nat, P.length + 1 ≤ s ∧ s ≤ P.length + 1 + B.length ∧ (s = P.length + 1 ∨ ¬ le x (B.getD (s - 1 - (P.length + 1)) default)) ∧ (s = P.length + 1 + B.length ∨ ¬ ¬ le x (B.getD (s - (P.length + 1)) default)) ∧
      lp (fun s : List α × Int × Int => nF cmp rec a s.1 s.2.1 s.2.2) (P ++ x :: B ++ S, m, b) = some (P ++ x :: B ++ S, ((s : Nat) : Int)) := by
    intro rec
    rw [hm, hb]
    refine PF (lo := P.length + 1) (hi := P.length + 1 + B.length) (f := fun k => ¬ le x (B.getD (k - (P.length + 1)) default)) ?_ ?_ _ _ _ (Nat.le_refl _) (Nat.le_refl _) (by omega) (Nat.le_refl _) (Or.inl rfl) (Or.inl rfl)
    · intro i j h1 h2 h3
      have hh : (i + j) / 2 - (P.length + 1) < B.length := by omega
      have e1 : (P ++ x :: B ++ S).getD ((i + j) / 2) default = B.getD ((i + j) / 2 - (P.length + 1)) default := by
        have := hgb ((i + j) / 2 - (P.length + 1)) hh
        rwa [show P.length + 1 + ((i + j) / 2 - (P.length + 1)) = (i + j) / 2 by omega] at this
      obtain ⟨v, hc, hv⟩ := C.ans _ x (hB _ (dF hh)) hx
      refine ⟨decide (v < 0), by simpa using hv, ?_⟩
      show nF cmp rec a _ _ _ = _
      have hlt : decide ((i : Int) < (j : Int)) = true := by simpa using h2
      have hadd : ((i : Int) + (j : Int)) = ((i + j : Nat) : Int) := by omega
      have w1 : IntKind.i64.wrap ((((i + j) / 2 : Nat) : Int) + 1) = (((i + j) / 2 + 1 : Nat) : Int) := by rw [wr (by omega) (by omega)]; omega
      simp only [nF, hlt, cond_true, hadd, half (s := i + j) (by omega), Int.toNat_natCast, ha, e1, hgx, hc, Option.bind_some, w1]
      rw [bD (by omega), bD ⟨by omega, by simp only [List.length_append, List.length_cons]; omega⟩, bD ⟨by omega, by simp only [List.length_append, List.length_cons]; omega⟩]
      by_cases hneg : v < 0 <;> simp [hneg]
    · intro i
      show nF cmp rec a _ _ _ = _
      have hlt : decide ((i : Int) < (i : Int)) = false := by simp
      simp only [nF, hlt, cond_false]
  obtain ⟨s, s1, s2, s3, s4, s5⟩ := hbin (fun _ _ _ _ => none)
  obtain ⟨t, rfl⟩ : ∃ t, s = P.length + 1 + t := ⟨s - (P.length + 1), by omega⟩
  have ht : t ≤ B.length := by omega
  have hx1 : ∀ i, i < t → le (B.getD i default) x := fun i hi => by
    have h3 : ¬ le x (B.getD (t - 1) default) := by
      rcases s3 with h | h
      · omega
      · rwa [show P.length + 1 + t - 1 - (P.length + 1) = t - 1 by omega] at h
    have h4 : le (B.getD (t - 1) default) x := by
      rcases C.total x _ hx (hB _ (dF (show t - 1 < B.length by omega))) with h | h
      · exact absurd h h3
      · exact h
    exact C.trans _ _ _ (hB _ (dF (by omega))) (hB _ (dF (by omega))) hx (sQ C hB hs (show i ≤ t - 1 by omega) (by omega)) h4
  have hx2 : ∀ j, t ≤ j → j < B.length → le x (B.getD j default) := fun j hj hj' => by
    have h3 : le x (B.getD t default) := by
      rcases s4 with h | h
      · omega
      · rw [show P.length + 1 + t - (P.length + 1) = t by omega] at h
        exact Classical.not_not.1 h
    exact C.trans _ _ _ hx (hB _ (dF (by omega))) (hB _ (dF hj')) h3 (sQ C hB hs hj hj')
  have hBs : B.take t ++ B.drop t = B := List.take_append_drop t B
  have hlt : (B.take t).length = t := by rw [List.length_take]; omega
  refine ⟨P ++ (B.take t ++ x :: B.drop t) ++ S, ⟨_, ?_, ?_, rfl⟩, fun rec => ?_⟩
  · have := List.perm_middle (a := x) (l₁ := B.take t) (l₂ := B.drop t)
    rw [hBs] at this; exact this
  · simp only [Srt, List.pairwise_append, List.pairwise_cons]
    refine ⟨QH hs t, ⟨fun z hz => ?_, RB hs t⟩, fun y hy z hz => ?_⟩
    · obtain ⟨j, j1, j2, rfl⟩ := tR hz
      exact hx2 j j1 j2
    · obtain ⟨i, i1, i2, rfl⟩ := DZ hy
      rcases List.mem_cons.1 hz with rfl | hz
      · exact hx1 i i1
      · obtain ⟨j, j1, j2, rfl⟩ := tR hz
        exact sQ C hB hs (by omega) j2
  · have h1 : decide (IntKind.i64.wrap (m - a) = 1) = true := by rw [wr (by omega) (by omega)]; simp; omega
    have s5' : lp (fun s : List α × Int × Int => nF cmp rec a s.1 s.2.1 s.2.2) (P ++ x :: B ++ S, m, b) = some (P ++ x :: B ++ S, ((P.length + 1 + t : Nat) : Int)) := s5
    simp only [dV, h1, cond_true, DF, s5', Option.bind_some, CT, CS]
    have hmv := aAH (cmp := cmp) (rec := rec) (e := ((P.length + 1 + t : Nat) : Int)) (x := x) (B.take t) P (B.drop t ++ S) P.length rfl (by rw [hlt]; congr 1; omega) (by simp only [List.length_append, List.length_cons, List.length_drop]; omega)
    have hd : P ++ x :: B.take t ++ (B.drop t ++ S) = P ++ x :: B ++ S := by
      have : P ++ x :: B.take t ++ (B.drop t ++ S) = P ++ x :: (B.take t ++ B.drop t) ++ S := by simp only [List.append_assoc, List.cons_append]
      rw [this, hBs]
    rw [hd] at hmv
    rw [ha, hmv]
    simp [DG]

theorem ZP (C : Cmp ok le cmp) {P A S : List α} {x : α} {a m b : Int} (hx : ok x) (hA : Oks ok A) (hs : Srt le A) (hA1 : A.length ≠ 1) (ha : a = (P.length : Nat)) (hm : m = ((P.length + A.length : Nat) : Int)) (hb : b = ((P.length + A.length + 1 : Nat) : Int)) (hl : (P ++ A ++ x :: S).length ≤ 1099511627776) :
    ∃ r, KZ le P A [x] S r ∧ ∀ rec, dV cmp rec (P ++ A ++ x :: S) a m b = some r := by
  have hl' := hl
  simp only [List.length_append, List.length_cons] at hl'
  have hgx : (P ++ A ++ x :: S).getD (P.length + A.length) default = x := pM (Q := P ++ A) (R := S) rfl (by simp)
  have hga : ∀ k, k < A.length → (P ++ A ++ x :: S).getD (P.length + k) default = A.getD k default := fun k hk => DQ (P := P) (B := A) (S := x :: S) rfl rfl hk
  have hbin : ∀ rec, ∃ s : Nat, P.length ≤ s ∧ s ≤ P.length + A.length ∧ (s = P.length ∨ le (A.getD (s - 1 - P.length) default) x) ∧ (s = P.length + A.length ∨ ¬ le (A.getD (s - P.length) default) x) ∧
      lp (fun s : List α × Int × Int => nD cmp rec m s.1 s.2.1 s.2.2) (P ++ A ++ x :: S, a, m) = some (P ++ A ++ x :: S, ((s : Nat) : Int)) := by
    intro rec
    rw [ha, hm]
    refine PF (lo := P.length) (hi := P.length + A.length) (f := fun k => le (A.getD (k - P.length) default) x) ?_ ?_ _ _ _ (Nat.le_refl _) (Nat.le_refl _) (by omega) (Nat.le_refl _) (Or.inl rfl) (Or.inl rfl)
    · intro i j h1 h2 h3
      have hh : (i + j) / 2 - P.length < A.length := by omega
      have e1 : (P ++ A ++ x :: S).getD ((i + j) / 2) default = A.getD ((i + j) / 2 - P.length) default := by
        have := hga ((i + j) / 2 - P.length) hh
        rwa [show P.length + ((i + j) / 2 - P.length) = (i + j) / 2 by omega] at this
      obtain ⟨v, hc, hv⟩ := C.ans x _ hx (hA _ (dF hh))
      refine ⟨!decide (v < 0), by simp only [Bool.not_eq_true', decide_eq_false_iff_not, hv, Classical.not_not], ?_⟩
      show nD cmp rec _ _ _ _ = _
      have hlt : decide ((i : Int) < (j : Int)) = true := by simpa using h2
      have hadd : ((i : Int) + (j : Int)) = ((i + j : Nat) : Int) := by omega
      have w1 : IntKind.i64.wrap ((((i + j) / 2 : Nat) : Int) + 1) = (((i + j) / 2 + 1 : Nat) : Int) := by rw [wr (by omega) (by omega)]; omega
      simp only [nD, hlt, cond_true, hadd, half (s := i + j) (by omega), Int.toNat_natCast, e1, hgx, hc, Option.bind_some, w1]
      rw [bD (by omega), bD ⟨by omega, by simp only [List.length_append, List.length_cons]; omega⟩, bD ⟨by omega, by simp only [List.length_append, List.length_cons]; omega⟩]
      by_cases hneg : v < 0 <;> simp [hneg]
    · intro i
      show nD cmp rec _ _ _ _ = _
      have hlt : decide ((i : Int) < (i : Int)) = false := by simp
      simp only [nD, hlt, cond_false]
  obtain ⟨s, s1, s2, s3, s4, s5⟩ := hbin (fun _ _ _ _ => none)
  obtain ⟨t, rfl⟩ : ∃ t, s = P.length + t := ⟨s - P.length, by omega⟩
  have ht : t ≤ A.length := by omega
  have hx1 : ∀ i, i < t → le (A.getD i default) x := fun i hi => by
    have h4 : le (A.getD (t - 1) default) x := by
      rcases s3 with h | h
      · omega
      · rwa [show P.length + t - 1 - P.length = t - 1 by omega] at h
    exact C.trans _ _ _ (hA _ (dF (by omega))) (hA _ (dF (by omega))) hx (sQ C hA hs (show i ≤ t - 1 by omega) (by omega)) h4
  have hx2 : ∀ j, t ≤ j → j < A.length → le x (A.getD j default) := fun j hj hj' => by
    have h3 : le x (A.getD t default) := by
      rcases s4 with h | h
      · omega
      · rw [show P.length + t - P.length = t by omega] at h
        rcases C.total x _ hx (hA _ (dF (show t < A.length by omega))) with h' | h'
        · exact h'
        · exact absurd h' h
    exact C.trans _ _ _ hx (hA _ (dF (by omega))) (hA _ (dF hj')) h3 (sQ C hA hs hj hj')
  have hAs : A.take t ++ A.drop t = A := List.take_append_drop t A
  have hlt : (A.take t).length = t := by rw [List.length_take]; omega
  refine ⟨P ++ (A.take t ++ x :: A.drop t) ++ S, ⟨_, ?_, ?_, rfl⟩, fun rec => ?_⟩
  · have := List.perm_middle (a := x) (l₁ := A.take t) (l₂ := A.drop t)
    rw [hAs] at this
    exact this.trans (by simpa using (List.perm_append_comm (l₁ := [x]) (l₂ := A)))
  · simp only [Srt, List.pairwise_append, List.pairwise_cons]
    refine ⟨QH hs t, ⟨fun z hz => ?_, RB hs t⟩, fun y hy z hz => ?_⟩
    · obtain ⟨j, j1, j2, rfl⟩ := tR hz
      exact hx2 j j1 j2
    · obtain ⟨i, i1, i2, rfl⟩ := DZ hy
      rcases List.mem_cons.1 hz with rfl | hz
      · exact hx1 i i1
      · obtain ⟨j, j1, j2, rfl⟩ := tR hz
        exact sQ C hA hs (by omega) j2
  · have h1 : decide (IntKind.i64.wrap (m - a) = 1) = false := by rw [wr (by omega) (by omega)]; simp; omega
    have h2 : decide (IntKind.i64.wrap (b - m) = 1) = true := by rw [wr (by omega) (by omega)]; simp; omega
    have s5' : lp (fun s : List α × Int × Int => nD cmp rec m s.1 s.2.1 s.2.2) (P ++ A ++ x :: S, a, m) = some (P ++ A ++ x :: S, ((P.length + t : Nat) : Int)) := s5
    simp only [dV, h1, cond_false, zS, h2, cond_true, DA, s5', Option.bind_some, EZ, CU]
    have hmv := aBq (cmp := cmp) (rec := rec) (e := ((P.length + t : Nat) : Int)) (x := x) (Q := P ++ A.take t) (by simp [hlt]) (A.drop t).length (A.drop t) S (P.length + A.length) rfl (by simp only [List.length_append, List.length_drop, hlt]; omega) (by simp only [List.length_append, List.length_cons, List.length_drop, hlt]; omega)
    have hd : P ++ A.take t ++ A.drop t ++ x :: S = P ++ A ++ x :: S := by
      have : P ++ A.take t ++ A.drop t ++ x :: S = P ++ (A.take t ++ A.drop t) ++ x :: S := by simp only [List.append_assoc]
      rw [this, hAs]
    rw [hd] at hmv
    rw [hm, hmv]
    simp [FE]

theorem aBr (C : Cmp ok le cmp) {P A B S : List α} {a m b : Int} (hA : Oks ok A) (hB : Oks ok B) (hsA : Srt le A) (hsB : Srt le B) (hA2 : 2 ≤ A.length) (hB2 : 2 ≤ B.length)
    (ha : a = (P.length : Nat)) (hm : m = ((P.length + A.length : Nat) : Int)) (hb : b = ((P.length + A.length + B.length : Nat) : Int)) (hl : (P ++ A ++ B ++ S).length ≤ 1099511627776) :
    UJ cmp le P A B S (P ++ A ++ B ++ S) a m b := by
  right
  have hl' := hl
  simp only [List.length_append] at hl'
  -- the middle
  obtain ⟨mid, hmid⟩ : ∃ mid : Nat, mid = (P.length + (P.length + A.length + B.length)) / 2 := ⟨_, rfl⟩
  have hga : ∀ k, P.length ≤ k → k < P.length + A.length → (P ++ A ++ B ++ S).getD k default = A.getD (k - P.length) default := fun k h1 h2 => DQ (P := P) (B := A) (S := B ++ S) (by simp) (by omega) (by omega)
  have hgb : ∀ k, P.length + A.length ≤ k → k < P.length + A.length + B.length → (P ++ A ++ B ++ S).getD k default = B.getD (k - (P.length + A.length)) default := fun k h1 h2 => DQ (P := P ++ A) (B := B) (S := S) (by simp) (by simp; omega) (by omega)
  -- the search
  obtain ⟨lo, hi, hlo, hhi, hbnd, hlohi, hrange, hinit⟩ : ∃ lo hi : Nat, (lo = P.length ∨ lo + (P.length + A.length + B.length) = mid + (P.length + A.length)) ∧ (hi = P.length + A.length ∨ hi = mid) ∧ (P.length ≤ lo ∧ mid + (P.length + A.length) ≤ lo + (P.length + A.length + B.length) ∧ hi ≤ P.length + A.length ∧ hi ≤ mid) ∧ lo ≤ hi ∧
      (∀ c, lo ≤ c → c < hi → P.length ≤ c ∧ c < P.length + A.length ∧ P.length + A.length ≤ mid + (P.length + A.length) - 1 - c ∧ mid + (P.length + A.length) - 1 - c < P.length + A.length + B.length) ∧
      (∀ rec, wE cmp rec (P ++ A ++ B ++ S) a m b = wO cmp rec (P ++ A ++ B ++ S) a m b (mid : Int) ((mid + (P.length + A.length) : Nat) : Int) (lo : Int) (hi : Int)) := by
    have hw0 : IntKind.i64.wrap (Int.fdiv (IntKind.u64.wrap (IntKind.i64.wrap (a + b))) (2 ^ (min (Int.toNat (1 : Int)) 64))) = ((mid : Nat) : Int) := by
      rw [show a + b = ((P.length + (P.length + A.length + B.length) : Nat) : Int) by omega, half (by omega), hmid]
    have hw1 : IntKind.i64.wrap ((mid : Int) + m) = ((mid + (P.length + A.length) : Nat) : Int) := by rw [wr (by omega) (by omega)]; omega
    by_cases hc : mid < P.length + A.length
    · refine ⟨mid + (P.length + A.length) - (P.length + A.length + B.length), mid, Or.inr (by omega), Or.inr (by omega), by omega, by omega, fun c h1 h2 => ⟨by omega, by omega, by omega, by omega⟩, fun rec => ?_⟩
      have hlt : decide ((mid : Int) < m) = true := by simp; omega
      simp only [wE, hw0, hlt, cond_true, hw1]
      rw [bD (by omega), show IntKind.i64.wrap (((mid + (P.length + A.length) : Nat) : Int) - b) = ((mid + (P.length + A.length) - (P.length + A.length + B.length) : Nat) : Int) by rw [wr (by omega) (by omega)]; omega]
    · refine ⟨P.length, P.length + A.length, Or.inl rfl, Or.inl rfl, by omega, by omega, fun c h1 h2 => ⟨by omega, by omega, by omega, by omega⟩, fun rec => ?_⟩
      have hlt : decide ((mid : Int) < m) = false := by simp; omega
      simp only [wE, hw0, hlt, cond_false, hw1]
      rw [bD (by omega)]
      rw [ha, hm]
  have hbin : ∀ rec, ∃ s : Nat, lo ≤ s ∧ s ≤ hi ∧ (s = lo ∨ le (A.getD (s - 1 - P.length) default) (B.getD (mid + (P.length + A.length) - 1 - (s - 1) - (P.length + A.length)) default)) ∧ (s = hi ∨ ¬ le (A.getD (s - P.length) default) (B.getD (mid + (P.length + A.length) - 1 - s - (P.length + A.length)) default)) ∧
      lp (fun s : List α × Int × Int => nV cmp rec a m b (mid : Int) ((mid + (P.length + A.length) : Nat) : Int) ((mid + (P.length + A.length) - 1 : Nat) : Int) s.1 s.2.1 s.2.2) (P ++ A ++ B ++ S, (lo : Int), (hi : Int)) = some (P ++ A ++ B ++ S, ((s : Nat) : Int)) := by
    intro rec
    refine PF (lo := lo) (hi := hi) (f := fun k => le (A.getD (k - P.length) default) (B.getD (mid + (P.length + A.length) - 1 - k - (P.length + A.length)) default)) ?_ ?_ _ _ _ (Nat.le_refl _) (Nat.le_refl _) hlohi (Nat.le_refl _) (Or.inl rfl) (Or.inl rfl)
    · intro i j h1 h2 h3
      obtain ⟨r1, r2, r3, r4⟩ := hrange ((i + j) / 2) (by omega) (by omega)
      have e1 := hga ((i + j) / 2) r1 r2
      have e2 := hgb (mid + (P.length + A.length) - 1 - (i + j) / 2) r3 r4
      obtain ⟨v, hc, hv⟩ := C.ans (B.getD (mid + (P.length + A.length) - 1 - (i + j) / 2 - (P.length + A.length)) default) (A.getD ((i + j) / 2 - P.length) default) (hB _ (dF (by omega))) (hA _ (dF (by omega)))
      refine ⟨!decide (v < 0), by simp only [Bool.not_eq_true', decide_eq_false_iff_not, hv, Classical.not_not], ?_⟩
      show nV cmp rec _ _ _ _ _ _ _ _ _ = _
      have hlt : decide ((i : Int) < (j : Int)) = true := by simpa using h2
      have hadd : ((i : Int) + (j : Int)) = ((i + j : Nat) : Int) := by omega
      have w1 : IntKind.i64.wrap ((((i + j) / 2 : Nat) : Int) + 1) = (((i + j) / 2 + 1 : Nat) : Int) := by rw [wr (by omega) (by omega)]; omega
      have w2 : IntKind.i64.wrap (((mid + (P.length + A.length) - 1 : Nat) : Int) - (((i + j) / 2 : Nat) : Int)) = ((mid + (P.length + A.length) - 1 - (i + j) / 2 : Nat) : Int) := by rw [wr (by omega) (by omega)]; omega
      simp only [nV, hlt, cond_true, hadd, half (s := i + j) (by omega), w1, w2, Int.toNat_natCast, e1, e2, hc, Option.bind_some]
      rw [bD (by omega), bD ⟨by omega, by simp only [List.length_append]; omega⟩, bD ⟨by omega, by simp only [List.length_append]; omega⟩]
      by_cases hneg : v < 0 <;> simp [hneg]
    · intro i
      show nV cmp rec _ _ _ _ _ _ _ _ _ = _
      have hlt : decide ((i : Int) < (i : Int)) = false := by simp
      simp only [nV, hlt, cond_false]
  obtain ⟨s, s1, s2, s3, s4, s5⟩ := hbin (fun _ _ _ _ => none)
  have hsA0 : P.length ≤ s ∧ s ≤ P.length + A.length := by
    omega
  have hsB0 : P.length + A.length ≤ mid + (P.length + A.length) - s ∧ mid + (P.length + A.length) - s ≤ P.length + A.length + B.length := by
    omega
  obtain ⟨t, rfl⟩ : ∃ t, s = P.length + t := ⟨s - P.length, by omega⟩
  obtain ⟨u, hu⟩ : ∃ u, mid + (P.length + A.length) - (P.length + t) = P.length + A.length + u := ⟨mid + (P.length + A.length) - (P.length + t) - (P.length + A.length), by omega⟩
  have htA : t ≤ A.length := by omega
  have huB : u ≤ B.length := by omega
  have hmtu : mid = P.length + t + u := by omega
  have hAs : A.take t ++ A.drop t = A := List.take_append_drop t A
  have hBs : B.take u ++ B.drop u = B := List.take_append_drop u B
  have hlA1 : (A.take t).length = t := by rw [List.length_take]; omega
  have hlA2 : (A.drop t).length = A.length - t := by rw [List.length_drop]
  have hlB1 : (B.take u).length = u := by rw [List.length_take]; omega
  have hlB2 : (B.drop u).length = B.length - u := by rw [List.length_drop]
  refine ⟨A.take t, A.drop t, B.take u, B.drop u, hAs.symm, hBs.symm, by rw [hlA1, hlB1]; omega, by rw [hlA2, hlB2]; omega, ?_, fun rec => ?_⟩
  · -- who stands ahead of whom
    intro x hx y hy
    rcases List.mem_append.1 hx with hx | hx
    · obtain ⟨i, i1, i2, rfl⟩ := DZ hx
      rcases List.mem_append.1 hy with hy | hy
      · obtain ⟨j, j1, j2, rfl⟩ := tR hy
        exact sQ C hA hsA (by omega) j2
      · obtain ⟨j, j1, j2, rfl⟩ := tR hy
        have h3 : le (A.getD (t - 1) default) (B.getD u default) := by
          rcases s3 with h | h
          · rcases hlo with h' | h' <;> omega
          · rwa [show P.length + t - 1 - P.length = t - 1 by omega, show mid + (P.length + A.length) - 1 - (P.length + t - 1) - (P.length + A.length) = u by omega] at h
        exact C.trans _ _ _ (hA _ (dF i2)) (hA _ (dF (by omega))) (hB _ (dF j2)) (sQ C hA hsA (show i ≤ t - 1 by omega) (by omega))
          (C.trans _ _ _ (hA _ (dF (by omega))) (hB _ (dF (by omega))) (hB _ (dF j2)) h3 (sQ C hB hsB j1 j2))
    · obtain ⟨i, i1, i2, rfl⟩ := DZ hx
      rcases List.mem_append.1 hy with hy | hy
      · obtain ⟨j, j1, j2, rfl⟩ := tR hy
        have h3 : le (B.getD (u - 1) default) (A.getD t default) := by
          have h0 : ¬ le (A.getD t default) (B.getD (u - 1) default) := by
            rcases s4 with h | h
            · rcases hhi with h' | h' <;> omega
            · rwa [show P.length + t - P.length = t by omega, show mid + (P.length + A.length) - 1 - (P.length + t) - (P.length + A.length) = u - 1 by omega] at h
          rcases C.total _ _ (hA _ (dF (show t < A.length by omega))) (hB _ (dF (show u - 1 < B.length by omega))) with h | h
          · exact absurd h h0
          · exact h
        exact C.trans _ _ _ (hB _ (dF i2)) (hB _ (dF (by omega))) (hA _ (dF j2)) (sQ C hB hsB (show i ≤ u - 1 by omega) (by omega))
          (C.trans _ _ _ (hB _ (dF (by omega))) (hA _ (dF (by omega))) (hA _ (dF j2)) h3 (sQ C hA hsA j1 j2))
      · obtain ⟨j, j1, j2, rfl⟩ := tR hy
        exact sQ C hB hsB (by omega) j2
  · have h1 : decide (IntKind.i64.wrap (m - a) = 1) = false := by rw [wr (by omega) (by omega)]; simp; omega
    have h2 : decide (IntKind.i64.wrap (b - m) = 1) = false := by rw [wr (by omega) (by omega)]; simp; omega
    have s5' : lp (fun s : List α × Int × Int => nV cmp rec a m b (mid : Int) ((mid + (P.length + A.length) : Nat) : Int) ((mid + (P.length + A.length) - 1 : Nat) : Int) s.1 s.2.1 s.2.2) (P ++ A ++ B ++ S, (lo : Int), (hi : Int)) = some (P ++ A ++ B ++ S, ((P.length + t : Nat) : Int)) := s5
    have hp : IntKind.i64.wrap (((mid + (P.length + A.length) : Nat) : Int) - 1) = ((mid + (P.length + A.length) - 1 : Nat) : Int) := by rw [wr (by omega) (by omega)]; omega
    have he : IntKind.i64.wrap (((mid + (P.length + A.length) : Nat) : Int) - ((P.length + t : Nat) : Int)) = ((P.length + A.length + u : Nat) : Int) := by rw [wr (by omega) (by omega)]; omega
    simp only [dV, h1, cond_false, zS, h2, hinit rec, wO, FF, hp, s5', Option.bind_some, FC, he]
    -- the turn
    have hd : P ++ A ++ B ++ S = (P ++ A.take t) ++ A.drop t ++ B.take u ++ (B.drop u ++ S) := by
      have : (P ++ A.take t) ++ A.drop t ++ B.take u ++ (B.drop u ++ S) = P ++ (A.take t ++ A.drop t) ++ (B.take u ++ B.drop u) ++ S := by simp only [List.append_assoc]
      rw [this, hAs, hBs]
    have hrot : cond (decide (((P.length + t : Nat) : Int) < m) && decide (m < ((P.length + A.length + u : Nat) : Int)))
        ((BM (P ++ A ++ B ++ S) ((P.length + t : Nat) : Int) m ((P.length + A.length + u : Nat) : Int) cmp).bind fun x10 => pP cmp rec x10 a b (mid : Int) ((P.length + t : Nat) : Int) ((P.length + A.length + u : Nat) : Int))
        (pP cmp rec (P ++ A ++ B ++ S) a b (mid : Int) ((P.length + t : Nat) : Int) ((P.length + A.length + u : Nat) : Int))
        = pP cmp rec (P ++ A.take t ++ B.take u ++ A.drop t ++ B.drop u ++ S) a b (mid : Int) ((P.length + t : Nat) : Int) ((P.length + A.length + u : Nat) : Int) := by
      by_cases hc : t < A.length ∧ 0 < u
      · have : (decide (((P.length + t : Nat) : Int) < m) && decide (m < ((P.length + A.length + u : Nat) : Int))) = true := by simp; omega
        rw [this, cond_true, aBx (Q := P ++ A.take t) (X := A.drop t) (Y := B.take u) (R := B.drop u ++ S) hd (fun h => by rw [h] at hlA2; simp at hlA2; omega) (fun h => by rw [h] at hlB1; simp at hlB1; omega)
          (by simp only [List.length_append, hlA1]) (by simp only [List.length_append, hlA1, hlA2]; rw [hm]; congr 1; omega) (by simp only [List.length_append, hlA1, hlA2, hlB1]; congr 1; omega) hl]
        simp
      · have : (decide (((P.length + t : Nat) : Int) < m) && decide (m < ((P.length + A.length + u : Nat) : Int))) = false := by
          rw [Bool.eq_false_iff]; intro h; simp at h; apply hc; omega
        rw [this, cond_false, hd]
        congr 1
        by_cases h0 : t < A.length
        · have : u = 0 := by omega
          subst this; simp
        · have hz : A.drop t = [] := List.drop_eq_nil_of_le (by omega)
          simp only [hz, List.append_nil, List.append_assoc, List.nil_append]
    rw [hrot]
    have hne1 : decide (A.take t ≠ [] ∧ B.take u ≠ []) = (decide (a < ((P.length + t : Nat) : Int)) && decide (((P.length + t : Nat) : Int) < (mid : Int))) := by
      have q1 : A.take t ≠ [] ↔ 0 < t := by rw [← List.length_pos_iff, hlA1]
      have q2 : B.take u ≠ [] ↔ 0 < u := by rw [← List.length_pos_iff, hlB1]
      rw [Bool.eq_iff_iff]; simp [q1, q2]; omega
    have hne2 : decide (A.drop t ≠ [] ∧ B.drop u ≠ []) = (decide ((mid : Int) < ((P.length + A.length + u : Nat) : Int)) && decide (((P.length + A.length + u : Nat) : Int) < b)) := by
      have q1 : A.drop t ≠ [] ↔ t < A.length := by rw [← List.length_pos_iff, hlA2]; omega
      have q2 : B.drop u ≠ [] ↔ u < B.length := by rw [← List.length_pos_iff, hlB2]; omega
      rw [Bool.eq_iff_iff]; simp [q1, q2]; omega
    rw [hne1, hne2, hlA1, hlB1, hlA2]
    have f1 : a + ((t : Nat) : Int) = ((P.length + t : Nat) : Int) := by omega
    have f2 : a + ((t + u : Nat) : Int) = (mid : Int) := by omega
    have f3 : a + ((t + u + (A.length - t) : Nat) : Int) = ((P.length + A.length + u : Nat) : Int) := by omega
    rw [f1, f2, f3]
    simp only [pP, zO]
    cases (decide (a < ((P.length + t : Nat) : Int)) && decide (((P.length + t : Nat) : Int) < (mid : Int))) <;> simp only [cond_true, cond_false, Option.bind_some, Option.bind_fun_some]

end sym
end Go.Abs
namespace Go.Abs
open Go
variable {α : Type} [Inhabited α] {ok : α → Prop} {le : α → α → Prop} {cmp : α → α → Option Int}
theorem aA6 (C : Cmp ok le cmp) {P A B S : List α} {a m b : Int} (hA : A ≠ []) (hB : B ≠ []) (oA : Oks ok A) (oB : Oks ok B) (sA : Srt le A) (sB : Srt le B)
    (ha : a = (P.length : Nat)) (hm : m = ((P.length + A.length : Nat) : Int)) (hb : b = ((P.length + A.length + B.length : Nat) : Int)) (hl : (P ++ A ++ B ++ S).length ≤ 1099511627776) : UJ cmp le P A B S (P ++ A ++ B ++ S) a m b := by
  by_cases h1 : A.length = 1
  · obtain ⟨x, rfl⟩ := List.length_eq_one_iff.1 h1
    left
    obtain ⟨r, h, h'⟩ := YK C (P := P) (S := S) (x := x) (oA x (by simp)) oB sB ha (by simpa using hm) (by simpa using hb) (by simpa using hl)
    exact ⟨r, h, fun rec => by have := h' rec; simpa using this⟩
  · by_cases h2 : B.length = 1
    · obtain ⟨x, rfl⟩ := List.length_eq_one_iff.1 h2
      left
      obtain ⟨r, h, h'⟩ := ZP C (P := P) (S := S) (x := x) (oB x (by simp)) oA sA h1 ha hm (by simpa using hb) (by simpa using hl)
      exact ⟨r, h, fun rec => by have := h' rec; simpa using this⟩
    · have p1 := List.length_pos_iff.2 hA
      have p2 := List.length_pos_iff.2 hB
      exact aBr C oA oB sA sB (by omega) (by omega) ha hm hb hl

theorem IS (C : Cmp ok le cmp) : ∀ (k : Nat) (P A B S : List α) (a m b : Int), A ≠ [] → B ≠ [] → Oks ok A → Oks ok B → Srt le A → Srt le B →
    a = (P.length : Nat) → m = ((P.length + A.length : Nat) : Int) → b = ((P.length + A.length + B.length : Nat) : Int) → (P ++ A ++ B ++ S).length ≤ 1099511627776 →
    (∀ r, dX cmp k (P ++ A ++ B ++ S) a m b = some r → KZ le P A B S r) ∧ (A.length + B.length ≤ k → ∃ r, dX cmp k (P ++ A ++ B ++ S) a m b = some r)
  | 0, P, A, B, S, a, m, b, hA, hB, oA, oB, sA, sB, ha, hm, hb, hl => by
    refine ⟨fun r h => by simp [dX] at h, fun h => ?_⟩
    exact absurd (List.length_eq_zero_iff.1 (by omega)) hA
  | k + 1, P, A, B, S, a, m, b, hA, hB, oA, oB, sA, sB, ha, hm, hb, hl => by
    have part : ∀ (P' A' B' S' : List α) (a' m' b' : Int), Oks ok A' → Oks ok B' → Srt le A' → Srt le B' → a' = (P'.length : Nat) → m' = ((P'.length + A'.length : Nat) : Int) → b' = ((P'.length + A'.length + B'.length : Nat) : Int) → (P' ++ A' ++ B' ++ S').length ≤ 1099511627776 →
        (∀ r, cond (decide (A' ≠ [] ∧ B' ≠ [])) (dX cmp k (P' ++ A' ++ B' ++ S') a' m' b') (some (P' ++ A' ++ B' ++ S')) = some r → KZ le P' A' B' S' r) ∧
        (A'.length + B'.length ≤ k → ∃ r, cond (decide (A' ≠ [] ∧ B' ≠ [])) (dX cmp k (P' ++ A' ++ B' ++ S') a' m' b') (some (P' ++ A' ++ B' ++ S')) = some r) := by
      intro P' A' B' S' a' m' b' oA' oB' sA' sB' ha' hm' hb' hl'
      by_cases h : A' ≠ [] ∧ B' ≠ []
      · rw [decide_eq_true h, cond_true]
        exact IS C k P' A' B' S' a' m' b' h.1 h.2 oA' oB' sA' sB' ha' hm' hb' hl'
      · rw [decide_eq_false h, cond_false]
        refine ⟨fun r hr => ?_, fun _ => ⟨_, rfl⟩⟩
        cases hr
        refine ⟨A' ++ B', List.Perm.refl _, ?_, by simp⟩
        by_cases h1 : A' = []
        · subst h1; simpa using sB'
        · have h2 : B' = [] := Classical.byContradiction fun h2 => h ⟨h1, h2⟩
          subst h2; simpa using sA'
    rcases aA6 C hA hB oA oB sA sB ha hm hb hl with ⟨r, hr, hs⟩ | ⟨A1, A2, B1, B2, rfl, rfl, p1, p2, hcross, hs⟩
    · have e : dX cmp (k + 1) (P ++ A ++ B ++ S) a m b = some r := hs _
      exact ⟨fun r' h => by rw [e] at h; cases h; exact hr, fun _ => ⟨r, e⟩⟩
    · have e := hs (dX cmp k)
      rw [show dV cmp (dX cmp k) = dX cmp (k + 1) from rfl] at e
      have q1 := part P A1 B1 (A2 ++ B2 ++ S) a (a + (A1.length : Nat)) (a + ((A1.length + B1.length : Nat) : Int)) (fun x hx => oA x (by simp [hx])) (fun x hx => oB x (by simp [hx]))
        (List.pairwise_append.1 sA).1 (List.pairwise_append.1 sB).1 ha (by omega) (by omega) (by simp only [List.length_append] at hl ⊢; omega)
      have hd1 : P ++ A1 ++ B1 ++ A2 ++ B2 ++ S = P ++ A1 ++ B1 ++ (A2 ++ B2 ++ S) := by simp
      rw [hd1] at e
      have q2 : ∀ D1 : List α, D1.Perm (A1 ++ B1) → _ := fun D1 hD1 => part (P ++ D1) A2 B2 S (a + ((A1.length + B1.length : Nat) : Int)) (a + ((A1.length + B1.length + A2.length : Nat) : Int)) b (fun x hx => oA x (by simp [hx])) (fun x hx => oB x (by simp [hx]))
        (List.pairwise_append.1 sA).2.1 (List.pairwise_append.1 sB).2.1 (by have := hD1.length_eq; simp only [List.length_append] at this ⊢; omega) (by have := hD1.length_eq; simp only [List.length_append] at this ⊢; omega)
        (by have := hD1.length_eq; rw [hb]; simp only [List.length_append] at this ⊢; congr 1; omega) (by have := hD1.length_eq; simp only [List.length_append] at hl this ⊢; omega)
      refine ⟨fun r h => ?_, fun hk => ?_⟩
      · rw [e] at h
        obtain ⟨x, h1, h2⟩ := Option.bind_eq_some_iff.1 h
        obtain ⟨D1, d1, d2, rfl⟩ := q1.1 x h1
        have h2' : cond (decide (A2 ≠ [] ∧ B2 ≠ [])) (dX cmp k (P ++ D1 ++ A2 ++ B2 ++ S) (a + ((A1.length + B1.length : Nat) : Int)) (a + ((A1.length + B1.length + A2.length : Nat) : Int)) b) (some (P ++ D1 ++ A2 ++ B2 ++ S)) = some r := by
          have : P ++ D1 ++ (A2 ++ B2 ++ S) = P ++ D1 ++ A2 ++ B2 ++ S := by simp
          rw [this] at h2; exact h2
        obtain ⟨D2, f1, f2, rfl⟩ := (q2 D1 d1).1 r h2'
        refine ⟨D1 ++ D2, ?_, ?_, by simp⟩
        · refine (d1.append f1).trans ?_
          have : (B1 ++ (A2 ++ B2)).Perm (A2 ++ (B1 ++ B2)) := by
            have := (List.perm_append_comm (l₁ := B1) (l₂ := A2)).append_right B2
            simpa using this
          have := this.append_left A1
          simpa using this
        · rw [Srt, List.pairwise_append]
          exact ⟨d2, f2, fun x hx y hy => hcross x (d1.mem_iff.1 hx) y (f1.mem_iff.1 hy)⟩
      · simp only [List.length_append] at hk
        obtain ⟨x, hx⟩ := q1.2 (by omega)
        obtain ⟨D1, d1, d2, rfl⟩ := q1.1 x hx
        obtain ⟨r, hr⟩ := (q2 D1 d1).2 (by omega)
        refine ⟨r, ?_⟩
        rw [e, hx]
        have : P ++ D1 ++ (A2 ++ B2 ++ S) = P ++ D1 ++ A2 ++ B2 ++ S := by simp
        rw [this]; exact hr

theorem WG {β : Type} {g : Nat → Option β} (h : ∃ k r, g k = some r) : ∃ r, IK g = some r := by
  unfold IK
  rw [dif_pos h]
  exact Classical.choose_spec h

theorem XT (C : Cmp ok le cmp) {P A B S d : List α} {a m b : Int} (hd : d = P ++ A ++ B ++ S) (hA : A ≠ []) (hB : B ≠ []) (oA : Oks ok A) (oB : Oks ok B) (sA : Srt le A) (sB : Srt le B)
    (ha : a = (P.length : Nat)) (hm : m = ((P.length + A.length : Nat) : Int)) (hb : b = ((P.length + A.length + B.length : Nat) : Int)) (hl : d.length ≤ 1099511627776) :
    ∃ D, D.Perm (A ++ B) ∧ Srt le D ∧ oR d a m b cmp = some (P ++ D ++ S) := by
  subst hd
  unfold oR
  obtain ⟨r, hr⟩ := (IS C (A.length + B.length) P A B S a m b hA hB oA oB sA sB ha hm hb hl).2 (Nat.le_refl _)
  obtain ⟨r', hr'⟩ := WG (g := fun k => dX cmp k (P ++ A ++ B ++ S) a m b) ⟨_, r, hr⟩
  obtain ⟨k, hk⟩ := FO hr'
  obtain ⟨D, d1, d2, rfl⟩ := (IS C k P A B S a m b hA hB oA oB sA sB ha hm hb hl).1 r' hk
  exact ⟨D, d1, d2, hr'⟩

inductive mV {β : Type} (le : β → β → Prop) (n : Nat) : List β → Prop
  | last {l : List β} : l.length ≤ n → Srt le l → mV le n l
  | cons {x l : List β} : x.length = n → Srt le x → mV le n l → mV le n (x ++ l)

theorem mV.srt {β : Type} {le : β → β → Prop} {n : Nat} {l : List β} (h : mV le n l) (hl : l.length ≤ n) : Srt le l := by
  cases h with
  | last _ h => exact h
  | cons hx hs hr =>
    rename_i x r
    have : r = [] := List.length_eq_zero_iff.1 (by simp only [List.length_append] at hl; omega)
    subst this; simpa using hs

theorem mV.split {β : Type} {le : β → β → Prop} {n : Nat} {l : List β} (h : mV le n l) (hl : n < l.length) : ∃ x r, l = x ++ r ∧ x.length = n ∧ Srt le x ∧ mV le n r := by
  cases h with
  | last h' _ => omega
  | cons hx hs hr => exact ⟨_, _, rfl, hx, hs, hr⟩

theorem mV.aBC {β : Type} {le : β → β → Prop} {n : Nat} {l : List β} (hn : 0 < n) (h : mV le n l) (hl : 2 * n ≤ l.length) : ∃ x y r, l = x ++ y ++ r ∧ x.length = n ∧ y.length = n ∧ Srt le x ∧ Srt le y ∧ mV le n r := by
  obtain ⟨x, r, rfl, h1, h2, h3⟩ := h.split (by omega)
  simp only [List.length_append] at hl
  by_cases he : r.length = n
  · exact ⟨x, r, [], by simp, h1, he, h2, h3.srt (by omega), mV.last (by simp) List.Pairwise.nil⟩
  · obtain ⟨y, r', rfl, e1, e2, e3⟩ := h3.split (by omega)
    exact ⟨x, y, r', by simp, h1, e1, h2, e2, e3⟩

theorem Oks.perm {β : Type} {ok : β → Prop} {l l' : List β} (h : Oks ok l) (hp : l'.Perm l) : Oks ok l' := fun x hx => h x (hp.mem_iff.1 hx)

theorem aBZ (C : Cmp ok le cmp) {n1 : Int} : ∀ (n : Nat) (F G : List α), G.length ≤ n → Oks ok G → n1 = ((F.length + G.length : Nat) : Int) → (F ++ G).length ≤ 1099511627776 →
    ∃ G1 G2, (G1 ++ G2).Perm G ∧ G2.length < 20 ∧ (∀ H, H.length ≤ 20 → Srt le H → mV le 20 (G1 ++ H)) ∧
      lp (fun s : List α × Int × Int => mD cmp n1 20 s.1 s.2.1 s.2.2) (F ++ G, ((F.length : Nat) : Int), ((F.length + 20 : Nat) : Int)) = some (F ++ G1 ++ G2, ((F.length + G1.length : Nat) : Int)) := by
  intro n
  induction n with
  | zero =>
    intro F G hn hG h1 hl
    refine ⟨[], G, by simp, by omega, fun H h2 h3 => mV.last (by simpa using h2) (by simpa using h3), ?_⟩
    rw [cO (r := (F ++ G, ((F.length : Nat) : Int)))]
    · simp
    · have : decide (((F.length + 20 : Nat) : Int) ≤ n1) = false := by subst h1; simp; omega
      simp only [mD, this, cond_false]
  | succ n ih =>
    intro F G hn hG h1 hl
    by_cases hg : G.length < 20
    · refine ⟨[], G, by simp, by omega, fun H h2 h3 => mV.last (by simpa using h2) (by simpa using h3), ?_⟩
      rw [cO (r := (F ++ G, ((F.length : Nat) : Int)))]
      · simp
      · have : decide (((F.length + 20 : Nat) : Int) ≤ n1) = false := by subst h1; simp; omega
        simp only [mD, this, cond_false]
    · obtain ⟨X, R, rfl, hX⟩ : ∃ X R, G = X ++ R ∧ X.length = 20 := ⟨G.take 20, G.drop 20, (List.take_append_drop _ _).symm, by rw [List.length_take]; omega⟩
      simp only [List.length_append] at hn hl h1 hg
      obtain ⟨D, d1, d2, d3⟩ := YT C (P := F) (A := X) (T := R) (a := ((F.length : Nat) : Int)) (b := ((F.length + 20 : Nat) : Int)) rfl (by rw [hX]) (fun x hx => hG x (by simp [hx])) (by simp only [List.length_append]; omega)
      have hD : D.length = 20 := by rw [d1.length_eq, hX]
      obtain ⟨G1, G2, g1, g2, g3, g4⟩ := ih (F ++ D) R (by omega) (fun x hx => hG x (by simp [hx])) (by rw [h1]; simp only [List.length_append]; congr 1; omega) (by simp only [List.length_append]; omega)
      refine ⟨D ++ G1, G2, ?_, g2, fun H h2 h3 => ?_, ?_⟩
      · have := d1.append g1
        simpa using this
      · rw [List.append_assoc]; exact mV.cons hD d2 (g3 H h2 h3)
      · have hb : (fun s : List α × Int × Int => mD cmp n1 20 s.1 s.2.1 s.2.2) (F ++ (X ++ R), ((F.length : Nat) : Int), ((F.length + 20 : Nat) : Int)) = some (.inl (F ++ D ++ R, (((F ++ D).length : Nat) : Int), (((F ++ D).length + 20 : Nat) : Int))) := by
          show mD cmp n1 20 _ _ _ = _
          have : decide (((F.length + 20 : Nat) : Int) ≤ n1) = true := by subst h1; simp; omega
          simp only [mD, this, cond_true]
          rw [show F ++ (X ++ R) = F ++ X ++ R by simp, d3]
          simp only [Option.bind_some, List.length_append, hD]
          rw [wr (by omega) (by omega)]
          congr 1
        rw [eG hb, g4]
        simp only [List.length_append, List.append_assoc]
        congr 2
        congr 1; omega

theorem aB2 (C : Cmp ok le cmp) {n1 : Int} {bs : Nat} (hbs : 0 < bs) (hbs' : bs ≤ 1099511627776) : ∀ (n : Nat) (F G : List α), G.length ≤ n → Oks ok G → mV le bs G → n1 = ((F.length + G.length : Nat) : Int) → (F ++ G).length ≤ 1099511627776 →
    ∃ G1 G2, (G1 ++ G2).Perm G ∧ G2.length < 2 * bs ∧ mV le bs G2 ∧ (∀ H, H.length ≤ 2 * bs → Srt le H → mV le (2 * bs) (G1 ++ H)) ∧
      lp (fun s : List α × Int × Int => mB cmp n1 (bs : Int) s.1 s.2.1 s.2.2) (F ++ G, ((F.length : Nat) : Int), ((F.length + 2 * bs : Nat) : Int)) = some (F ++ G1 ++ G2, ((F.length + G1.length : Nat) : Int)) := by
  have stop : ∀ (F G : List α), mV le bs G → G.length < 2 * bs → n1 = ((F.length + G.length : Nat) : Int) → ∃ G1 G2, (G1 ++ G2).Perm G ∧ G2.length < 2 * bs ∧ mV le bs G2 ∧ (∀ H, H.length ≤ 2 * bs → Srt le H → mV le (2 * bs) (G1 ++ H)) ∧
      lp (fun s : List α × Int × Int => mB cmp n1 (bs : Int) s.1 s.2.1 s.2.2) (F ++ G, ((F.length : Nat) : Int), ((F.length + 2 * bs : Nat) : Int)) = some (F ++ G1 ++ G2, ((F.length + G1.length : Nat) : Int)) := by
    intro F G hG hg h1
    refine ⟨[], G, by simp, hg, hG, fun H h2 h3 => mV.last (by simpa using h2) (by simpa using h3), ?_⟩
    rw [cO (r := (F ++ G, ((F.length : Nat) : Int)))]
    · simp
    · have : decide (((F.length + 2 * bs : Nat) : Int) ≤ n1) = false := by subst h1; simp; omega
      show mB cmp n1 _ _ _ _ = _
      simp only [mB, this, cond_false]
  intro n
  induction n with
  | zero => intro F G hn _ hB h1 _; exact stop F G hB (by omega) h1
  | succ n ih =>
    intro F G hn hG hB h1 hl
    by_cases hg : G.length < 2 * bs
    · exact stop F G hB hg h1
    · obtain ⟨x, y, R, rfl, x1, y1, sx, sy, hR⟩ := hB.aBC hbs (by omega)
      simp only [List.length_append] at hn hl h1 hg
      obtain ⟨D, d1, d2, d3⟩ := XT C (P := F) (A := x) (B := y) (S := R) (d := F ++ (x ++ y ++ R)) (a := ((F.length : Nat) : Int)) (m := ((F.length + bs : Nat) : Int)) (b := ((F.length + 2 * bs : Nat) : Int)) (by simp) (fun h => by rw [h] at x1; simp at x1; omega) (fun h => by rw [h] at y1; simp at y1; omega)
        (fun z hz => hG z (by simp [hz])) (fun z hz => hG z (by simp [hz])) sx sy rfl (by rw [x1]) (by rw [x1, y1]; congr 1; omega) (by simp only [List.length_append]; omega)
      have hD : D.length = 2 * bs := by rw [d1.length_eq]; simp only [List.length_append]; omega
      obtain ⟨G1, G2, g1, g2, g3, g4, g5⟩ := ih (F ++ D) R (by omega) (fun z hz => hG z (by simp [hz])) hR (by rw [h1]; simp only [List.length_append]; congr 1; omega) (by simp only [List.length_append]; omega)
      refine ⟨D ++ G1, G2, ?_, g2, g3, fun H h2 h3 => ?_, ?_⟩
      · have := d1.append g1
        simpa using this
      · rw [List.append_assoc]; exact mV.cons hD d2 (g4 H h2 h3)
      · have hb : (fun s : List α × Int × Int => mB cmp n1 (bs : Int) s.1 s.2.1 s.2.2) (F ++ (x ++ y ++ R), ((F.length : Nat) : Int), ((F.length + 2 * bs : Nat) : Int)) = some (.inl (F ++ D ++ R, (((F ++ D).length : Nat) : Int), (((F ++ D).length + 2 * bs : Nat) : Int))) := by
          show mB cmp n1 _ _ _ _ = _
          have : decide (((F.length + 2 * bs : Nat) : Int) ≤ n1) = true := by subst h1; simp; omega
          have w1 : IntKind.i64.wrap (((F.length : Nat) : Int) + (bs : Int)) = ((F.length + bs : Nat) : Int) := by rw [wr (by omega) (by omega)]; omega
          have w2 : IntKind.i64.wrap (2 * (bs : Int)) = 2 * (bs : Int) := wr (by omega) (by omega)
          have w3 : IntKind.i64.wrap (((F.length + 2 * bs : Nat) : Int) + 2 * (bs : Int)) = ((F.length + 2 * bs + 2 * bs : Nat) : Int) := by rw [wr (by omega) (by omega)]; omega
          simp only [mB, this, cond_true, w1, w2, w3, d3, Option.bind_some, List.length_append, hD]
        rw [eG hb, g5]
        simp only [List.length_append, List.append_assoc]
        congr 2
        congr 1; omega

theorem VC (C : Cmp ok le cmp) {d : List α} {bs : Nat} (hbs : 0 < bs) (hbs' : bs < d.length) (ho : Oks ok d) (hB : mV le bs d) (hl : d.length ≤ 1099511627776) :
    ∃ r, r.Perm d ∧ mV le (2 * bs) r ∧ jM cmp ((d.length : Nat) : Int) d (bs : Int) = some (.inl (r, ((2 * bs : Nat) : Int))) := by
  obtain ⟨G1, G2, g1, g2, g3, g4, g5⟩ := aB2 C (n1 := ((d.length : Nat) : Int)) hbs (by omega) d.length [] d (Nat.le_refl _) ho hB (by simp) (by simpa using hl)
  have hlen := g1.length_eq
  simp only [List.length_append] at hlen
  have w2 : IntKind.i64.wrap (2 * (bs : Int)) = ((2 * bs : Nat) : Int) := by rw [wr (by omega) (by omega)]; omega
  have w4 : IntKind.i64.wrap ((bs : Int) * 2) = ((2 * bs : Nat) : Int) := by rw [wr (by omega) (by omega)]; omega
  have hlt : decide ((bs : Int) < ((d.length : Nat) : Int)) = true := by simp; omega
  simp only [List.nil_append, List.length_nil, Nat.zero_add, Int.natCast_zero] at g5
  have w1 : IntKind.i64.wrap (((G1.length : Nat) : Int) + (bs : Int)) = ((G1.length + bs : Nat) : Int) := by rw [wr (by omega) (by omega)]; omega
  by_cases hg : bs < G2.length
  · obtain ⟨x, y, rfl, x1, sx, hy⟩ := g3.split hg
    simp only [List.length_append] at g2 hg hlen
    have sy : Srt le y := hy.srt (by omega)
    have og : Oks ok (G1 ++ (x ++ y)) := ho.perm g1
    obtain ⟨D, d1, d2, d3⟩ := XT C (P := G1) (A := x) (B := y) (S := []) (d := G1 ++ (x ++ y)) (a := ((G1.length : Nat) : Int)) (m := ((G1.length + bs : Nat) : Int)) (b := ((d.length : Nat) : Int)) (by simp) (fun h => by rw [h] at x1; simp at x1; omega) (fun h => by rw [h] at hg; simp at hg; omega)
      (fun z hz => og z (by simp [hz])) (fun z hz => og z (by simp [hz])) sx sy rfl (by rw [x1]) (by congr 1; omega) (by simp only [List.length_append]; omega)
    refine ⟨G1 ++ D, ?_, ?_, ?_⟩
    · exact (d1.append_left G1).trans g1
    · exact g4 D (by rw [d1.length_eq]; simp only [List.length_append]; omega) d2
    · have hc : decide (((G1.length + bs : Nat) : Int) < ((d.length : Nat) : Int)) = true := by simp; omega
      simp only [jM, hlt, cond_true, w2, vM, g5, Option.bind_some, vJ, w1, hc, d3, zD, w4]
      simp
  · refine ⟨G1 ++ G2, g1, g4 G2 (by omega) (g3.srt (by omega)), ?_⟩
    have hc : decide (((G1.length + bs : Nat) : Int) < ((d.length : Nat) : Int)) = false := by simp; omega
    simp only [jM, hlt, cond_true, w2, vM, g5, Option.bind_some, vJ, w1, hc, cond_false, zD, w4]

theorem XG (C : Cmp ok le cmp) : ∀ (n : Nat) (d : List α) (bs : Nat), d.length - bs ≤ n → 0 < bs → Oks ok d → mV le bs d → d.length ≤ 1099511627776 →
    ∃ r, r.Perm d ∧ Srt le r ∧ lp (fun s : List α × Int => jM cmp ((d.length : Nat) : Int) s.1 s.2) (d, (bs : Int)) = some r := by
  have stop : ∀ (d : List α) (bs : Nat), d.length ≤ bs → mV le bs d → ∃ r, r.Perm d ∧ Srt le r ∧ lp (fun s : List α × Int => jM cmp ((d.length : Nat) : Int) s.1 s.2) (d, (bs : Int)) = some r := by
    intro d bs h hB
    refine ⟨d, List.Perm.refl _, hB.srt h, cO ?_⟩
    show jM cmp _ _ _ = _
    have : decide ((bs : Int) < ((d.length : Nat) : Int)) = false := by simp; omega
    simp only [jM, this, cond_false]
  intro n
  induction n with
  | zero => intro d bs hn _ _ hB _; exact stop d bs (by omega) hB
  | succ n ih =>
    intro d bs hn hbs ho hB hl
    by_cases h : d.length ≤ bs
    · exact stop d bs h hB
    · obtain ⟨r, r1, r2, r3⟩ := VC C hbs (by omega) ho hB hl
      obtain ⟨r', e1, e2, e3⟩ := ih r (2 * bs) (by rw [r1.length_eq]; omega) (by omega) (ho.perm r1) r2 (by rw [r1.length_eq]; exact hl)
      rw [r1.length_eq] at e3
      refine ⟨r', e1.trans r1, e2, ?_⟩
      rw [eG (show (fun s : List α × Int => jM cmp ((d.length : Nat) : Int) s.1 s.2) (d, (bs : Int)) = _ from r3)]
      exact e3

theorem NU (C : Cmp ok le cmp) {d : List α} (ho : Oks ok d) (hl : d.length ≤ 1099511627776) : ∃ r, r.Perm d ∧ Srt le r ∧ wZ d ((d.length : Nat) : Int) cmp = some r := by
  obtain ⟨G1, G2, g1, g2, g3, g4⟩ := aBZ C (n1 := ((d.length : Nat) : Int)) d.length [] d (Nat.le_refl _) ho (by simp) (by simpa using hl)
  have hlen := g1.length_eq
  simp only [List.length_append] at hlen
  have og := ho.perm g1
  obtain ⟨D, d1, d2, d3⟩ := YT C (P := G1) (A := G2) (T := []) (a := ((G1.length : Nat) : Int)) (b := ((d.length : Nat) : Int)) rfl (by congr 1; omega) (fun z hz => og z (by simp [hz])) (by simp only [List.length_append, List.length_nil]; omega)
  have hp : (G1 ++ D).Perm d := (d1.append_left G1).trans g1
  obtain ⟨r, r1, r2, r3⟩ := XG C (G1 ++ D).length (G1 ++ D) 20 (by omega) (by omega) (ho.perm hp) (g3 D (by rw [d1.length_eq]; omega) d2) (by rw [hp.length_eq]; exact hl)
  refine ⟨r, r1.trans hp, r2, ?_⟩
  simp only [List.nil_append, List.length_nil, Nat.zero_add, Int.natCast_zero] at g4
  unfold wZ yV
  have g4' : lp (fun s : List α × Int × Int => mD cmp ((d.length : Nat) : Int) 20 s.1 s.2.1 s.2.2) (d, (0 : Int), (20 : Int)) = some (G1 ++ G2, ((G1.length : Nat) : Int)) := g4
  rw [g4']
  simp only [Option.bind_some, zC]
  rw [show G1 ++ G2 = G1 ++ G2 ++ [] by simp, d3]
  simp only [Option.bind_some, yQ, List.append_nil]
  rw [hp.length_eq] at r3
  have r3' : lp (fun s : List α × Int => jM cmp ((d.length : Nat) : Int) s.1 s.2) (G1 ++ D, (20 : Int)) = some r := r3
  rw [r3']; rfl

end Go.Abs
namespace Go.Abs
open Go
def zV (n : Int) : Bool := decide (n ≤ 1048576) && decide (-1048576 ≤ n)

theorem UQ (n : Int) : vT n = some (zV n) := rfl

def tF (last : Int) (j : aB) : Bool := decide (j.At ≤ last) || decide (1125899906842624 ≤ j.At) || decide (j.Net = 0) || !zV j.Net

def chk (last : Int) : List aB → Bool
  | [] => true
  | j :: r => !tF last j && chk j.At r

def fN (f : List aB) : Bool := decide (f.length ≤ 1024) && chk (-2) f

theorem PK {f : List aB} {i : Nat} {a : aB} {last : Int} (ha : f[i]? = some a) (hl : f.length < 4611686018427387904) :
    mA f (f.length : Nat) last i = some (if tF last a then .inr (.inr false) else .inl (a.At, ((i + 1 : Nat) : Int))) := by
  obtain ⟨d1, d2, d3, d4⟩ := idx ha hl
  simp only [mA, d1, cond_true, bD d2, d3, d4, UQ]
  unfold tF
  cases h : (decide (a.At ≤ last) || decide (1125899906842624 ≤ a.At) || decide (a.Net = 0)) <;> cases h2 : zV a.Net <;> simp [cV]

theorem PR : ∀ (f : List aB) (last : Int), wA (fun last (j : aB) => some (if tF last j then .inr (.inr false) else .inl j.At)) (fun _ => (.inl () : Unit ⊕ Bool)) last f = some (if chk last f then .inl () else .inr false)
  | [], last => by simp [wA, chk]
  | j :: r, last => by
    cases h : tF last j
    · rw [VL (s' := j.At) (by simp [h])]
      rw [PR r j.At]
      simp [chk, h]
    · rw [VX (x := .inr false) (by simp [h])]
      simp [chk, h]

theorem JZ (f : List aB) : oH f = some (fN f) := by
  unfold oH fN
  by_cases hl : f.length ≤ 1024
  · have h1 : decide ((1024 : Int) < ((f.length : Nat) : Int)) = false := by simp; omega
    rw [h1, cond_false]
    unfold yT
    have key := ZY (l := f) (body := fun s : Int × Int => mA f (f.length : Nat) s.1 s.2) (fun last i => (last, i)) _ _
      (fun i a s ha => by
        constructor
        · intro s' hs
          show mA f (f.length : Nat) s i = _
          rw [PK ha (by omega)]
          split at hs <;> simp_all
        · intro x hs
          show mA f (f.length : Nat) s i = _
          rw [PK ha (by omega)]
          split at hs <;> simp_all)
      (fun s => by show mA f (f.length : Nat) s (f.length : Nat) = _; simp only [mA, jB, cond_false]) (PR f (-2))
    rw [key]
    cases h : chk (-2) f <;> simp [vN, hl]
  · have h1 : decide ((1024 : Int) < ((f.length : Nat) : Int)) = true := by simp; omega
    rw [h1, cond_true]
    simp [hl]

end Go.Abs
