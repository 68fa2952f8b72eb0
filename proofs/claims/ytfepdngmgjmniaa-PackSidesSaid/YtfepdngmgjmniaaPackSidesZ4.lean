/- What the law PackSides stands on: the framework, the given functions as plain functions, their walks, and the plain laws; part 4. -/
import Derived.Test.YtfepdngmgjmniaaPackSidesZ3
set_option linter.unusedSimpArgs false
set_option linter.unusedVariables false
namespace Go.Abs
open Go Go.RowKit Go.Proofs
theorem yI (lo0p : Nat) (aB : (List aA)) (n1 : Int) (cmp2_f : Nat) (cmp2_a cmp2_c : List V) (cmp2 : aA → aA → Option Int) (cmp2_h : ∀ a0 a1 r, cmp2 a0 a1 = some r → bS Try.prog cmp2_f (cmp2_a ++ [(aD a0), (aD a1)] ++ cmp2_c) (eI r)) (r : List aA) (h0 : fJ aB n1 cmp2 = some r) : lO Try.prog 133 lo0p 2 (List.map aD aB) (List.map aD r) [(.msl 2 lo0p 0 (List.length aB)), (eI n1), (.fn (.func cmp2_f) cmp2_a cmp2_c)] (.tup []) := by
  intro H0 hl0
  refine cI Try.func133 ?_
  have hO := aO.rK hl0
  clear hl0
  obtain ⟨N0, hN0⟩ : ∃ n, n = List.length aB := ⟨_, rfl⟩
  have hN : List.length aB = N0 := hN0.symm
  unfold fJ at h0
  refine aY aH 1 [] [(6, (eI (20 : Int)))] ?_
  refine aY aH 3 [] [(7, (eI (0 : Int))), (8, (eI (20 : Int)))] ?_
  refine dG (fun T H => ∃ aB : List aA, ∃ aP : Int, ∃ a7 : Int, Has T [(0, (.msl 2 lo0p 0 (List.length aB))), (1, (eI n1)), (2, (.fn (.func cmp2_f) cmp2_a cmp2_c)), (6, (eI aP)), (7, (eI a7))] ∧ aO ⟨H0, [lo0p], []⟩ H [(lo0p, 2, List.map aD aB)] ∧ List.length aB = N0 ∧ fB cmp2 aB n1 aP a7 = some r) ?_ ?_
  · clear hO hN h0
    rintro T H ⟨aB, aP, a7, hT, hO, hN, h0⟩
    refine bB hT ?_
    clear hT
    unfold fB at h0
    refine aQ ?_
    refine aT aH 5 ?_
    refine bH 4 ?_
    obtain ⟨x1, hx2, h0⟩ := aU h0
    refine pG [(lo0p, 2, List.map aD x1)] 0 (nU lo0p aB a7 n1 cmp2_f cmp2_a cmp2_c cmp2 cmp2_h _ hx2) hO ?_
    intro H hO hl3
    simp only [List.length_map] at hl3
    replace hN := hl3.trans hN
    refine cJ ?_
    refine cS (l := [(0, (.msl 2 lo0p 0 (List.length x1))), (1, (eI n1)), (2, (.fn (.func cmp2_f) cmp2_a cmp2_c)), (6, (eI aP))]) ⟨[(0, (.msl 2 lo0p 0 (List.length aB))), (1, (eI n1)), (2, (.fn (.func cmp2_f) cmp2_a cmp2_c)), (6, (eI aP))], by kernel_rfl, rfl, ⟨aX.eq (by simp [hl3]), aX.refl _, aX.refl _, aX.refl _, trivial⟩⟩ ?_
    refine aK (aJ (?_))
    refine bR 2 ?_
    refine cW [(0, (.msl 2 lo0p 0 (List.length x1))), (1, (eI n1)), (2, (.fn (.func cmp2_f) cmp2_a cmp2_c)), (6, (eI aP))] ?_
    refine cP (fun T H => ∃ aB : List aA, ∃ aP : Int, Has T [(0, (.msl 2 lo0p 0 (List.length aB))), (1, (eI n1)), (2, (.fn (.func cmp2_f) cmp2_a cmp2_c)), (6, (eI aP))] ∧ aO ⟨H0, [lo0p], []⟩ H [(lo0p, 2, List.map aD aB)] ∧ List.length aB = N0 ∧ iR cmp2 aB n1 aP = some r) ?_ ⟨x1, aP, .eq (by kernel_rfl), hO, hN, h0⟩
    clear hO hN h0
    rintro T H ⟨aB, aP, hT, hO, hN, h0⟩
    refine bB hT ?_
    clear hT
    unfold iR at h0
    obtain ⟨rr0, hl0, h0⟩ := aU h0
    refine cD (by kernel_rfl) (fun (s : List aA × Int) T H => Has T [(0, (.msl 2 lo0p 0 (List.length s.1))), (1, (eI n1)), (2, (.fn (.func cmp2_f) cmp2_a cmp2_c)), (6, (eI s.2))] ∧ aO ⟨H0, [lo0p], []⟩ H [(lo0p, 2, List.map aD s.1)] ∧ List.length s.1 = N0) hl0 ⟨.eq (by kernel_rfl), hO, hN⟩ ?_
    clear hO hN
    rintro k0 s out1 T H ⟨hT, hO, hN⟩ h1 ho0
    obtain ⟨aB, aP⟩ := s
    replace h1 : iB cmp2 n1 aB aP = some out1 := h1
    try dsimp only at hT
    refine bB hT ?_
    clear hT
    unfold iB at h1
    refine aQ ?_
    refine aY aH 3 [] [(30, (aL (decide (aP < n1))))] ?_
    refine bL h1 (fun h1 => ?_) (fun h1 => ?_)
    · refine bN ?_
      refine bD [(0, (.msl 2 lo0p 0 (List.length aB))), (1, (eI n1)), (2, (.fn (.func cmp2_f) cmp2_a cmp2_c)), (6, (eI aP))] ?_
      refine bR 3 ?_
      refine aY aH 4 [] [(7, (eI (0 : Int))), (8, (eI (wR ((2 : Int) * aP))))] ?_
      refine dG (fun T H => ∃ aB : List aA, ∃ a7 : Int, Has T [(0, (.msl 2 lo0p 0 (List.length aB))), (1, (eI n1)), (2, (.fn (.func cmp2_f) cmp2_a cmp2_c)), (6, (eI aP)), (7, (eI a7))] ∧ aO ⟨H0, [lo0p], []⟩ H [(lo0p, 2, List.map aD aB)] ∧ List.length aB = N0 ∧ eZ cmp2 aB n1 aP a7 = some out1) ?_ ?_
      · clear hO hN h1
        rintro T H ⟨aB, a7, hT, hO, hN, h1⟩
        refine bB hT ?_
        clear hT
        unfold eZ at h1
        refine dG (fun T H => ∃ aB : List aA, Has T [(0, (.msl 2 lo0p 0 (List.length aB))), (1, (eI n1)), (2, (.fn (.func cmp2_f) cmp2_a cmp2_c)), (6, (eI aP))] ∧ aO ⟨H0, [lo0p], []⟩ H [(lo0p, 2, List.map aD aB)] ∧ List.length aB = N0 ∧ iE cmp2 aB n1 aP = some out1) ?_ ?_
        · clear hO hN h1
          rintro T H ⟨aB, hT, hO, hN, h1⟩
          refine bB hT ?_
          clear hT
          unfold iE at h1
          refine aT aH 3 ?_
          refine bC ?_
          exact aK (aZ (aJ (⟨rfl, _, (oI h1).symm, .eq (by kernel_rfl), hO, hN⟩)))
        refine aY aH 4 [] [(9, (eI (wR (a7 + aP))))] ?_
        refine aY aH 3 [] [(54, (aL (decide ((wR (a7 + aP)) < n1))))] ?_
        refine bL h1 (fun h1 => ?_) (fun h1 => ?_)
        · refine aT aH 6 ?_
          refine bH 5 ?_
          obtain ⟨x6, hx7, h1⟩ := aU h1
          refine pG [(lo0p, 2, List.map aD x6)] 0 (pO lo0p aB a7 (wR (a7 + aP)) n1 cmp2_f cmp2_a cmp2_c cmp2 cmp2_h _ hx7) hO ?_
          intro H hO hl8
          simp only [List.length_map] at hl8
          replace hN := hl8.trans hN
          refine cJ ?_
          refine cS (l := [(0, (.msl 2 lo0p 0 (List.length x6))), (1, (eI n1)), (2, (.fn (.func cmp2_f) cmp2_a cmp2_c)), (6, (eI aP))]) ⟨[(0, (.msl 2 lo0p 0 (List.length aB))), (1, (eI n1)), (2, (.fn (.func cmp2_f) cmp2_a cmp2_c)), (6, (eI aP))], by kernel_rfl, rfl, ⟨aX.eq (by simp [hl8]), aX.refl _, aX.refl _, aX.refl _, trivial⟩⟩ ?_
          exact aK (aJ (⟨rfl, _, .eq (by kernel_rfl), hO, hN, h1⟩))
        refine bN ?_
        exact aK (aJ (⟨rfl, _, .eq (by kernel_rfl), hO, hN, h1⟩))
      refine bR 4 ?_
      refine cW [(0, (.msl 2 lo0p 0 (List.length aB))), (1, (eI n1)), (2, (.fn (.func cmp2_f) cmp2_a cmp2_c)), (6, (eI aP)), (7, (eI (0 : Int))), (8, (eI (wR ((2 : Int) * aP))))] ?_
      refine cP (fun T H => ∃ aB : List aA, ∃ a7 : Int, ∃ b8 : Int, Has T [(0, (.msl 2 lo0p 0 (List.length aB))), (1, (eI n1)), (2, (.fn (.func cmp2_f) cmp2_a cmp2_c)), (6, (eI aP)), (7, (eI a7)), (8, (eI b8))] ∧ aO ⟨H0, [lo0p], []⟩ H [(lo0p, 2, List.map aD aB)] ∧ List.length aB = N0 ∧ iC cmp2 aB n1 aP a7 b8 = some out1) ?_ ⟨aB, (0 : Int), wR ((2 : Int) * aP), .eq (by kernel_rfl), hO, hN, h1⟩
      clear hO hN h1
      rintro T H ⟨aB, a7, b8, hT, hO, hN, h1⟩
      refine bB hT ?_
      clear hT
      unfold iC at h1
      obtain ⟨rr1, hl1, h1⟩ := aU h1
      refine cD (by kernel_rfl) (fun (s : List aA × Int × Int) T H => Has T [(0, (.msl 2 lo0p 0 (List.length s.1))), (1, (eI n1)), (2, (.fn (.func cmp2_f) cmp2_a cmp2_c)), (6, (eI aP)), (7, (eI s.2.1)), (8, (eI s.2.2))] ∧ aO ⟨H0, [lo0p], []⟩ H [(lo0p, 2, List.map aD s.1)] ∧ List.length s.1 = N0) hl1 ⟨.eq (by kernel_rfl), hO, hN⟩ ?_
      clear hO hN
      rintro k1 s out2 T H ⟨hT, hO, hN⟩ h2 ho1
      obtain ⟨aB, a7, b8⟩ := s
      replace h2 : iK cmp2 n1 aP aB a7 b8 = some out2 := h2
      try dsimp only at hT
      refine bB hT ?_
      clear hT
      unfold iK at h2
      refine aQ ?_
      refine aY aH 3 [] [(35, (aL (decide (b8 ≤ n1))))] ?_
      refine bL h2 (fun h2 => ?_) (fun h2 => ?_)
      · refine bN ?_
        refine bD [(0, (.msl 2 lo0p 0 (List.length aB))), (1, (eI n1)), (2, (.fn (.func cmp2_f) cmp2_a cmp2_c)), (6, (eI aP)), (7, (eI a7)), (8, (eI b8))] ?_
        refine bR 5 ?_
        refine aQ ?_
        refine aT aH 8 ?_
        refine bH 7 ?_
        obtain ⟨x10, hx11, h2⟩ := aU h2
        refine pG [(lo0p, 2, List.map aD x10)] 0 (pO lo0p aB a7 (wR (a7 + aP)) b8 cmp2_f cmp2_a cmp2_c cmp2 cmp2_h _ hx11) hO ?_
        intro H hO hl12
        simp only [List.length_map] at hl12
        replace hN := hl12.trans hN
        refine cJ ?_
        refine cS (l := [(0, (.msl 2 lo0p 0 (List.length x10))), (1, (eI n1)), (2, (.fn (.func cmp2_f) cmp2_a cmp2_c)), (6, (eI aP)), (8, (eI b8))]) ⟨[(0, (.msl 2 lo0p 0 (List.length aB))), (1, (eI n1)), (2, (.fn (.func cmp2_f) cmp2_a cmp2_c)), (6, (eI aP)), (8, (eI b8))], by kernel_rfl, rfl, ⟨aX.eq (by simp [hl12]), aX.refl _, aX.refl _, aX.refl _, aX.refl _, trivial⟩⟩ ?_
        refine aK (aJ (?_))
        refine aY aH 2 [] [(7, (eI b8))] ?_
        refine aT aH 5 ?_
        refine bC ?_
        exact aK (aZ (aJ (⟨rfl, _, (oI h2).symm, .eq (by kernel_rfl), hO, hN⟩)))
      refine eC 4 ?_
      obtain rfl := oI h2
      obtain rfl : _ = rr1 := ho1
      replace h1 : eZ cmp2 aB n1 aP a7 = some out1 := h1
      exact aK (aW (aW (bO (aJ (⟨rfl, _, _, .eq (by kernel_rfl), hO, hN, h1⟩)))))
    refine eC 2 ?_
    obtain rfl := oI h1
    obtain rfl : _ = rr0 := ho0
    replace h0 : some aB = some r := h0
    obtain rfl := oI h0
    exact aK (aW (aW (bO (rU (x := (.tup [])) (by kernel_rfl) (aX.refl _) ⟨rfl, hO.ext, hO.at 0 (by kernel_rfl), by simp only [List.length_map]; exact hN.trans hN0⟩))))
  refine bR 0 ?_
  refine cW [(0, (.msl 2 lo0p 0 (List.length aB))), (1, (eI n1)), (2, (.fn (.func cmp2_f) cmp2_a cmp2_c)), (6, (eI (20 : Int))), (7, (eI (0 : Int))), (8, (eI (20 : Int)))] ?_
  refine cP (fun T H => ∃ aB : List aA, ∃ aP : Int, ∃ a7 : Int, ∃ b8 : Int, Has T [(0, (.msl 2 lo0p 0 (List.length aB))), (1, (eI n1)), (2, (.fn (.func cmp2_f) cmp2_a cmp2_c)), (6, (eI aP)), (7, (eI a7)), (8, (eI b8))] ∧ aO ⟨H0, [lo0p], []⟩ H [(lo0p, 2, List.map aD aB)] ∧ List.length aB = N0 ∧ iM cmp2 aB n1 aP a7 b8 = some r) ?_ ⟨aB, (20 : Int), (0 : Int), (20 : Int), .eq (by kernel_rfl), hO, hN, h0⟩
  clear hO hN h0
  rintro T H ⟨aB, aP, a7, b8, hT, hO, hN, h0⟩
  refine bB hT ?_
  clear hT
  unfold iM at h0
  obtain ⟨rr0, hl0, h0⟩ := aU h0
  refine cD (by kernel_rfl) (fun (s : List aA × Int × Int) T H => Has T [(0, (.msl 2 lo0p 0 (List.length s.1))), (1, (eI n1)), (2, (.fn (.func cmp2_f) cmp2_a cmp2_c)), (6, (eI aP)), (7, (eI s.2.1)), (8, (eI s.2.2))] ∧ aO ⟨H0, [lo0p], []⟩ H [(lo0p, 2, List.map aD s.1)] ∧ List.length s.1 = N0) hl0 ⟨.eq (by kernel_rfl), hO, hN⟩ ?_
  clear hO hN
  rintro k0 s out1 T H ⟨hT, hO, hN⟩ h1 ho0
  obtain ⟨aB, a7, b8⟩ := s
  replace h1 : hM cmp2 n1 aP aB a7 b8 = some out1 := h1
  try dsimp only at hT
  refine bB hT ?_
  clear hT
  unfold hM at h1
  refine aQ ?_
  refine aY aH 3 [] [(13, (aL (decide (b8 ≤ n1))))] ?_
  refine bL h1 (fun h1 => ?_) (fun h1 => ?_)
  · refine bN ?_
    refine bD [(0, (.msl 2 lo0p 0 (List.length aB))), (1, (eI n1)), (2, (.fn (.func cmp2_f) cmp2_a cmp2_c)), (6, (eI aP)), (7, (eI a7)), (8, (eI b8))] ?_
    refine bR 1 ?_
    refine aQ ?_
    refine aT aH 5 ?_
    refine bH 4 ?_
    obtain ⟨x14, hx15, h1⟩ := aU h1
    refine pG [(lo0p, 2, List.map aD x14)] 0 (nU lo0p aB a7 b8 cmp2_f cmp2_a cmp2_c cmp2 cmp2_h _ hx15) hO ?_
    intro H hO hl16
    simp only [List.length_map] at hl16
    replace hN := hl16.trans hN
    refine cJ ?_
    refine cS (l := [(0, (.msl 2 lo0p 0 (List.length x14))), (1, (eI n1)), (2, (.fn (.func cmp2_f) cmp2_a cmp2_c)), (6, (eI aP)), (8, (eI b8))]) ⟨[(0, (.msl 2 lo0p 0 (List.length aB))), (1, (eI n1)), (2, (.fn (.func cmp2_f) cmp2_a cmp2_c)), (6, (eI aP)), (8, (eI b8))], by kernel_rfl, rfl, ⟨aX.eq (by simp [hl16]), aX.refl _, aX.refl _, aX.refl _, aX.refl _, trivial⟩⟩ ?_
    refine aK (aJ (?_))
    refine aY aH 2 [] [(7, (eI b8))] ?_
    refine aT aH 4 ?_
    refine bC ?_
    exact aK (aZ (aJ (⟨rfl, _, (oI h1).symm, .eq (by kernel_rfl), hO, hN⟩)))
  refine eC 0 ?_
  obtain rfl := oI h1
  obtain rfl : _ = rr0 := ho0
  replace h0 : fB cmp2 aB n1 aP a7 = some r := h0
  exact aK (aW (aW (bO (aJ (⟨rfl, _, _, _, .eq (by kernel_rfl), hO, hN, h0⟩)))))

theorem sO (lo0p : Nat) (x0 : (List aA)) (cmp1_f : Nat) (cmp1_a cmp1_c : List V) (cmp1 : aA → aA → Option Int) (cmp1_h : ∀ a0 a1 r, cmp1 a0 a1 = some r → bS Try.prog cmp1_f (cmp1_a ++ [(aD a0), (aD a1)] ++ cmp1_c) (eI r)) (r : List aA) (h0 : dB x0 cmp1 = some r) : lO Try.prog 112 lo0p 2 (List.map aD x0) (List.map aD r) [(.msl 2 lo0p 0 (List.length x0)), (.fn (.func cmp1_f) cmp1_a cmp1_c)] (.tup []) := by
  intro H0 hl0
  refine cI Try.func112 ?_
  have hO := aO.rK hl0
  clear hl0
  obtain ⟨N0, hN0⟩ : ∃ n, n = List.length x0 := ⟨_, rfl⟩
  have hN : List.length x0 = N0 := hN0.symm
  unfold dB at h0
  refine aT aH 5 ?_
  refine bH 4 ?_
  obtain ⟨x1, hx2, h0⟩ := aU h0
  refine pG [(lo0p, 2, List.map aD x1)] 0 (yI lo0p x0 (lN x0) cmp1_f cmp1_a cmp1_c cmp1 cmp1_h _ hx2) hO ?_
  intro H hO hl3
  simp only [List.length_map] at hl3
  replace hN := hl3.trans hN
  refine cJ ?_
  refine cS (l := [(0, (.msl 2 lo0p 0 (List.length x1)))]) ⟨[(0, (.msl 2 lo0p 0 (List.length x0)))], by kernel_rfl, rfl, ⟨aX.eq (by simp [hl3]), trivial⟩⟩ ?_
  obtain rfl := oI h0
  exact aK (rU (x := (.tup [])) (by kernel_rfl) (aX.refl _) ⟨rfl, hO.ext, hO.at 0 (by kernel_rfl), by simp only [List.length_map]; exact hN.trans hN0⟩)

theorem RG (a0 : aA) (b1 : aA) (r : Int) (h0 : nP a0 b1 = some r) : bS Try.prog 113 [(aD a0), (aD b1)] (eI r) := by
  intro H0
  refine cI Try.func113 ?_
  have hO := aO.start H0
  unfold nP at h0
  refine aQ ?_
  refine aT aH 3 ?_
  refine gW 2 (aD a0) (by kernel_rfl) (by kernel_rfl) ?_
  refine gW 2 (aD b1) (by kernel_rfl) (by kernel_rfl) ?_
  refine bC ?_
  refine bD [(2, (.rp (aD a0))), (3, (.rp (aD b1)))] ?_
  refine aQ ?_
  refine aT aH 6 ?_
  refine bH 4 ?_
  obtain ⟨x1, hx2, h0⟩ := aU h0
  refine cH (wD a0.At b1.At _ hx2) hO ?_
  intro H hO
  refine bC ?_
  refine bD [(4, (eI x1))] ?_
  refine bI ?_
  obtain rfl := oI h0
  exact aK (Q_r hO)

theorem zB (f0 : (List aA)) (r : Bool) (h0 : oN f0 = some r) : bS Try.prog 68 [(eL aD f0)] (aL r) := by
  intro H0
  refine cI Try.func68 ?_
  have hO := aO.start H0
  unfold oN at h0
  refine aY aH 1 [] [] ?_
  refine aQ ?_
  refine aY aH 3 [] [(8, (aL (decide ((1024 : Int) < (lN f0)))))] ?_
  refine bL h0 (fun h0 => ?_) (fun h0 => ?_)
  · refine bV aH 1 [(2, (aL false))] ?_
    refine bI ?_
    obtain rfl := oI h0
    exact aK (bA (Q_r hO))
  refine bN ?_
  refine bD [(0, (eL aD f0))] ?_
  refine aY aH 1 [] [(3, (eI (-2 : Int)))] ?_
  refine dG (fun T H => Has T [] ∧ aO ⟨H0, [], []⟩ H [] ∧ wI  = some r) ?_ ?_
  · clear hO h0
    rintro T H ⟨hT, hO, h0⟩
    refine bB hT ?_
    clear hT
    unfold wI at h0
    refine bV aH 1 [(2, (aL true))] ?_
    refine bI ?_
    obtain rfl := oI h0
    exact aK (Q_r hO)
  refine aY aH 3 [0] [(9, (eL aD f0)), (10, (eI (lN f0))), (11, (eI (0 : Int)))] ?_
  refine bR 0 ?_
  refine cW [(3, (eI (-2 : Int))), (9, (eL aD f0)), (10, (eI (lN f0))), (11, (eI (0 : Int)))] ?_
  refine cP (fun T H => ∃ rS : Int, ∃ t9 : (List aA), ∃ t10 : Int, ∃ t11 : Int, Has T [(3, (eI rS)), (9, (eL aD t9)), (10, (eI t10)), (11, (eI t11))] ∧ aO ⟨H0, [], []⟩ H [] ∧ zT rS t9 t10 t11 = some r) ?_ ⟨(-2 : Int), f0, (lN f0), (0 : Int), .eq (by kernel_rfl), hO, h0⟩
  clear hO h0
  rintro T H ⟨rS, t9, t10, t11, hT, hO, h0⟩
  refine bB hT ?_
  clear hT
  unfold zT at h0
  obtain ⟨rr0, hl0, h0⟩ := aU h0
  refine cD (by kernel_rfl) (fun (s : Int × Int) T H => Has T [(3, (eI s.1)), (9, (eL aD t9)), (10, (eI t10)), (11, (eI s.2))] ∧ aO ⟨H0, [], []⟩ H []) hl0 ⟨.eq (by kernel_rfl), hO⟩ ?_
  clear hO
  rintro k0 s out1 T H ⟨hT, hO⟩ h1 ho0
  obtain ⟨rS, t11⟩ := s
  replace h1 : mP t9 t10 rS t11 = some out1 := h1
  try dsimp only at hT
  refine bB hT ?_
  clear hT
  unfold mP at h1
  refine aY aH 1 [] [(12, (aL (decide (t11 < t10))))] ?_
  refine aQ ?_
  refine bL h1 (fun h1 => ?_) (fun h1 => ?_)
  · refine bN ?_
    refine bD [(3, (eI rS)), (9, (eL aD t9)), (10, (eI t10)), (11, (eI t11))] ?_
    refine aQ ?_
    refine bR 1 ?_
    refine aQ ?_
    refine aT aH 4 ?_
    obtain ⟨c3, h1⟩ := bM h1
    refine sC 2 [0 ≤ t11 ∧ t11 < (lN t9)] ⟨c3, trivial⟩ ?_
    refine mV 2 (aD (aA.mk 0 0)) (by kernel_rfl) (by kernel_rfl) hO ?_
    intro lo4 H hO
    refine jJ 0 lo4 2 0 (aD (aA.mk 0 0)) (aD (gD t9 t11)) [(aD (aA.mk 0 0))] [(lo4, 2, [(aD (gD t9 t11))])] hO rfl (by kernel_rfl) ?_
    intro H hO
    refine cJ ?_
    refine bP [] [(5, (.lp lo4 0 0))] ?_
    refine aQ ?_
    refine aQ ?_
    refine aT aH 20 ?_
    refine bH 1 ?_
    refine jN 0 lo4 2 0 (aD (gD t9 t11)) (eI ((gD t9 t11).At)) [(aD (gD t9 t11))] hO rfl ?_
    refine bH 6 ?_
    refine zN [(19, false)] 0 lo4 2 0 (aD (gD t9 t11)) (eI ((gD t9 t11).At)) [(aD (gD t9 t11))] (by kernel_rfl) (by kernel_rfl) hO (by kernel_rfl) (!(decide (((gD t9 t11).At) ≤ rS))) (by kernel_rfl) (fun hb5 => rfl) ?_
    refine bH 11 ?_
    refine zN [(24, false)] 0 lo4 2 0 (aD (gD t9 t11)) (eI ((gD t9 t11).Net)) [(aD (gD t9 t11))] (by kernel_rfl) (by kernel_rfl) hO (by kernel_rfl) (!((decide (((gD t9 t11).At) ≤ rS)) || (decide ((1125899906842624 : Int) ≤ ((gD t9 t11).At))))) (by kernel_rfl) (fun hb6 => rfl) ?_
    refine bH 16 ?_
    refine zN [(29, false)] 0 lo4 2 0 (aD (gD t9 t11)) (eI ((gD t9 t11).Net)) [(aD (gD t9 t11))] (by kernel_rfl) (by kernel_rfl) hO (by kernel_rfl) (!(((decide (((gD t9 t11).At) ≤ rS)) || (decide ((1125899906842624 : Int) ≤ ((gD t9 t11).At)))) || (decide (((gD t9 t11).Net) = (0 : Int))))) (by kernel_rfl) (fun hb7 => rfl) ?_
    obtain ⟨x8, hx9, h1⟩ := aU h1
    refine fV [(29, false)] 109 [(eI ((gD t9 t11).Net))] (aL x8) (!(((decide (((gD t9 t11).At) ≤ rS)) || (decide ((1125899906842624 : Int) ≤ ((gD t9 t11).At)))) || (decide (((gD t9 t11).Net) = (0 : Int))))) (by kernel_rfl) (by kernel_rfl) (by kernel_rfl) (fun hb10 => (KI ((gD t9 t11).Net) _ (iU hx9 hb10))) hO ?_
    intro H hO
    refine bC ?_
    refine bP [3] [(34, (aL ((((decide (((gD t9 t11).At) ≤ rS)) || (decide ((1125899906842624 : Int) ≤ ((gD t9 t11).At)))) || (decide (((gD t9 t11).Net) = (0 : Int)))) || (!x8))))] ?_
    refine bL h1 (fun h1 => ?_) (fun h1 => ?_)
    · refine aQ ?_
      refine aT aH 1 ?_
      refine bC ?_
      refine dK [(2, (aL false))] ?_
      replace hO := hO.pick (L' := []) [] (by decide) (by kernel_rfl)
      refine aK (aJ (?_))
      refine bI ?_
      obtain rfl := oI h1
      obtain rfl : _ = rr0 := ho0
      replace h0 : some false = some r := h0
      obtain rfl := oI h0
      exact aK (bA (bY (bA (bA (bY (bA (Q_r hO)))))))
    refine bN ?_
    refine bD [(5, (.lp lo4 0 0)), (9, (eL aD t9)), (10, (eI t10)), (11, (eI t11))] ?_
    refine aT aH 3 ?_
    refine bH 1 ?_
    refine jN 0 lo4 2 0 (aD (gD t9 t11)) (eI ((gD t9 t11).At)) [(aD (gD t9 t11))] hO rfl ?_
    refine bC ?_
    refine dK [(3, (eI ((gD t9 t11).At))), (9, (eL aD t9)), (10, (eI t10)), (11, (eI t11))] ?_
    replace hO := hO.pick (L' := []) [] (by decide) (by kernel_rfl)
    refine aK (aZ (aJ (?_)))
    refine aT aH 2 ?_
    refine bC ?_
    exact aK (aJ (⟨rfl, _, (oI h1).symm, .eq (by kernel_rfl), hO⟩))
  refine eC 0 ?_
  obtain rfl := oI h1
  obtain rfl : _ = rr0 := ho0
  replace h0 : wI  = some r := h0
  exact aK (aW (aW (bO (aJ (⟨rfl, .eq (by kernel_rfl), hO, h0⟩)))))

theorem JY (f0 : (List aA)) (r : ((List aA) × Int)) (h0 : rL f0 = some r) : bS Try.prog 114 [(eL aD f0)] (.tup [(eL aD r.1), (eI r.2)]) := by
  intro H0
  refine cI Try.func114 ?_
  have hO := aO.start H0
  unfold rL at h0
  refine aY aH 2 [] [] ?_
  refine aQ ?_
  refine aQ ?_
  refine aT aH 3 ?_
  refine bH 1 ?_
  obtain ⟨x1, hx2, h0⟩ := aU h0
  refine cH (zB f0 _ hx2) hO ?_
  intro H hO
  refine bC ?_
  refine bP [] [(6, (aL (!x1)))] ?_
  refine bL h0 (fun h0 => ?_) (fun h0 => ?_)
  · refine bV aH 2 [(2, (.sl true 0 (fun _ => .bad))), (3, (eI (7 : Int)))] ?_
    refine bI ?_
    refine cS (l := [(2, (eL aD ([]))), (3, (eI (7 : Int)))]) ⟨[(2, (.sl true 0 (fun _ => .bad))), (3, (eI (7 : Int)))], by kernel_rfl, rfl, ⟨fG, aX.refl _, trivial⟩⟩ ?_
    obtain rfl := oI h0
    exact aK (bA (Q_r hO))
  refine bN ?_
  refine bD [(0, (eL aD f0))] ?_
  refine bV aH 3 [(2, (eL aD f0)), (3, (eI (0 : Int)))] ?_
  refine bI ?_
  obtain rfl := oI h0
  exact aK (Q_r hO)

theorem WO (l0 : (List aA)) (r : ((List aA) × Int)) (h0 : wL l0 = some r) : bS Try.prog 67 [(eL aD l0)] (.tup [(eL aD r.1), (eI r.2)]) := by
  intro H0
  refine cI Try.func67 ?_
  have hO := aO.start H0
  unfold wL at h0
  refine aY aH 2 [] [] ?_
  refine aQ ?_
  refine aQ ?_
  refine aT aH 2 ?_
  refine bH 1 ?_
  obtain ⟨x1, hx2, h0⟩ := aU h0
  refine cH (nI l0 108 [] [] (fun y0 => tA y0) (fun y0 r h => RB y0 r h) _ hx2) hO ?_
  intro H hO
  refine cJ ?_
  refine bP [] [(9, (aL x1))] ?_
  refine bL h0 (fun h0 => ?_) (fun h0 => ?_)
  · refine bV aH 2 [(2, (.sl true 0 (fun _ => .bad))), (3, (eI (2 : Int)))] ?_
    refine bI ?_
    refine cS (l := [(2, (eL aD ([]))), (3, (eI (2 : Int)))]) ⟨[(2, (.sl true 0 (fun _ => .bad))), (3, (eI (2 : Int)))], by kernel_rfl, rfl, ⟨fG, aX.refl _, trivial⟩⟩ ?_
    obtain rfl := oI h0
    exact aK (bA (Q_r hO))
  refine bN ?_
  refine bD [(0, (eL aD l0))] ?_
  refine aQ ?_
  refine aQ ?_
  refine aT aH 2 ?_
  refine bH 1 ?_
  obtain ⟨x5, hx6, h0⟩ := aU h0
  refine cH (nI l0 110 [] [] (fun y0 => tM y0) (fun y0 r h => RF y0 r h) _ hx6) hO ?_
  intro H hO
  refine cJ ?_
  refine bP [] [(11, (aL x5))] ?_
  refine bL h0 (fun h0 => ?_) (fun h0 => ?_)
  · refine bV aH 2 [(2, (.sl true 0 (fun _ => .bad))), (3, (eI (13 : Int)))] ?_
    refine bI ?_
    refine cS (l := [(2, (eL aD ([]))), (3, (eI (13 : Int)))]) ⟨[(2, (.sl true 0 (fun _ => .bad))), (3, (eI (13 : Int)))], by kernel_rfl, rfl, ⟨fG, aX.refl _, trivial⟩⟩ ?_
    obtain rfl := oI h0
    exact aK (bA (Q_r hO))
  refine bN ?_
  refine bD [(0, (eL aD l0))] ?_
  refine aQ ?_
  refine aT aH 3 ?_
  refine bH 1 ?_
  obtain ⟨x9, hx10, h0⟩ := aU h0
  refine OY (L' := fun lo11 => [(lo11, 2, List.map aD x9)]) 2 (List.map aD x9) 111 [(eL aD l0)] (fun lo11 => (.msl 2 lo11 0 (List.length x9))) (by kernel_rfl) (by kernel_rfl) (qB l0 _ hx10) hO (fun _ => by kernel_rfl) ?_
  intro lo11 H hO
  refine bC ?_
  refine bD [(4, (.msl 2 lo11 0 (List.length x9)))] ?_
  refine aQ ?_
  refine aT aH 2 ?_
  refine bH 1 ?_
  obtain ⟨x12, hx13, h0⟩ := aU h0
  refine pG [(lo11, 2, List.map aD x12)] 0 (sO lo11 x9 113 [] [] (fun y0 y1 => nP y0 y1) (fun y0 y1 r h => RG y0 y1 r h) _ hx13) hO ?_
  intro H hO hl14
  simp only [List.length_map] at hl14
  refine cJ ?_
  refine cS (l := [(4, (.msl 2 lo11 0 (List.length x12)))]) ⟨[(4, (.msl 2 lo11 0 (List.length x9)))], by kernel_rfl, rfl, ⟨aX.eq (by simp [hl14]), trivial⟩⟩ ?_
  refine aK (aJ (?_))
  refine aQ ?_
  refine aT aH 2 ?_
  refine rV (xs := []) (k := 2) (by kernel_rfl) (by kernel_rfl) ?_
  refine bC ?_
  refine bP [] [(5, (.sl true 0 (fun _ => .bad)))] ?_
  refine dG (fun T H => ∃ out5 : List aA, ∃ lo15 : Nat, Has T [(5, (.msl 2 lo15 0 (List.length out5)))] ∧ aO ⟨H0, [], []⟩ H [(lo15, 2, List.map aD out5)] ∧ uL out5 = some r) ?_ ?_
  · clear hO h0
    rintro T H ⟨out5, lo15, hT, hO, h0⟩
    refine bB hT ?_
    clear hT
    unfold uL at h0
    refine aQ ?_
    refine aT aH 6 ?_
    refine AL (e := aD) out5 0 5 2 lo15 (List.length out5) [] (by kernel_rfl) hO (by kernel_rfl) (by kernel_rfl) (by kernel_rfl) (by kernel_rfl) ?_
    intro H hO
    refine bH 1 ?_
    obtain ⟨x16, hx17, h0⟩ := aU h0
    refine cH (JY out5 _ hx17) hO ?_
    intro H hO
    refine bC ?_
    refine bD [(2, (eL aD x16.1)), (3, (eI x16.2))] ?_
    refine bI ?_
    obtain rfl := oI h0
    exact aK (Q_r hO)
  refine aY aH 1 [] [(6, (eI (0 : Int)))] ?_
  refine bR 0 ?_
  refine cW [(4, (.msl 2 lo11 0 (List.length x12))), (5, (.sl true 0 (fun _ => .bad))), (6, (eI (0 : Int)))] ?_
  refine IT (el := (fun _ => .bad)) 1 5 2 hO (by kernel_rfl) ?_
  intro lo40 H41 hO
  refine cP (fun T H => ∃ all4 : List aA, ∃ out5 : List aA, ∃ i6 : Int, ∃ lo21 : Nat, ∃ lo22 : Nat, Has T [(4, (.msl 2 lo21 0 (List.length all4))), (5, (.msl 2 lo22 0 (List.length out5))), (6, (eI i6))] ∧ aO ⟨H0, [], []⟩ H [(lo21, 2, List.map aD all4), (lo22, 2, List.map aD out5)] ∧ yJ all4 out5 i6 = some r) ?_ ⟨x12, ([] : List aA), (0 : Int), lo11, lo40, .eq (by kernel_rfl), hO, h0⟩
  clear hO h0
  rintro T H ⟨all4, out5, i6, lo21, lo22, hT, hO, h0⟩
  refine bB hT ?_
  clear hT
  unfold yJ at h0
  obtain ⟨rr0, hl0, h0⟩ := aU h0
  refine cD (by kernel_rfl) (fun (s : List aA × List aA × Int) T H => ∃ lo21 : Nat, ∃ lo22 : Nat, Has T [(4, (.msl 2 lo21 0 (List.length s.1))), (5, (.msl 2 lo22 0 (List.length s.2.1))), (6, (eI s.2.2))] ∧ aO ⟨H0, [], []⟩ H [(lo21, 2, List.map aD s.1), (lo22, 2, List.map aD s.2.1)]) hl0 ⟨lo21, lo22, .eq (by kernel_rfl), hO⟩ ?_
  clear hO
  rintro k0 s out1 T H ⟨lo21, lo22, hT, hO⟩ h1 ho0
  obtain ⟨all4, out5, i6⟩ := s
  replace h1 : lU all4 out5 i6 = some out1 := h1
  try dsimp only at hT
  refine bB hT ?_
  clear hT
  unfold lU at h1
  refine aQ ?_
  refine aY aH 4 [] [(20, (aL (decide (i6 < (lN all4)))))] ?_
  refine bL h1 (fun h1 => ?_) (fun h1 => ?_)
  · refine bN ?_
    refine bD [(4, (.msl 2 lo21 0 (List.length all4))), (5, (.msl 2 lo22 0 (List.length out5))), (6, (eI i6))] ?_
    refine bR 1 ?_
    refine aQ ?_
    refine aT aH 8 ?_
    obtain ⟨c24, h1⟩ := bM h1
    refine sC 4 [0 ≤ i6 ∧ i6 < (lN all4)] ⟨c24, trivial⟩ ?_
    refine jN 0 lo21 2 (0 + Int.toNat i6) (aD (gD all4 i6)) (eI ((gD all4 i6).At)) (List.map aD all4) hO (cR c24) ?_
    refine bH 6 ?_
    refine mV 2 (aD (aA.mk 0 0)) (by kernel_rfl) (by kernel_rfl) hO ?_
    intro lo25 H hO
    refine jJ 2 lo25 2 0 (aD (aA.mk 0 0)) (aD (aA.mk ((gD all4 i6).At) 0)) [(aD (aA.mk 0 0))] [(lo21, 2, List.map aD all4), (lo22, 2, List.map aD out5), (lo25, 2, [(aD (aA.mk ((gD all4 i6).At) 0))])] hO rfl (by kernel_rfl) ?_
    intro H hO
    refine cJ ?_
    refine bP [] [(7, (.lp lo25 0 0))] ?_
    refine dG (fun T H => ∃ all4 : List aA, ∃ out5 : List aA, ∃ i6 : Int, ∃ j7 : aA, ∃ lo26 : Nat, ∃ lo27 : Nat, Has T [(4, (.msl 2 lo26 0 (List.length all4))), (5, (.msl 2 lo27 0 (List.length out5))), (6, (eI i6)), (7, (.lp lo25 0 0))] ∧ aO ⟨H0, [], []⟩ H [(lo26, 2, List.map aD all4), (lo27, 2, List.map aD out5), (lo25, 2, [(aD j7)])] ∧ vK all4 out5 i6 j7 = some out1) ?_ ?_
    · clear hO h1
      rintro T H ⟨all4, out5, i6, j7, lo26, lo27, hT, hO, h1⟩
      refine bB hT ?_
      clear hT
      unfold vK at h1
      refine aQ ?_
      refine aT aH 8 ?_
      refine bH 1 ?_
      refine jN 2 lo25 2 0 (aD j7) (eI j7.Net) [(aD j7)] hO rfl ?_
      refine bH 5 ?_
      refine zN [(55, true)] 2 lo25 2 0 (aD j7) (eI j7.At) [(aD j7)] (by kernel_rfl) (by kernel_rfl) hO (by kernel_rfl) (!decide (j7.Net = (0 : Int))) (by kernel_rfl) (fun hb28 => rfl) ?_
      refine bC ?_
      refine bP [] [(59, (aL ((!decide (j7.Net = (0 : Int))) && (decide (j7.At < (1125899906842624 : Int))))))] ?_
      refine bL h1 (fun h1 => ?_) (fun h1 => ?_)
      · refine aT aH 5 ?_
        refine bH 1 ?_
        refine jN 2 lo25 2 0 (aD j7) (aD j7) [(aD j7)] hO rfl ?_
        refine rV (xs := [(aD j7)]) (k := 2) (by kernel_rfl) (by kernel_rfl) ?_
        obtain ⟨c31, h1⟩ := bM h1
        refine BR (e := aD) out5 ([j7]) 1 lo27 2 16 (dW [(aD j7)]) (fun lo30 => [(lo26, 2, List.map aD all4), (lo30, 2, List.map aD (out5 ++ ([j7]))), (lo25, 2, [(aD j7)])]) (by kernel_rfl) (by kernel_rfl) hO (by kernel_rfl) (by kernel_rfl) c31 (fun _ => by kernel_rfl) ?_
        intro lo30 H hO
        refine bC ?_
        replace hO := hO.pick (L' := [(lo26, 2, List.map aD all4), (lo30, 2, List.map aD (out5 ++ ([j7])))]) [0, 1] (by decide) (by kernel_rfl)
        exact aK (aZ (aJ (⟨rfl, _, (oI h1).symm, _, _, .eq (by kernel_rfl), hO⟩)))
      refine bN ?_
      replace hO := hO.pick (L' := [(lo26, 2, List.map aD all4), (lo27, 2, List.map aD out5)]) [0, 1] (by decide) (by kernel_rfl)
      exact aK (aZ (aJ (⟨rfl, _, (oI h1).symm, _, _, .eq (by kernel_rfl), hO⟩)))
    refine bR 2 ?_
    refine cW [(4, (.msl 2 lo21 0 (List.length all4))), (5, (.msl 2 lo22 0 (List.length out5))), (6, (eI i6)), (7, (.lp lo25 0 0))] ?_
    refine cP (fun T H => ∃ all4 : List aA, ∃ out5 : List aA, ∃ i6 : Int, ∃ j7 : aA, ∃ lo34 : Nat, ∃ lo35 : Nat, Has T [(4, (.msl 2 lo34 0 (List.length all4))), (5, (.msl 2 lo35 0 (List.length out5))), (6, (eI i6)), (7, (.lp lo25 0 0))] ∧ aO ⟨H0, [], []⟩ H [(lo34, 2, List.map aD all4), (lo35, 2, List.map aD out5), (lo25, 2, [(aD j7)])] ∧ yM all4 out5 i6 j7 = some out1) ?_ ⟨all4, out5, i6, aA.mk ((gD all4 i6).At) 0, lo21, lo22, .eq (by kernel_rfl), hO, h1⟩
    clear hO h1
    rintro T H ⟨all4, out5, i6, j7, lo34, lo35, hT, hO, h1⟩
    refine bB hT ?_
    clear hT
    unfold yM at h1
    obtain ⟨rr1, hl1, h1⟩ := aU h1
    refine cD (by kernel_rfl) (fun (s : List aA × List aA × Int × aA) T H => ∃ lo34 : Nat, ∃ lo35 : Nat, Has T [(4, (.msl 2 lo34 0 (List.length s.1))), (5, (.msl 2 lo35 0 (List.length s.2.1))), (6, (eI s.2.2.1)), (7, (.lp lo25 0 0))] ∧ aO ⟨H0, [], []⟩ H [(lo34, 2, List.map aD s.1), (lo35, 2, List.map aD s.2.1), (lo25, 2, [(aD s.2.2.2)])]) hl1 ⟨lo34, lo35, .eq (by kernel_rfl), hO⟩ ?_
    clear hO
    rintro k1 s out2 T H ⟨lo34, lo35, hT, hO⟩ h2 ho1
    obtain ⟨all4, out5, i6, j7⟩ := s
    replace h2 : jV all4 out5 i6 j7 = some out2 := h2
    try dsimp only at hT
    refine bB hT ?_
    clear hT
    unfold jV at h2
    refine aQ ?_
    refine aQ ?_
    obtain ⟨c36, h2⟩ := bM h2
    refine jT (jS []) aH 14 ?_
    refine IW (K := fun T H => Has (lift T) [(4, (.msl 2 lo34 0 (List.length all4))), (5, (.msl 2 lo35 0 (List.length out5))), (6, (eI i6)), (7, (.lp lo25 0 0)), (40, (aL ((decide (i6 < (lN all4))) && (decide (((gD all4 i6).At) = j7.At)))))] ∧ aO ⟨H0, [], []⟩ H [(lo34, 2, List.map aD all4), (lo35, 2, List.map aD out5), (lo25, 2, [(aD j7)])]) ?_ ?_
    · refine sD 5 ?_
      refine JI (t := 31) (e := decide (i6 < (lN all4))) (by kernel_rfl) (fun hg37 => ?_) (fun hg37 => ?_)
      · refine dP 9 [0 ≤ i6 ∧ i6 < (lN all4)] ⟨(c36 hg37), trivial⟩ ?_
        refine BU 0 lo34 2 (0 + Int.toNat i6) (aD (gD all4 i6)) (eI ((gD all4 i6).At)) (List.map aD all4) (by kernel_rfl) (by kernel_rfl) (by kernel_rfl) hO (by kernel_rfl) (cR (c36 hg37)) ?_
        refine sD 11 ?_
        refine BU 2 lo25 2 0 (aD j7) (eI j7.At) [(aD j7)] (by kernel_rfl) (by kernel_rfl) (by kernel_rfl) hO (by kernel_rfl) rfl ?_
        refine qL ?_
        exact ⟨⟨[(4, (.msl 2 lo34 0 (List.length all4))), (5, (.msl 2 lo35 0 (List.length out5))), (6, (eI i6)), (7, (.lp lo25 0 0)), (40, (aL (decide (((gD all4 i6).At) = j7.At))))], by kernel_rfl, rfl, ⟨aX.refl _, aX.refl _, aX.refl _, aX.refl _, aX.eq (congrArg aL (JL hg37 rfl).symm), trivial⟩⟩, hO⟩
      refine qL ?_
      exact ⟨⟨[(4, (.msl 2 lo34 0 (List.length all4))), (5, (.msl 2 lo35 0 (List.length out5))), (6, (eI i6)), (7, (.lp lo25 0 0)), (40, (aL false))], by kernel_rfl, rfl, ⟨aX.refl _, aX.refl _, aX.refl _, aX.refl _, aX.eq (congrArg aL (JL hg37 rfl).symm), trivial⟩⟩, hO⟩
    · rintro T H ⟨hT, hO⟩
      refine cS hT ?_
      clear hT
      refine aK (aJ ?_)
      refine bL h2 (fun h2 => ?_) (fun h2 => ?_)
      · refine bN ?_
        refine bD [(4, (.msl 2 lo34 0 (List.length all4))), (5, (.msl 2 lo35 0 (List.length out5))), (6, (eI i6)), (7, (.lp lo25 0 0))] ?_
        refine aQ ?_
        refine bR 3 ?_
        refine jT (jS []) aH 10 ?_
        refine sD 1 ?_
        refine lI 2 lo25 2 0 (aD j7) (eI j7.Net) [(aD j7)] hO rfl ?_
        obtain ⟨c39, h2⟩ := bM h2
        refine dP 6 [0 ≤ i6 ∧ i6 < (lN all4)] ⟨c39, trivial⟩ ?_
        refine lI 0 lo34 2 (0 + Int.toNat i6) (aD (gD all4 i6)) (eI ((gD all4 i6).Net)) (List.map aD all4) hO (cR c39) ?_
        refine sD 9 ?_
        refine sY 2 lo25 2 0 (aD j7) (aD (aA.mk j7.At (wR (j7.Net + ((gD all4 i6).Net))))) [(aD j7)] [(lo34, 2, List.map aD all4), (lo35, 2, List.map aD out5), (lo25, 2, [(aD (aA.mk j7.At (wR (j7.Net + ((gD all4 i6).Net)))))])] hO rfl (by kernel_rfl) ?_
        intro H hO
        refine yK (by kernel_rfl) ?_
        refine dK [(4, (.msl 2 lo34 0 (List.length all4))), (5, (.msl 2 lo35 0 (List.length out5))), (6, (eI i6)), (7, (.lp lo25 0 0))] ?_
        refine aK (aZ (aJ (?_)))
        refine aT aH 3 ?_
        refine bC ?_
        exact aK (aJ (⟨rfl, _, (oI h2).symm, _, _, .eq (by kernel_rfl), hO⟩))
      refine eC 2 ?_
      obtain rfl := oI h2
      obtain rfl : _ = rr1 := ho1
      replace h1 : vK all4 out5 i6 j7 = some out1 := h1
      exact aK (aW (aW (bO (aJ (⟨rfl, _, _, _, _, _, _, .eq (by kernel_rfl), hO, h1⟩)))))
  refine eC 0 ?_
  replace hO := hO.pick (L' := [(lo22, 2, List.map aD out5)]) [1] (by decide) (by kernel_rfl)
  obtain rfl := oI h1
  obtain rfl : _ = rr0 := ho0
  replace h0 : uL out5 = some r := h0
  exact aK (aW (aW (bO (aJ (⟨rfl, _, _, .eq (by kernel_rfl), hO, h0⟩)))))

theorem QY (f0 : (List aA)) (r : ((List aA) × Int)) (h0 : tO f0 = some r) : bS Try.prog 66 [(eL aD f0)] (.tup [(eL aD r.1), (eI r.2)]) := by
  intro H0
  refine cI Try.func66 ?_
  have hO := aO.start H0
  unfold tO at h0
  refine aY aH 2 [] [] ?_
  refine aQ ?_
  refine aT aH 6 ?_
  refine bH 1 ?_
  obtain ⟨x1, hx2, h0⟩ := aU h0
  refine cH (WO f0 _ hx2) hO ?_
  intro H hO
  refine bC ?_
  refine bD [(2, (eL aD x1.1)), (3, (eI x1.2))] ?_
  refine bI ?_
  obtain rfl := oI h0
  exact aK (Q_r hO)

theorem VK (l0 : (List aC)) (r : ((List aC) × Int)) (h0 : wK l0 = some r) : bS Try.prog 28 [(eL aE l0)] (.tup [(eL aE r.1), (eI r.2)]) := by
  intro H0
  refine cI Try.func28 ?_
  have hO := aO.start H0
  unfold wK at h0
  refine aY aH 2 [] [] ?_
  refine aQ ?_
  refine aQ ?_
  refine aT aH 2 ?_
  refine bH 1 ?_
  obtain ⟨x1, hx2, h0⟩ := aU h0
  refine cH (nL l0 56 [] [] (fun y0 => tT y0) (fun y0 r h => RH y0 r h) _ hx2) hO ?_
  intro H hO
  refine cJ ?_
  refine bP [] [(6, (aL x1))] ?_
  refine bL h0 (fun h0 => ?_) (fun h0 => ?_)
  · refine bV aH 2 [(2, (.sl true 0 (fun _ => .bad))), (3, (eI (2 : Int)))] ?_
    refine bI ?_
    refine cS (l := [(2, (eL aE ([]))), (3, (eI (2 : Int)))]) ⟨[(2, (.sl true 0 (fun _ => .bad))), (3, (eI (2 : Int)))], by kernel_rfl, rfl, ⟨fG, aX.refl _, trivial⟩⟩ ?_
    obtain rfl := oI h0
    exact aK (bA (Q_r hO))
  refine bN ?_
  refine bD [(0, (eL aE l0))] ?_
  refine aQ ?_
  refine aQ ?_
  refine aT aH 2 ?_
  refine bH 1 ?_
  obtain ⟨x5, hx6, h0⟩ := aU h0
  refine cH (nL l0 58 [] [] (fun y0 => tE y0) (fun y0 r h => RN y0 r h) _ hx6) hO ?_
  intro H hO
  refine cJ ?_
  refine bP [] [(8, (aL x5))] ?_
  refine bL h0 (fun h0 => ?_) (fun h0 => ?_)
  · refine bV aH 2 [(2, (.sl true 0 (fun _ => .bad))), (3, (eI (13 : Int)))] ?_
    refine bI ?_
    refine cS (l := [(2, (eL aE ([]))), (3, (eI (13 : Int)))]) ⟨[(2, (.sl true 0 (fun _ => .bad))), (3, (eI (13 : Int)))], by kernel_rfl, rfl, ⟨fG, aX.refl _, trivial⟩⟩ ?_
    obtain rfl := oI h0
    exact aK (bA (Q_r hO))
  refine bN ?_
  refine bD [(0, (eL aE l0))] ?_
  refine aQ ?_
  refine aT aH 3 ?_
  refine bH 1 ?_
  obtain ⟨x9, hx10, h0⟩ := aU h0
  refine OY (L' := fun lo11 => [(lo11, 3, List.map aE x9)]) 3 (List.map aE x9) 59 [(eL aE l0)] (fun lo11 => (.msl 3 lo11 0 (List.length x9))) (by kernel_rfl) (by kernel_rfl) (xT l0 _ hx10) hO (fun _ => by kernel_rfl) ?_
  intro lo11 H hO
  refine bC ?_
  refine bD [(4, (.msl 3 lo11 0 (List.length x9)))] ?_
  refine aQ ?_
  refine aT aH 2 ?_
  refine bH 1 ?_
  obtain ⟨x12, hx13, h0⟩ := aU h0
  refine pG [(lo11, 3, List.map aE x12)] 0 (sM lo11 x9 61 [] [] (fun y0 y1 => nM y0 y1) (fun y0 y1 r h => QZ y0 y1 r h) _ hx13) hO ?_
  intro H hO hl14
  simp only [List.length_map] at hl14
  refine cJ ?_
  refine cS (l := [(4, (.msl 3 lo11 0 (List.length x12)))]) ⟨[(4, (.msl 3 lo11 0 (List.length x9)))], by kernel_rfl, rfl, ⟨aX.eq (by simp [hl14]), trivial⟩⟩ ?_
  refine aK (aJ (?_))
  refine aQ ?_
  refine aT aH 6 ?_
  refine AL (e := aE) x12 0 4 3 lo11 (List.length x12) [] (by kernel_rfl) hO (by kernel_rfl) (by kernel_rfl) (by kernel_rfl) (by kernel_rfl) ?_
  intro H hO
  refine bH 1 ?_
  obtain ⟨x15, hx16, h0⟩ := aU h0
  refine cH (GY x12 66 [] [] (fun y0 => tO y0) (fun y0 r h => QY y0 r h) _ hx16) hO ?_
  intro H hO
  refine bC ?_
  refine bD [(2, (eL aE x15.1)), (3, (eI x15.2))] ?_
  refine bI ?_
  obtain rfl := oI h0
  exact aK (Q_r hO)

theorem IE (l0 : (List aI)) (r : ((List aC) × Int)) (h0 : sE l0 = some r) : bS Try.prog 33 [(eL aF l0)] (.tup [(eL aE r.1), (eI r.2)]) := by
  intro H0
  refine cI Try.func33 ?_
  have hO := aO.start H0
  unfold sE at h0
  refine aY aH 2 [] [] ?_
  refine aQ ?_
  refine aQ ?_
  refine aT aH 2 ?_
  refine bH 1 ?_
  obtain ⟨x1, hx2, h0⟩ := aU h0
  refine cH (sN l0 75 [] [] (fun y0 => sH y0) (fun y0 r h => OR y0 r h) _ hx2) hO ?_
  intro H hO
  refine cJ ?_
  refine bP [] [(8, (aL x1))] ?_
  refine bL h0 (fun h0 => ?_) (fun h0 => ?_)
  · refine bV aH 2 [(2, (.sl true 0 (fun _ => .bad))), (3, (eI (2 : Int)))] ?_
    refine bI ?_
    refine cS (l := [(2, (eL aE ([]))), (3, (eI (2 : Int)))]) ⟨[(2, (.sl true 0 (fun _ => .bad))), (3, (eI (2 : Int)))], by kernel_rfl, rfl, ⟨fG, aX.refl _, trivial⟩⟩ ?_
    obtain rfl := oI h0
    exact aK (bA (Q_r hO))
  refine bN ?_
  refine bD [(0, (eL aF l0))] ?_
  refine aQ ?_
  refine aY aH 3 [] [(11, (aL (decide ((4096 : Int) < (lN l0)))))] ?_
  refine bL h0 (fun h0 => ?_) (fun h0 => ?_)
  · refine bV aH 2 [(2, (.sl true 0 (fun _ => .bad))), (3, (eI (7 : Int)))] ?_
    refine bI ?_
    refine cS (l := [(2, (eL aE ([]))), (3, (eI (7 : Int)))]) ⟨[(2, (.sl true 0 (fun _ => .bad))), (3, (eI (7 : Int)))], by kernel_rfl, rfl, ⟨fG, aX.refl _, trivial⟩⟩ ?_
    obtain rfl := oI h0
    exact aK (bA (Q_r hO))
  refine bN ?_
  refine bD [(0, (eL aF l0))] ?_
  refine aQ ?_
  refine aT aH 5 ?_
  refine bH 3 ?_
  obtain ⟨c6, h0⟩ := bM h0
  refine JM 3 40 (wR ((2 : Int) * (lN l0))) (by kernel_rfl) (by kernel_rfl) c6 hO ?_
  intro lo7 H hO
  refine bC ?_
  refine bP [] [(4, (.msl 3 lo7 0 (List.length ([] : List aC))))] ?_
  refine dG (fun T H => ∃ out4 : List aC, ∃ lo8 : Nat, Has T [(4, (.msl 3 lo8 0 (List.length out4)))] ∧ aO ⟨H0, [], []⟩ H [(lo8, 3, List.map aE out4)] ∧ tR out4 = some r) ?_ ?_
  · clear hO h0
    rintro T H ⟨out4, lo8, hT, hO, h0⟩
    refine bB hT ?_
    clear hT
    unfold tR at h0
    refine aQ ?_
    refine aT aH 6 ?_
    refine AL (e := aE) out4 0 4 3 lo8 (List.length out4) [] (by kernel_rfl) hO (by kernel_rfl) (by kernel_rfl) (by kernel_rfl) (by kernel_rfl) ?_
    intro H hO
    refine bH 1 ?_
    obtain ⟨x9, hx10, h0⟩ := aU h0
    refine cH (VK out4 _ hx10) hO ?_
    intro H hO
    refine bC ?_
    refine bD [(2, (eL aE x9.1)), (3, (eI x9.2))] ?_
    refine bI ?_
    obtain rfl := oI h0
    exact aK (Q_r hO)
  refine aY aH 3 [0] [(16, (eL aF l0)), (17, (eI (lN l0))), (18, (eI (0 : Int)))] ?_
  refine bR 0 ?_
  refine cW [(4, (.msl 3 lo7 0 (List.length ([] : List aC)))), (16, (eL aF l0)), (17, (eI (lN l0))), (18, (eI (0 : Int)))] ?_
  refine cP (fun T H => ∃ out4 : List aC, ∃ t16 : (List aI), ∃ t17 : Int, ∃ t18 : Int, ∃ lo13 : Nat, Has T [(4, (.msl 3 lo13 0 (List.length out4))), (16, (eL aF t16)), (17, (eI t17)), (18, (eI t18))] ∧ aO ⟨H0, [], []⟩ H [(lo13, 3, List.map aE out4)] ∧ xL out4 t16 t17 t18 = some r) ?_ ⟨([] : List aC), l0, (lN l0), (0 : Int), lo7, .eq (by kernel_rfl), hO, h0⟩
  clear hO h0
  rintro T H ⟨out4, t16, t17, t18, lo13, hT, hO, h0⟩
  refine bB hT ?_
  clear hT
  unfold xL at h0
  obtain ⟨rr0, hl0, h0⟩ := aU h0
  refine cD (by kernel_rfl) (fun (s : List aC × Int) T H => ∃ lo13 : Nat, Has T [(4, (.msl 3 lo13 0 (List.length s.1))), (16, (eL aF t16)), (17, (eI t17)), (18, (eI s.2))] ∧ aO ⟨H0, [], []⟩ H [(lo13, 3, List.map aE s.1)]) hl0 ⟨lo13, .eq (by kernel_rfl), hO⟩ ?_
  clear hO
  rintro k0 s out1 T H ⟨lo13, hT, hO⟩ h1 ho0
  obtain ⟨out4, t18⟩ := s
  replace h1 : nQ t16 t17 out4 t18 = some out1 := h1
  try dsimp only at hT
  refine bB hT ?_
  clear hT
  unfold nQ at h1
  refine aY aH 1 [] [(19, (aL (decide (t18 < t17))))] ?_
  refine aQ ?_
  refine bL h1 (fun h1 => ?_) (fun h1 => ?_)
  · refine bN ?_
    refine bD [(4, (.msl 3 lo13 0 (List.length out4))), (16, (eL aF t16)), (17, (eI t17)), (18, (eI t18))] ?_
    refine aQ ?_
    refine bR 1 ?_
    refine aQ ?_
    refine aT aH 4 ?_
    obtain ⟨c15, h1⟩ := bM h1
    refine sC 2 [0 ≤ t18 ∧ t18 < (lN t16)] ⟨c15, trivial⟩ ?_
    refine qD 3 (.agg [(.sl true 0 (fun _ => .bad)), (eI 0), (eI 0)]) (aF (aI.mk ([]) (aR.mk 0 0))) (by kernel_rfl) (by kernel_rfl) (by kernel_rfl) (CR (xs := [(.sl true 0 (fun _ => .bad)), (eI 0), (eI 0)]) (ys := [(eL aM ([])), (eI 0), (eI 0)]) ⟨fG, aX.refl _, aX.refl _, trivial⟩) (by kernel_rfl) (by kernel_rfl) hO ?_
    intro lo16 H hO
    refine jJ 1 lo16 3 0 (aF (aI.mk ([]) (aR.mk 0 0))) (aF (gD t16 t18)) [(aF (aI.mk ([]) (aR.mk 0 0)))] [(lo13, 3, List.map aE out4), (lo16, 3, [(aF (gD t16 t18))])] hO rfl (by kernel_rfl) ?_
    intro H hO
    refine cJ ?_
    refine bP [] [(6, (.lp lo16 0 0))] ?_
    refine aT aH 16 ?_
    refine bH 2 ?_
    refine jN 1 lo16 3 0 (aF (gD t16 t18)) (eL aM ((gD t16 t18).Row)) [(aF (gD t16 t18))] hO rfl ?_
    refine bH 5 ?_
    refine jN 1 lo16 3 0 (aF (gD t16 t18)) (eI (((gD t16 t18).Span).From)) [(aF (gD t16 t18))] hO rfl ?_
    refine bH 8 ?_
    refine jN 1 lo16 3 0 (aF (gD t16 t18)) (eL aM ((gD t16 t18).Row)) [(aF (gD t16 t18))] hO rfl ?_
    refine bH 11 ?_
    refine jN 1 lo16 3 0 (aF (gD t16 t18)) (eI (((gD t16 t18).Span).To)) [(aF (gD t16 t18))] hO rfl ?_
    refine bH 13 ?_
    refine rV (xs := [(aE (aC.mk ((gD t16 t18).Row) (((gD t16 t18).Span).From) (1 : Int))), (aE (aC.mk ((gD t16 t18).Row) (((gD t16 t18).Span).To) (-1 : Int)))]) (k := 3) (by kernel_rfl) (by kernel_rfl) ?_
    obtain ⟨c18, h1⟩ := bM h1
    refine BR (e := aE) out4 ([aC.mk ((gD t16 t18).Row) (((gD t16 t18).Span).From) (1 : Int), aC.mk ((gD t16 t18).Row) (((gD t16 t18).Span).To) (-1 : Int)]) 0 lo13 3 40 (dW [(aE (aC.mk ((gD t16 t18).Row) (((gD t16 t18).Span).From) (1 : Int))), (aE (aC.mk ((gD t16 t18).Row) (((gD t16 t18).Span).To) (-1 : Int)))]) (fun lo17 => [(lo17, 3, List.map aE (out4 ++ ([aC.mk ((gD t16 t18).Row) (((gD t16 t18).Span).From) (1 : Int), aC.mk ((gD t16 t18).Row) (((gD t16 t18).Span).To) (-1 : Int)]))), (lo16, 3, [(aF (gD t16 t18))])]) (by kernel_rfl) (by kernel_rfl) hO (by kernel_rfl) (by kernel_rfl) c18 (fun _ => by kernel_rfl) ?_
    intro lo17 H hO
    refine bC ?_
    refine dK [(4, (.msl 3 lo17 0 (List.length (out4 ++ ([aC.mk ((gD t16 t18).Row) (((gD t16 t18).Span).From) (1 : Int), aC.mk ((gD t16 t18).Row) (((gD t16 t18).Span).To) (-1 : Int)]))))), (16, (eL aF t16)), (17, (eI t17)), (18, (eI t18))] ?_
    replace hO := hO.pick (L' := [(lo17, 3, List.map aE (out4 ++ ([aC.mk ((gD t16 t18).Row) (((gD t16 t18).Span).From) (1 : Int), aC.mk ((gD t16 t18).Row) (((gD t16 t18).Span).To) (-1 : Int)])))]) [0] (by decide) (by kernel_rfl)
    refine aK (aZ (aJ (?_)))
    refine aT aH 2 ?_
    refine bC ?_
    exact aK (aJ (⟨rfl, _, (oI h1).symm, _, .eq (by kernel_rfl), hO⟩))
  refine eC 0 ?_
  obtain rfl := oI h1
  obtain rfl : _ = rr0 := ho0
  replace h0 : tR out4 = some r := h0
  exact aK (aW (aW (bO (aJ (⟨rfl, _, _, .eq (by kernel_rfl), hO, h0⟩)))))

theorem JW (l0 : (List aC)) (holds1_f : Nat) (holds1_a holds1_c : List V) (uS : (List aA) → Option Bool) (holds1_h : ∀ a0 r, uS a0 = some r → bS Try.prog holds1_f (holds1_a ++ [(eL aD a0)] ++ holds1_c) (aL r)) (r : Bool) (h0 : tW l0 uS = some r) : bS Try.prog 88 [(eL aE l0), (.fn (.func holds1_f) holds1_a holds1_c)] (aL r) := by
  intro H0
  refine EI aH Try.func88 (by kernel_rfl) (by kernel_rfl) (by kernel_rfl) ?_
  have hO := aO.start H0
  unfold tW at h0
  refine aQ ?_
  refine aT aH 2 ?_
  refine gW 1 (.fn (.func holds1_f) holds1_a holds1_c) (by kernel_rfl) (by kernel_rfl) ?_
  refine mV 1 (aL false) (by kernel_rfl) (by kernel_rfl) hO ?_
  intro lo1 H hO
  refine cJ ?_
  refine bP [1] [(3, (.rp (.fn (.func holds1_f) holds1_a holds1_c))), (4, (.lp lo1 0 0))] ?_
  refine aQ ?_
  refine aY aH 3 [] [(11, (aL (decide ((4096 : Int) < (lN l0)))))] ?_
  refine bL h0 (fun h0 => ?_) (fun h0 => ?_)
  · refine aQ ?_
    refine aT aH 1 ?_
    refine jJ 0 lo1 1 0 (aL false) (aL false) [(aL false)] [(lo1, 1, [(aL false)])] hO rfl (by kernel_rfl) ?_
    intro H hO
    refine cJ ?_
    refine bD [(4, (.lp lo1 0 0))] ?_
    refine bI ?_
    obtain rfl := oI h0
    exact aK (bA (QM0 (.inr rfl) (rs := [.cell 4 4]) (xs := [(aL false)]) (x := (aL false)) (by kernel_rfl) (yE (lo := lo1) (k := 1) (y := (aL false)) (x := (aL false)) 0 hO (by kernel_rfl) (by kernel_rfl) (by kernel_rfl) (by kernel_rfl) rZ) (by kernel_rfl) ⟨rfl, hO.out⟩))
  refine bN ?_
  refine bD [(0, (eL aE l0)), (3, (.rp (.fn (.func holds1_f) holds1_a holds1_c))), (4, (.lp lo1 0 0))] ?_
  refine aQ ?_
  refine aT aH 1 ?_
  refine qD 1 (.sl true 0 (fun _ => .bad)) (eL aM ([])) (by kernel_rfl) (by kernel_rfl) (by kernel_rfl) (fG) (by kernel_rfl) (by kernel_rfl) hO ?_
  intro lo3 H hO
  refine cJ ?_
  refine bP [] [(5, (.lp lo3 0 0))] ?_
  refine aQ ?_
  refine aT aH 2 ?_
  refine mV 1 (aL false) (by kernel_rfl) (by kernel_rfl) hO ?_
  intro lo4 H hO
  refine jJ 2 lo4 1 0 (aL false) (aL false) [(aL false)] [(lo1, 1, [(aL false)]), (lo3, 1, [(eL aM ([]))]), (lo4, 1, [(aL false)])] hO rfl (by kernel_rfl) ?_
  intro H hO
  refine cJ ?_
  refine bP [] [(6, (.lp lo4 0 0))] ?_
  refine aQ ?_
  refine aQ ?_
  refine aT aH 2 ?_
  refine bH 1 ?_
  obtain ⟨x5, hx6, h0⟩ := aU h0
  refine cH (DN l0 _ hx6) hO ?_
  intro H hO
  refine cJ ?_
  refine bP [0] [(13, (.fn (.func 131) [] [(.rp (eL aE x5))]))] ?_
  refine bR 0 ?_
  refine cW [(3, (.rp (.fn (.func holds1_f) holds1_a holds1_c))), (4, (.lp lo1 0 0)), (5, (.lp lo3 0 0)), (6, (.lp lo4 0 0)), (13, (.fn (.func 131) [] [(.rp (eL aE x5))]))] ?_
  refine cP (fun T H => ∃ t4 : Bool, ∃ pF : (List aG), ∃ jK : Bool, ∃ kK : (List aC), Has T [(3, (.rp (.fn (.func holds1_f) holds1_a holds1_c))), (4, (.lp lo1 0 0)), (5, (.lp lo3 0 0)), (6, (.lp lo4 0 0)), (13, (.fn (.func 131) [] [(.rp (eL aE kK))]))] ∧ aO ⟨H0, [], []⟩ H [(lo1, 1, [(aL t4)]), (lo3, 1, [(eL aM pF)]), (lo4, 1, [(aL jK)])] ∧ zI uS t4 pF jK kK = some r) ?_ ⟨false, [], false, x5, .eq (by kernel_rfl), hO, h0⟩
  clear hO h0
  rintro T H ⟨t4, pF, jK, kK, hT, hO, h0⟩
  refine bB (l := [(3, (.rp (.fn (.func holds1_f) holds1_a holds1_c))), (4, (.lp lo1 0 0)), (5, (.lp lo3 0 0)), (6, (.lp lo4 0 0)), (13, (.fn (.func 131) [] [(.rp (eL aE kK))]))]) hT ?_
  clear hT
  unfold zI at h0
  obtain ⟨o0, hl0, h0⟩ := aU h0
  refine CU (fid := 131) (ys := []) (cs := [(.rp (eL aE kK))]) #[14, 15] (fun (A : zV) (b lL : Nat) (st : (Bool × (List aG) × Bool) ⊕ (Bool × (List aG) × Bool)) (G' : Gs) => Sum.elim (fun (s : Bool × (List aG) × Bool) => G' = (lL, .raw (kH b A .ready none)) :: (up [(lo1, 1, [(aL s.1)]), (lo3, 1, [(eL aM s.2.1)]), (lo4, 1, [(aL s.2.2)])] ++ [])) (fun (s : Bool × (List aG) × Bool) => G' = (lL, .raw (kH b A .done (some .ret))) :: (up [(lo1, 1, [(aL s.1)]), (lo3, 1, [(eL aM s.2.1)]), (lo4, 1, [(aL s.2.2)])] ++ [])) st) (.inl (t4, pF, jK)) o0 (.tup []) (by kernel_rfl) (by kernel_rfl) (by kernel_rfl) hO (fun _ _ => rfl) ?_ ?_
  · intro b lL
    clear hO h0
    refine zJ _ b (fun st t14 t15 => rnd (fun (s : Bool × (List aG) × Bool) => qC uS kK s.1 s.2.1 s.2.2 t14 t15) st) ?_ kK _ _ hl0
    intro st t14 t15 out1 rr hr
    obtain ⟨s, rfl, h1, rfl⟩ := UT hr
    clear hr
    intro Hr Gr hi hg
    obtain ⟨t4, pF, jK⟩ := s
    dsimp only [Sum.elim_inl] at hi
    obtain rfl := hi
    replace h1 : qC uS kK t4 pF jK t14 t15 = some out1 := h1
    unfold qC at h1
    obtain ⟨E1, hE, hO⟩ := wH hg
    refine wV (CT (hO.gm 0 _ rfl).2 (by kernel_rfl) (by kernel_rfl) ?_)
    refine cW [(3, (.rp (.fn (.func holds1_f) holds1_a holds1_c))), (4, (.lp lo1 0 0)), (5, (.lp lo3 0 0)), (6, (.lp lo4 0 0)), (13, (.fn (.func 131) [] [(.rp (eL aE kK))])), (14, (eL aM t14)), (15, (eL aD t15))] ?_
    refine aY aH 1 [13, 14] [(7, (eL aM t14))] ?_
    refine aT aH 1 ?_
    refine bC ?_
    refine dK [(3, (.rp (.fn (.func holds1_f) holds1_a holds1_c))), (4, (.lp lo1 0 0)), (5, (.lp lo3 0 0)), (6, (.lp lo4 0 0)), (7, (eL aM t14)), (8, (eL aD t15))] ?_
    refine aK (⟨rfl, rfl, (hO.gm 0 _ rfl).2, ?_⟩)
    intro o1 ho1
    replace hO := hO.wA o1
    refine bR 1 ?_
    refine aQ ?_
    refine aQ ?_
    refine aT aH 18 ?_
    refine bH 1 ?_
    obtain ⟨x7, hx8, h1⟩ := aU h1
    refine cH (AM t14 _ hx8) hO ?_
    intro H hO
    refine bH 4 ?_
    refine zN [(19, false)] 2 lo4 1 0 (aL jK) (aL jK) [(aL jK)] (by kernel_rfl) (by kernel_rfl) hO (by kernel_rfl) (!(!x7)) (by kernel_rfl) (fun hb10 => rfl) ?_
    refine bH 6 ?_
    refine zN [(21, true), (19, false)] 1 lo3 1 0 (eL aM pF) (eL aM pF) [(eL aM pF)] (by kernel_rfl) (by kernel_rfl) hO (by kernel_rfl) (jK && (!(!x7))) (by kernel_rfl) (fun hb11 => rfl) ?_
    refine bH 8 ?_
    obtain ⟨x12, hx13, h1⟩ := aU h1
    refine fV [(21, true), (19, false)] 63 [(eL aM pF), (eL aM t14)] (eI x12) (jK && (!(!x7))) (by kernel_rfl) (by kernel_rfl) (by kernel_rfl) (fun hb14 => (HI pF t14 _ (iU hx13 hb14))) hO ?_
    intro H hO
    refine bH 15 ?_
    obtain ⟨x15, hx16, h1⟩ := aU h1
    refine fV [(28, false)] holds1_f (holds1_a ++ [(eL aD t15)] ++ holds1_c) (aL x15) (!((!x7) || (jK && (decide ((0 : Int) ≤ x12))))) (by kernel_rfl) (by kernel_rfl) (by kernel_rfl) (fun hb17 => (holds1_h t15 _ (iU hx16 hb17))) hO ?_
    intro H hO
    refine bC ?_
    refine bP [3, 8] [(33, (aL (((!x7) || (jK && (decide ((0 : Int) ≤ x12)))) || (!x15))))] ?_
    refine bL h1 (fun h1 => ?_) (fun h1 => ?_)
    · refine aQ ?_
      refine aT aH 1 ?_
      refine jJ 0 lo1 1 0 (aL t4) (aL false) [(aL t4)] [(lo1, 1, [(aL false)]), (lo3, 1, [(eL aM pF)]), (lo4, 1, [(aL jK)])] hO rfl (by kernel_rfl) ?_
      intro H hO
      refine cJ ?_
      refine bP [7, 33] [] ?_
      refine bI ?_
      refine dK [(4, (.lp lo1 0 0)), (5, (.lp lo3 0 0)), (6, (.lp lo4 0 0))] ?_
      obtain rfl := oI h1
      exact aK (bA (bY (⟨(gC hO hE ho1 .dead).1, rfl, _, rfl, (gC hO hE ho1 _).2⟩)))
    refine bN ?_
    refine bD [(4, (.lp lo1 0 0)), (5, (.lp lo3 0 0)), (6, (.lp lo4 0 0)), (7, (eL aM t14))] ?_
    refine aT aH 3 ?_
    refine bH 1 ?_
    refine jJ 1 lo3 1 0 (eL aM pF) (eL aM t14) [(eL aM pF)] [(lo1, 1, [(aL t4)]), (lo3, 1, [(eL aM t14)]), (lo4, 1, [(aL jK)])] hO rfl (by kernel_rfl) ?_
    intro H hO
    refine jJ 2 lo4 1 0 (aL jK) (aL true) [(aL jK)] [(lo1, 1, [(aL t4)]), (lo3, 1, [(eL aM t14)]), (lo4, 1, [(aL true)])] hO rfl (by kernel_rfl) ?_
    intro H hO
    refine cJ ?_
    refine dK [(4, (.lp lo1 0 0)), (5, (.lp lo3 0 0)), (6, (.lp lo4 0 0))] ?_
    obtain rfl := oI h1
    exact aK (aZ (⟨(gC hO hE ho1 .dead).1, rfl, _, rfl, (gC hO hE ho1 _).2⟩))
  · intro b lD19 lL H' G' hi hO
    rcases o0 with s | s
    · dsimp only [Sum.elim_inl] at hi
      obtain rfl := hi
      replace h0 : (some true) = some r := h0
      obtain ⟨hlL, hO⟩ := rH hO
      refine ⟨_, _, hlL, (by intro e; cases e), ?_⟩
      refine dK [(4, (.lp lo1 0 0))] ?_
      replace hO := hO.pick (L' := [(lo1, 1, [(aL s.1)])]) [0] (by decide) (by kernel_rfl)
      refine aK (aZ (aJ (?_)))
      refine aQ ?_
      refine aT aH 1 ?_
      refine jJ 0 lo1 1 0 (aL s.1) (aL true) [(aL s.1)] [(lo1, 1, [(aL true)])] hO rfl (by kernel_rfl) ?_
      intro H hO
      refine cJ ?_
      refine bD [(4, (.lp lo1 0 0))] ?_
      refine bI ?_
      obtain rfl := oI h0
      have hD := (hO.gm 0 _ rfl).2
      replace hO := (hO.wA .dead).vP
      exact aK (QM1 (.inr rfl) hD (rs := [.cell 4 4]) (xs := [(aL true)]) (x := (aL true)) (by kernel_rfl) (yE (lo := lo1) (k := 1) (y := (aL true)) (x := (aL true)) 0 hO (by kernel_rfl) (by kernel_rfl) (by kernel_rfl) (by kernel_rfl) rZ) (by kernel_rfl) ⟨rfl, hO.out⟩)
    · dsimp only [Sum.elim_inr] at hi
      obtain rfl := hi
      replace h0 : (some s.1) = some r := h0
      obtain ⟨hlL, hO⟩ := rH hO
      refine ⟨_, _, hlL, (by intro e; cases e), ?_⟩
      refine bI ?_
      replace hO := hO.pick (L' := [(lo1, 1, [(aL s.1)])]) [0] (by decide) (by kernel_rfl)
      obtain rfl := oI h0
      have hD := (hO.gm 0 _ rfl).2
      replace hO := (hO.wA .dead).vP
      exact aK (bY (bA (QM1 (.inr rfl) hD (rs := [.cell 4 4]) (xs := [(aL s.1)]) (x := (aL s.1)) (by kernel_rfl) (yE (lo := lo1) (k := 1) (y := (aL s.1)) (x := (aL s.1)) 0 hO (by kernel_rfl) (by kernel_rfl) (by kernel_rfl) (by kernel_rfl) rZ) (by kernel_rfl) ⟨rfl, hO.out⟩)))

theorem FM (l0 : (List aC)) (r : Bool) (h0 : sS l0 = some r) : bS Try.prog 49 [(eL aE l0)] (aL r) := by
  intro H0
  refine cI Try.func49 ?_
  have hO := aO.start H0
  unfold sS at h0
  refine aY aH 1 [] [] ?_
  refine aQ ?_
  refine aT aH 3 ?_
  refine bH 1 ?_
  obtain ⟨x1, hx2, h0⟩ := aU h0
  refine cH (JW l0 68 [] [] (fun y0 => oN y0) (fun y0 r h => zB y0 r h) _ hx2) hO ?_
  intro H hO
  refine bC ?_
  refine bD [(2, (aL x1))] ?_
  refine bI ?_
  obtain rfl := oI h0
  exact aK (Q_r hO)

theorem UZ (f0 : (List aA)) (r : Int) (h0 : vL f0 = some r) : bS Try.prog 69 [(eL aD f0)] (eI r) := by
  intro H0
  refine cI Try.func69 ?_
  have hO := aO.start H0
  unfold vL at h0
  refine aY aH 1 [] [] ?_
  refine aQ ?_
  refine aQ ?_
  refine aT aH 8 ?_
  refine bH 1 ?_
  obtain ⟨x1, hx2, h0⟩ := aU h0
  refine cH (zB f0 _ hx2) hO ?_
  intro H hO
  refine bC ?_
  refine bP [] [(14, (aL ((!x1) || (decide ((lN f0) = (0 : Int))))))] ?_
  refine bL h0 (fun h0 => ?_) (fun h0 => ?_)
  · refine bV aH 1 [(2, (eI (0 : Int)))] ?_
    refine bI ?_
    obtain rfl := oI h0
    exact aK (bA (Q_r hO))
  refine bN ?_
  refine bD [(0, (eL aD f0))] ?_
  refine aY aH 2 [] [(3, (eI (0 : Int))), (4, (eI (0 : Int)))] ?_
  refine dG (fun T H => ∃ v3 : Int, ∃ fH : Int, Has T [(0, (eL aD f0)), (3, (eI v3)), (4, (eI fH))] ∧ aO ⟨H0, [], []⟩ H [] ∧ qW f0 v3 fH = some r) ?_ ?_
  · clear hO h0
    rintro T H ⟨v3, fH, hT, hO, h0⟩
    refine bB hT ?_
    clear hT
    unfold qW at h0
    refine dG (fun T H => ∃ fH : Int, Has T [(4, (eI fH))] ∧ aO ⟨H0, [], []⟩ H [] ∧ tF fH = some r) ?_ ?_
    · clear hO h0
      rintro T H ⟨fH, hT, hO, h0⟩
      refine bB hT ?_
      clear hT
      unfold tF at h0
      refine bV aH 2 [(2, (eI fH))] ?_
      refine bI ?_
      obtain rfl := oI h0
      exact aK (Q_r hO)
    refine aY aH 3 [0] [(24, (eL aD f0)), (25, (eI (lN f0))), (26, (eI (0 : Int)))] ?_
    refine bR 0 ?_
    refine cW [(3, (eI v3)), (4, (eI fH)), (24, (eL aD f0)), (25, (eI (lN f0))), (26, (eI (0 : Int)))] ?_
    refine cP (fun T H => ∃ v3 : Int, ∃ fH : Int, ∃ t24 : (List aA), ∃ t25 : Int, ∃ t26 : Int, Has T [(3, (eI v3)), (4, (eI fH)), (24, (eL aD t24)), (25, (eI t25)), (26, (eI t26))] ∧ aO ⟨H0, [], []⟩ H [] ∧ tQ v3 fH t24 t25 t26 = some r) ?_ ⟨v3, fH, f0, (lN f0), (0 : Int), .eq (by kernel_rfl), hO, h0⟩
    clear hO h0
    rintro T H ⟨v3, fH, t24, t25, t26, hT, hO, h0⟩
    refine bB hT ?_
    clear hT
    unfold tQ at h0
    obtain ⟨rr0, hl0, h0⟩ := aU h0
    refine cD (by kernel_rfl) (fun (s : Int × Int × Int) T H => Has T [(3, (eI s.1)), (4, (eI s.2.1)), (24, (eL aD t24)), (25, (eI t25)), (26, (eI s.2.2))] ∧ aO ⟨H0, [], []⟩ H []) hl0 ⟨.eq (by kernel_rfl), hO⟩ ?_
    clear hO
    rintro k0 s out1 T H ⟨hT, hO⟩ h1 ho0
    obtain ⟨v3, fH, t26⟩ := s
    replace h1 : nN t24 t25 v3 fH t26 = some out1 := h1
    try dsimp only at hT
    refine bB hT ?_
    clear hT
    unfold nN at h1
    refine aY aH 1 [] [(27, (aL (decide (t26 < t25))))] ?_
    refine aQ ?_
    refine bL h1 (fun h1 => ?_) (fun h1 => ?_)
    · refine bN ?_
      refine bD [(3, (eI v3)), (4, (eI fH)), (24, (eL aD t24)), (25, (eI t25)), (26, (eI t26))] ?_
      refine aQ ?_
      refine bR 1 ?_
      refine aQ ?_
      refine aT aH 4 ?_
      obtain ⟨c6, h1⟩ := bM h1
      refine sC 2 [0 ≤ t26 ∧ t26 < (lN t24)] ⟨c6, trivial⟩ ?_
      refine mV 2 (aD (aA.mk 0 0)) (by kernel_rfl) (by kernel_rfl) hO ?_
      intro lo7 H hO
      refine jJ 0 lo7 2 0 (aD (aA.mk 0 0)) (aD (gD t24 t26)) [(aD (aA.mk 0 0))] [(lo7, 2, [(aD (gD t24 t26))])] hO rfl (by kernel_rfl) ?_
      intro H hO
      refine cJ ?_
      refine bP [] [(6, (.lp lo7 0 0))] ?_
      refine aQ ?_
      refine aT aH 5 ?_
      refine bH 2 ?_
      refine jN 0 lo7 2 0 (aD (gD t24 t26)) (eI ((gD t24 t26).Net)) [(aD (gD t24 t26))] hO rfl ?_
      refine bC ?_
      replace hO := hO.pick (L' := []) [] (by decide) (by kernel_rfl)
      refine bP [3, 6] [(3, (eI (wR (v3 + ((gD t24 t26).Net)))))] ?_
      refine aT aH 4 ?_
      refine bC ?_
      refine dK [(3, (eI (wR (v3 + ((gD t24 t26).Net))))), (4, (eI (if (wR (v3 + ((gD t24 t26).Net))) < fH then (wR (v3 + ((gD t24 t26).Net))) else fH))), (24, (eL aD t24)), (25, (eI t25)), (26, (eI t26))] ?_
      refine aK (aZ (aJ (?_)))
      refine aT aH 2 ?_
      refine bC ?_
      exact aK (aJ (⟨rfl, _, (oI h1).symm, .eq (by kernel_rfl), hO⟩))
    refine eC 0 ?_
    obtain rfl := oI h1
    obtain rfl : _ = rr0 := ho0
    replace h0 : tF fH = some r := h0
    exact aK (aW (aW (bO (aJ (⟨rfl, _, .eq (by kernel_rfl), hO, h0⟩)))))
  refine aQ ?_
  refine aT aH 5 ?_
  obtain ⟨c8, h0⟩ := bM h0
  refine AT [0 ≤ (0 : Int) ∧ (0 : Int) < (lN f0)] ⟨c8, trivial⟩ ?_
  refine bP [] [(19, (aL (decide (((gD f0 (0 : Int)).At) = (-1 : Int)))))] ?_
  refine bL h0 (fun h0 => ?_) (fun h0 => ?_)
  · refine aT aH 5 ?_
    obtain ⟨c10, h0⟩ := bM h0
    refine AT [0 ≤ (0 : Int) ∧ (0 : Int) < (lN f0)] ⟨c10, trivial⟩ ?_
    exact aK (aJ (⟨rfl, _, _, .eq (by kernel_rfl), hO, h0⟩))
  refine bN ?_
  exact aK (aJ (⟨rfl, _, _, .eq (by kernel_rfl), hO, h0⟩))

theorem OD (f0 : (List aA)) (r : Bool) (h0 : rW f0 = some r) : bS Try.prog 119 [(eL aD f0)] (aL r) := by
  intro H0
  refine cI Try.func119 ?_
  have hO := aO.start H0
  unfold rW at h0
  refine aY aH 1 [] [] ?_
  refine aQ ?_
  refine aT aH 8 ?_
  refine bH 1 ?_
  obtain ⟨x1, hx2, h0⟩ := aU h0
  refine cH (zB f0 _ hx2) hO ?_
  intro H hO
  refine bH 4 ?_
  obtain ⟨x4, hx5, h0⟩ := aU h0
  refine fV [(5, true)] 69 [(eL aD f0)] (eI x4) x1 (by kernel_rfl) (by kernel_rfl) (by kernel_rfl) (fun hb6 => (UZ f0 _ (iU hx5 hb6))) hO ?_
  intro H hO
  refine bC ?_
  refine bD [(2, (aL (x1 && (decide ((0 : Int) ≤ x4)))))] ?_
  refine bI ?_
  obtain rfl := oI h0
  exact aK (Q_r hO)

theorem TM (l0 : (List aC)) (r : Bool) (h0 : vE l0 = some r) : bS Try.prog 86 [(eL aE l0)] (aL r) := by
  intro H0
  refine cI Try.func86 ?_
  have hO := aO.start H0
  unfold vE at h0
  refine aY aH 1 [] [] ?_
  refine aQ ?_
  refine aT aH 3 ?_
  refine bH 1 ?_
  obtain ⟨x1, hx2, h0⟩ := aU h0
  refine cH (JW l0 119 [] [] (fun y0 => rW y0) (fun y0 r h => OD y0 r h) _ hx2) hO ?_
  intro H hO
  refine bC ?_
  refine bD [(2, (aL x1))] ?_
  refine bI ?_
  obtain rfl := oI h0
  exact aK (Q_r hO)

theorem HB (l0 : (List aC)) (r : (List aC)) (h0 : qR l0 = some r) : bS Try.prog 77 [(eL aE l0)] (.fn (.func 117) [] [(.rp (eL aE r))]) := by
  intro H0
  refine cI Try.func77 ?_
  have hO := aO.start H0
  unfold qR at h0
  refine aQ ?_
  refine aT aH 2 ?_
  refine gW 1 (eL aE l0) (by kernel_rfl) (by kernel_rfl) ?_
  refine bC ?_
  refine bD [(1, (.rp (eL aE l0)))] ?_
  refine bV aH 2 [(2, (.fn (.func 117) [] [(.rp (eL aE l0))]))] ?_
  refine bI ?_
  obtain rfl := oI h0
  exact aK (rB (x := (.fn (.func 117) [] [(.rp (eL aE l0))])) (by kernel_rfl) (aX.refl _) ⟨rfl, hO.out⟩)

theorem BD {σ : Type} (I : σ → Gs → Prop) (yield0_b : Nat) (eM : σ → (List aG) → (List aA) → Option (σ × Bool)) (yield0_h : ∀ st a0 a1 st2 r, eM st a0 a1 = some (st2, r) → JE Try.prog (yv yield0_b) I st [(eL aM a0), (eL aD a1)] st2 (aL r)) (t1 : (List aC)) (sg0 : σ) (r : σ) (h0 : nF eM t1 sg0 = some r) : BN Try.prog 117 I sg0 [(yv yield0_b), (.rp (eL aE t1))] r (.tup []) := by
  intro H0 G0 hI hg
  refine EI aH Try.func117 (by kernel_rfl) (by kernel_rfl) (by kernel_rfl) ?_
  obtain ⟨G, hO, hI⟩ : ∃ G, aO ⟨H0, List.map (fun p : Nat × cX => p.1) G0, G⟩ H0 [] ∧ I sg0 G := ⟨G0, aO.NG hg, hI⟩
  clear hg
  unfold nF at h0
  refine aQ ?_
  refine aT aH 1 ?_
  refine gW 1 (yv yield0_b) (by kernel_rfl) (by kernel_rfl) ?_
  refine cJ ?_
  refine bP [0] [(2, (.rp (yv yield0_b)))] ?_
  refine aQ ?_
  refine aQ ?_
  refine aT aH 3 ?_
  refine bH 1 ?_
  obtain ⟨x1, hx2, h0⟩ := aU h0
  refine cH (FM t1 _ hx2) hO ?_
  intro H hO
  refine bC ?_
  refine bP [] [(7, (aL (!x1)))] ?_
  refine bL h0 (fun h0 => ?_) (fun h0 => ?_)
  · refine bI ?_
    obtain rfl := oI h0
    exact aK (bA (QM0 (.inr rfl) (rs := []) (xs := []) (x := (.tup [])) (by kernel_rfl) rZ (by kernel_rfl) ⟨rfl, G, hI, hO.JD⟩))
  refine bN ?_
  refine bD [(1, (.rp (eL aE t1))), (2, (.rp (yv yield0_b)))] ?_
  refine aQ ?_
  refine aT aH 2 ?_
  refine bH 1 ?_
  obtain ⟨x5, hx6, h0⟩ := aU h0
  refine cH (DN t1 _ hx6) hO ?_
  intro H hO
  refine cJ ?_
  refine bP [1] [(9, (.fn (.func 131) [] [(.rp (eL aE x5))]))] ?_
  refine bR 0 ?_
  refine cW [(2, (.rp (yv yield0_b))), (9, (.fn (.func 131) [] [(.rp (eL aE x5))]))] ?_
  refine cP (fun T H => ∃ sg : σ, ∃ t9c0 : (List aC), ∃ G : Gs, Has T [(2, (.rp (yv yield0_b))), (9, (.fn (.func 131) [] [(.rp (eL aE t9c0))]))] ∧ aO ⟨H0, List.map (fun p : Nat × cX => p.1) G0, G⟩ H [] ∧ I sg G ∧ rD eM sg t9c0 = some r) ?_ ⟨sg0, x5, G, .eq (by kernel_rfl), hO, hI, h0⟩
  clear hO hI h0
  rintro T H ⟨sg, t9c0, G, hT, hO, hI, h0⟩
  refine bB (l := [(2, (.rp (yv yield0_b))), (9, (.fn (.func 131) [] [(.rp (eL aE t9c0))]))]) hT ?_
  clear hT
  unfold rD at h0
  obtain ⟨o0, hl0, h0⟩ := aU h0
  refine CU (fid := 131) (ys := []) (cs := [(.rp (eL aE t9c0))]) #[10, 11] (fun (A : zV) (b lL : Nat) (st : (σ) ⊕ (σ)) (G' : Gs) => Sum.elim (fun (s : σ) => ∃ G : Gs, I s G ∧ G' = (lL, .raw (kH b A .ready none)) :: (up [] ++ G)) (fun (s : σ) => ∃ G : Gs, I s G ∧ G' = (lL, .raw (kH b A .done (some .ret))) :: (up [] ++ G)) st) (.inl sg) o0 (.tup []) (by kernel_rfl) (by kernel_rfl) (by kernel_rfl) hO (fun _ _ => ⟨G, hI, rfl⟩) ?_ ?_
  · intro b lL
    clear hO hI h0
    refine zJ _ b (fun st t10 t11 => rnd (fun (s : σ) => jW eM t9c0 s t10 t11) st) ?_ t9c0 _ _ hl0
    intro st t10 t11 out1 rr hr
    obtain ⟨s, rfl, h1, rfl⟩ := UT hr
    clear hr
    intro Hr Gr hi hg
    obtain ⟨sg, rfl⟩ : ∃ x, x = s := ⟨_, rfl⟩
    dsimp only [Sum.elim_inl] at hi
    obtain ⟨G, hI, rfl⟩ := hi
    replace h1 : jW eM t9c0 sg t10 t11 = some out1 := h1
    unfold jW at h1
    obtain ⟨E1, hE, hO⟩ := wH hg
    refine wV (CT (hO.gm 0 _ rfl).2 (by kernel_rfl) (by kernel_rfl) ?_)
    refine cW [(2, (.rp (yv yield0_b))), (9, (.fn (.func 131) [] [(.rp (eL aE t9c0))])), (10, (eL aM t10)), (11, (eL aD t11))] ?_
    refine aY aH 1 [9, 10] [(3, (eL aM t10))] ?_
    refine aT aH 1 ?_
    refine bC ?_
    refine dK [(2, (.rp (yv yield0_b))), (3, (eL aM t10)), (4, (eL aD t11))] ?_
    refine aK (⟨rfl, rfl, (hO.gm 0 _ rfl).2, ?_⟩)
    intro o1 ho1
    replace hO := hO.wA o1
    refine bR 1 ?_
    refine aQ ?_
    refine aT aH 5 ?_
    refine bH 3 ?_
    obtain ⟨x7, hx8, h1⟩ := aU h1
    refine aBC (I := I) (yv yield0_b) [(eL aM t10), (eL aD t11)] (aL x7.2) (by kernel_rfl) (by kernel_rfl) (yield0_h _ t10 t11 x7.1 x7.2 hx8) hO hI ?_
    intro G H hO hI
    refine bC ?_
    refine bD [(16, (aL (!x7.2)))] ?_
    refine bL h1 (fun h1 => ?_) (fun h1 => ?_)
    · refine bI ?_
      refine dK [] ?_
      obtain rfl := oI h1
      exact aK (bY (⟨(gC hO hE ho1 .dead).1, rfl, _, ⟨G, hI, rfl⟩, (gC hO hE ho1 _).2⟩))
    refine bN ?_
    refine dK [] ?_
    obtain rfl := oI h1
    exact aK (aZ (⟨(gC hO hE ho1 .dead).1, rfl, _, ⟨G, hI, rfl⟩, (gC hO hE ho1 _).2⟩))
  · intro b lD10 lL H' G' hi hO
    rcases o0 with s | s
    · dsimp only [Sum.elim_inl] at hi
      obtain ⟨G, hI, rfl⟩ := hi
      replace h0 : (some s) = some r := h0
      obtain ⟨hlL, hO⟩ := rH hO
      refine ⟨_, _, hlL, (by intro e; cases e), ?_⟩
      obtain rfl := oI h0
      have hD := (hO.gm 0 _ rfl).2
      replace hO := (hO.wA .dead).vP
      exact aK (aZ (QM1 (.inl rfl) hD (rs := []) (xs := []) (x := (.tup [])) (by kernel_rfl) rZ (by kernel_rfl) ⟨rfl, G, hI, hO.JD⟩))
    · dsimp only [Sum.elim_inr] at hi
      obtain ⟨G, hI, rfl⟩ := hi
      replace h0 : (some s) = some r := h0
      obtain ⟨hlL, hO⟩ := rH hO
      refine ⟨_, _, hlL, (by intro e; cases e), ?_⟩
      refine bI ?_
      obtain rfl := oI h0
      have hD := (hO.gm 0 _ rfl).2
      replace hO := (hO.wA .dead).vP
      exact aK (bY (QM1 (.inr rfl) hD (rs := []) (xs := []) (x := (.tup [])) (by kernel_rfl) rZ (by kernel_rfl) ⟨rfl, G, hI, hO.JD⟩))

theorem KJ (f0 : (List aA)) (r : Int) (h0 : rN f0 = some r) : bS Try.prog 70 [(eL aD f0)] (eI r) := by
  intro H0
  refine cI Try.func70 ?_
  have hO := aO.start H0
  unfold rN at h0
  refine aY aH 1 [] [] ?_
  refine aY aH 1 [] [(3, (eI (0 : Int)))] ?_
  refine dG (fun T H => ∃ n3 : Int, Has T [(3, (eI n3))] ∧ aO ⟨H0, [], []⟩ H [] ∧ vB n3 = some r) ?_ ?_
  · clear hO h0
    rintro T H ⟨n3, hT, hO, h0⟩
    refine bB hT ?_
    clear hT
    unfold vB at h0
    refine bV aH 2 [(2, (eI n3))] ?_
    refine bI ?_
    obtain rfl := oI h0
    exact aK (Q_r hO)
  refine aY aH 3 [0] [(6, (eL aD f0)), (7, (eI (lN f0))), (8, (eI (0 : Int)))] ?_
  refine bR 0 ?_
  refine cW [(3, (eI (0 : Int))), (6, (eL aD f0)), (7, (eI (lN f0))), (8, (eI (0 : Int)))] ?_
  refine cP (fun T H => ∃ n3 : Int, ∃ t6 : (List aA), ∃ t7 : Int, ∃ t8 : Int, Has T [(3, (eI n3)), (6, (eL aD t6)), (7, (eI t7)), (8, (eI t8))] ∧ aO ⟨H0, [], []⟩ H [] ∧ yZ n3 t6 t7 t8 = some r) ?_ ⟨(0 : Int), f0, (lN f0), (0 : Int), .eq (by kernel_rfl), hO, h0⟩
  clear hO h0
  rintro T H ⟨n3, t6, t7, t8, hT, hO, h0⟩
  refine bB hT ?_
  clear hT
  unfold yZ at h0
  obtain ⟨rr0, hl0, h0⟩ := aU h0
  refine cD (by kernel_rfl) (fun (s : Int × Int) T H => Has T [(3, (eI s.1)), (6, (eL aD t6)), (7, (eI t7)), (8, (eI s.2))] ∧ aO ⟨H0, [], []⟩ H []) hl0 ⟨.eq (by kernel_rfl), hO⟩ ?_
  clear hO
  rintro k0 s out1 T H ⟨hT, hO⟩ h1 ho0
  obtain ⟨n3, t8⟩ := s
  replace h1 : oP t6 t7 n3 t8 = some out1 := h1
  try dsimp only at hT
  refine bB hT ?_
  clear hT
  unfold oP at h1
  refine aY aH 1 [] [(9, (aL (decide (t8 < t7))))] ?_
  refine aQ ?_
  refine bL h1 (fun h1 => ?_) (fun h1 => ?_)
  · refine bN ?_
    refine bD [(3, (eI n3)), (6, (eL aD t6)), (7, (eI t7)), (8, (eI t8))] ?_
    refine aQ ?_
    refine bR 1 ?_
    refine aQ ?_
    refine aT aH 4 ?_
    obtain ⟨c2, h1⟩ := bM h1
    refine sC 2 [0 ≤ t8 ∧ t8 < (lN t6)] ⟨c2, trivial⟩ ?_
    refine mV 2 (aD (aA.mk 0 0)) (by kernel_rfl) (by kernel_rfl) hO ?_
    intro lo3 H hO
    refine jJ 0 lo3 2 0 (aD (aA.mk 0 0)) (aD (gD t6 t8)) [(aD (aA.mk 0 0))] [(lo3, 2, [(aD (gD t6 t8))])] hO rfl (by kernel_rfl) ?_
    intro H hO
    refine cJ ?_
    refine bP [] [(5, (.lp lo3 0 0))] ?_
    refine aT aH 6 ?_
    refine bH 2 ?_
    refine jN 0 lo3 2 0 (aD (gD t6 t8)) (eI ((gD t6 t8).Net)) [(aD (gD t6 t8))] hO rfl ?_
    refine bC ?_
    refine dK [(3, (eI (wR (n3 + (if (0 : Int) > ((gD t6 t8).Net) then (0 : Int) else ((gD t6 t8).Net)))))), (6, (eL aD t6)), (7, (eI t7)), (8, (eI t8))] ?_
    replace hO := hO.pick (L' := []) [] (by decide) (by kernel_rfl)
    refine aK (aZ (aJ (?_)))
    refine aT aH 2 ?_
    refine bC ?_
    exact aK (aJ (⟨rfl, _, (oI h1).symm, .eq (by kernel_rfl), hO⟩))
  refine eC 0 ?_
  obtain rfl := oI h1
  obtain rfl : _ = rr0 := ho0
  replace h0 : vB n3 = some r := h0
  exact aK (aW (aW (bO (aJ (⟨rfl, _, .eq (by kernel_rfl), hO, h0⟩)))))

theorem AS (t0 : Int) (lo1p : Nat) (lo1q : Nat) (t1 : (List aR)) (lo2p : Nat) (t2 : Int) (r : ((List aR) × Int)) (h0 : mE t0 t1 t2 = some r) : NB Try.prog 115 [(eI t0), (.lp lo1p 0 0), (.lp lo2p 0 0)] [(lo1p, 1, [(.msl 2 lo1q 0 (List.length t1))]), (lo1q, 2, List.map bJ t1), (lo2p, 1, [(eI t2)])] (fun x L => ∃ lo1n : Nat, x = (.tup []) ∧ L = [(lo1p, 1, [(.msl 2 lo1n 0 (List.length r.1))]), (lo1n, 2, List.map bJ r.1), (lo2p, 1, [(eI r.2)])]) := by
  intro F H0 hO
  obtain ⟨Fh, Fe, Fg⟩ := F
  refine cI Try.func115 ?_
  unfold mE at h0
  refine aQ ?_
  refine aT aH 6 ?_
  refine jN 0 lo1p 1 0 (.msl 2 lo1q 0 (List.length t1)) (.msl 2 lo1q 0 (List.length t1)) [(.msl 2 lo1q 0 (List.length t1))] hO rfl ?_
  refine jN 2 lo2p 1 0 (eI t2) (eI t2) [(eI t2)] hO rfl ?_
  obtain ⟨c1, h0⟩ := bM h0
  refine sC 5 [0 ≤ t2 ∧ t2 < (lN t1)] ⟨c1, trivial⟩ ?_
  refine jJ 1 lo1q 2 (0 + Int.toNat t2) (bJ (gD t1 t2)) (bJ (aR.mk (gD t1 t2).From t0)) (List.map bJ t1) [(lo1p, 1, [(.msl 2 lo1q 0 (List.length t1))]), (lo1q, 2, List.map bJ (List.set t1 (Int.toNat t2) (aR.mk (gD t1 t2).From t0))), (lo2p, 1, [(eI t2)])] hO (cR c1) (by simp only [List.set, oQ]) ?_
  intro H hO
  refine cJ ?_
  replace hO : aO ⟨Fh, Fe, Fg⟩ H [(lo1p, 1, [(.msl 2 lo1q 0 (List.length (List.set t1 (Int.toNat t2) (aR.mk (gD t1 t2).From t0))))]), (lo1q, 2, List.map bJ (List.set t1 (Int.toNat t2) (aR.mk (gD t1 t2).From t0))), (lo2p, 1, [(eI t2)])] := by simpa only [List.length_set] using hO
  refine bP [0] [] ?_
  refine aT aH 3 ?_
  refine jN 2 lo2p 1 0 (eI t2) (eI t2) [(eI t2)] hO rfl ?_
  refine bH 2 ?_
  refine jJ 2 lo2p 1 0 (eI t2) (eI (wR (t2 + (1 : Int)))) [(eI t2)] [(lo1p, 1, [(.msl 2 lo1q 0 (List.length (List.set t1 (Int.toNat t2) (aR.mk (gD t1 t2).From t0))))]), (lo1q, 2, List.map bJ (List.set t1 (Int.toNat t2) (aR.mk (gD t1 t2).From t0))), (lo2p, 1, [(eI (wR (t2 + (1 : Int))))])] hO rfl (by kernel_rfl) ?_
  intro H hO
  refine cJ ?_
  obtain rfl := oI h0
  exact aK (aDw hO ⟨lo1q, rfl, rfl⟩)

theorem UB (f0 : (List aA)) (r : (List aR)) (h0 : uW f0 = some r) : bS Try.prog 71 [(eL aD f0)] (eL bJ r) := by
  intro H0
  refine cI Try.func71 ?_
  have hO := aO.start H0
  unfold uW at h0
  refine aY aH 1 [] [] ?_
  refine aQ ?_
  refine aT aH 5 ?_
  refine bH 1 ?_
  obtain ⟨x1, hx2, h0⟩ := aU h0
  refine cH (KJ f0 _ hx2) hO ?_
  intro H hO
  obtain ⟨c4, h0⟩ := bM h0
  refine JM 2 16 x1 (by kernel_rfl) (by kernel_rfl) c4 hO ?_
  intro lo5 H hO
  refine qD 1 (.sl true 0 (fun _ => .bad)) (eL bJ ([])) (by kernel_rfl) (by kernel_rfl) (by kernel_rfl) (fG) (by kernel_rfl) (by kernel_rfl) hO ?_
  intro lo6 H hO
  refine jJ 1 lo6 1 0 (eL bJ ([])) (.msl 2 lo5 0 (List.length ([] : List aR))) [(eL bJ ([]))] [(lo5, 2, List.map bJ ([] : List aR)), (lo6, 1, [(.msl 2 lo5 0 (List.length ([] : List aR)))])] hO rfl (by kernel_rfl) ?_
  intro H hO
  refine cJ ?_
  replace hO := hO.pick (L' := [(lo6, 1, [(.msl 2 lo5 0 (List.length ([] : List aR)))]), (lo5, 2, List.map bJ ([] : List aR))]) [1, 0] (by decide) (by kernel_rfl)
  refine bP [] [(3, (.lp lo6 0 0))] ?_
  refine aQ ?_
  refine aT aH 2 ?_
  refine mV 1 (eI 0) (by kernel_rfl) (by kernel_rfl) hO ?_
  intro lo7 H hO
  refine jJ 2 lo7 1 0 (eI 0) (eI (0 : Int)) [(eI 0)] [(lo6, 1, [(.msl 2 lo5 0 (List.length ([] : List aR)))]), (lo5, 2, List.map bJ ([] : List aR)), (lo7, 1, [(eI (0 : Int))])] hO rfl (by kernel_rfl) ?_
  intro H hO
  refine cJ ?_
  refine bP [] [(4, (.lp lo7 0 0))] ?_
  refine aY aH 2 [] [(5, (.fn (.func 115) [] [(.lp lo6 0 0), (.lp lo7 0 0)]))] ?_
  refine dG (fun T H => ∃ out3 : List aR, ∃ bZ : Int, ∃ lo8 : Nat, Has T [(3, (.lp lo6 0 0)), (4, (.lp lo7 0 0)), (5, (.fn (.func 115) [] [(.lp lo6 0 0), (.lp lo7 0 0)]))] ∧ aO ⟨H0, [], []⟩ H [(lo6, 1, [(.msl 2 lo8 0 (List.length out3))]), (lo8, 2, List.map bJ out3), (lo7, 1, [(eI bZ)])] ∧ tS out3 bZ = some r) ?_ ?_
  · clear hO h0
    rintro T H ⟨out3, bZ, lo8, hT, hO, h0⟩
    refine bB hT ?_
    clear hT
    unfold tS at h0
    refine dG (fun T H => ∃ out3 : List aR, ∃ lo9 : Nat, Has T [(3, (.lp lo6 0 0))] ∧ aO ⟨H0, [], []⟩ H [(lo6, 1, [(.msl 2 lo9 0 (List.length out3))]), (lo9, 2, List.map bJ out3)] ∧ xJ out3 = some r) ?_ ?_
    · clear hO h0
      rintro T H ⟨out3, lo9, hT, hO, h0⟩
      refine bB hT ?_
      clear hT
      unfold xJ at h0
      refine aQ ?_
      refine aT aH 2 ?_
      refine jN 0 lo6 1 0 (.msl 2 lo9 0 (List.length out3)) (.msl 2 lo9 0 (List.length out3)) [(.msl 2 lo9 0 (List.length out3))] hO rfl ?_
      refine bC ?_
      refine dK [(2, (.msl 2 lo9 0 (List.length out3)))] ?_
      replace hO := hO.pick (L' := [(lo9, 2, List.map bJ out3)]) [1] (by decide) (by kernel_rfl)
      refine aK (aJ (?_))
      refine bI ?_
      refine dK [(2, (.msl 2 lo9 0 (List.length out3)))] ?_
      refine yD (en := bJ) out3 0 0 2 2 lo9 (List.length out3) hO (by kernel_rfl) (by kernel_rfl) (by kernel_rfl) (L' := []) (by kernel_rfl) ?_
      intro H10 hO
      obtain rfl := oI h0
      exact aK (Q_r hO)
    refine bR 6 ?_
    refine cW [(3, (.lp lo6 0 0)), (4, (.lp lo7 0 0)), (5, (.fn (.func 115) [] [(.lp lo6 0 0), (.lp lo7 0 0)]))] ?_
    refine cP (fun T H => ∃ out3 : List aR, ∃ bZ : Int, ∃ lo12 : Nat, Has T [(3, (.lp lo6 0 0)), (4, (.lp lo7 0 0)), (5, (.fn (.func 115) [] [(.lp lo6 0 0), (.lp lo7 0 0)]))] ∧ aO ⟨H0, [], []⟩ H [(lo6, 1, [(.msl 2 lo12 0 (List.length out3))]), (lo12, 2, List.map bJ out3), (lo7, 1, [(eI bZ)])] ∧ xK out3 bZ = some r) ?_ ⟨out3, bZ, lo8, .eq (by kernel_rfl), hO, h0⟩
    clear hO h0
    rintro T H ⟨out3, bZ, lo12, hT, hO, h0⟩
    refine bB hT ?_
    clear hT
    unfold xK at h0
    obtain ⟨rr0, hl0, h0⟩ := aU h0
    refine cD (by kernel_rfl) (fun (s : List aR × Int) T H => ∃ lo12 : Nat, Has T [(3, (.lp lo6 0 0)), (4, (.lp lo7 0 0)), (5, (.fn (.func 115) [] [(.lp lo6 0 0), (.lp lo7 0 0)]))] ∧ aO ⟨H0, [], []⟩ H [(lo6, 1, [(.msl 2 lo12 0 (List.length s.1))]), (lo12, 2, List.map bJ s.1), (lo7, 1, [(eI s.2)])]) hl0 ⟨lo12, .eq (by kernel_rfl), hO⟩ ?_
    clear hO
    rintro k0 s out1 T H ⟨lo12, hT, hO⟩ h1 ho0
    obtain ⟨out3, bZ⟩ := s
    replace h1 : lW out3 bZ = some out1 := h1
    try dsimp only at hT
    refine bB hT ?_
    clear hT
    unfold lW at h1
    refine aQ ?_
    refine aQ ?_
    refine aT aH 4 ?_
    refine jN 2 lo7 1 0 (eI bZ) (eI bZ) [(eI bZ)] hO rfl ?_
    refine jN 0 lo6 1 0 (.msl 2 lo12 0 (List.length out3)) (.msl 2 lo12 0 (List.length out3)) [(.msl 2 lo12 0 (List.length out3))] hO rfl ?_
    refine bC ?_
    refine bP [] [(43, (aL (decide (bZ < (lN out3)))))] ?_
    refine bL h1 (fun h1 => ?_) (fun h1 => ?_)
    · refine bN ?_
      refine bD [(3, (.lp lo6 0 0)), (4, (.lp lo7 0 0)), (5, (.fn (.func 115) [] [(.lp lo6 0 0), (.lp lo7 0 0)]))] ?_
      refine bR 7 ?_
      refine aT aH 2 ?_
      refine bH 1 ?_
      obtain ⟨x14, hx15, h1⟩ := aU h1
      refine aC2 [] [0, 1, 2] (AS (1125899906842624 : Int) lo6 lo12 out3 lo7 bZ _ hx15) hO ?_
      intro r17 L18 H hP19 hO
      obtain ⟨lo16, rfl, rfl⟩ := hP19
      replace hO : aO ⟨H0, [], []⟩ H [(lo6, 1, [(.msl 2 lo16 0 (List.length x14.1))]), (lo16, 2, List.map bJ x14.1), (lo7, 1, [(eI x14.2)])] := hO
      refine cJ ?_
      exact aK (aZ (aJ (⟨rfl, _, (oI h1).symm, _, .eq (by kernel_rfl), hO⟩)))
    refine eC 6 ?_
    replace hO := hO.pick (L' := [(lo6, 1, [(.msl 2 lo12 0 (List.length out3))]), (lo12, 2, List.map bJ out3)]) [0, 1] (by decide) (by kernel_rfl)
    obtain rfl := oI h1
    obtain rfl : _ = rr0 := ho0
    replace h0 : xJ out3 = some r := h0
    exact aK (aW (aW (bO (aJ (⟨rfl, _, _, .eq (by kernel_rfl), hO, h0⟩)))))
  refine bV aH 3 [(3, (.lp lo6 0 0)), (4, (.lp lo7 0 0)), (5, (.fn (.func 115) [] [(.lp lo6 0 0), (.lp lo7 0 0)])), (12, (eL aD f0)), (13, (eI (lN f0))), (14, (eI (0 : Int)))] ?_
  refine bR 0 ?_
  refine cW [(3, (.lp lo6 0 0)), (4, (.lp lo7 0 0)), (5, (.fn (.func 115) [] [(.lp lo6 0 0), (.lp lo7 0 0)])), (12, (eL aD f0)), (13, (eI (lN f0))), (14, (eI (0 : Int)))] ?_
  refine cP (fun T H => ∃ out3 : List aR, ∃ bZ : Int, ∃ t12 : (List aA), ∃ t13 : Int, ∃ t14 : Int, ∃ lo21 : Nat, Has T [(3, (.lp lo6 0 0)), (4, (.lp lo7 0 0)), (5, (.fn (.func 115) [] [(.lp lo6 0 0), (.lp lo7 0 0)])), (12, (eL aD t12)), (13, (eI t13)), (14, (eI t14))] ∧ aO ⟨H0, [], []⟩ H [(lo6, 1, [(.msl 2 lo21 0 (List.length out3))]), (lo21, 2, List.map bJ out3), (lo7, 1, [(eI bZ)])] ∧ xN out3 bZ t12 t13 t14 = some r) ?_ ⟨([] : List aR), (0 : Int), f0, (lN f0), (0 : Int), lo5, .eq (by kernel_rfl), hO, h0⟩
  clear hO h0
  rintro T H ⟨out3, bZ, t12, t13, t14, lo21, hT, hO, h0⟩
  refine bB hT ?_
  clear hT
  unfold xN at h0
  obtain ⟨rr0, hl0, h0⟩ := aU h0
  refine cD (by kernel_rfl) (fun (s : List aR × Int × Int) T H => ∃ lo21 : Nat, Has T [(3, (.lp lo6 0 0)), (4, (.lp lo7 0 0)), (5, (.fn (.func 115) [] [(.lp lo6 0 0), (.lp lo7 0 0)])), (12, (eL aD t12)), (13, (eI t13)), (14, (eI s.2.2))] ∧ aO ⟨H0, [], []⟩ H [(lo6, 1, [(.msl 2 lo21 0 (List.length s.1))]), (lo21, 2, List.map bJ s.1), (lo7, 1, [(eI s.2.1)])]) hl0 ⟨lo21, .eq (by kernel_rfl), hO⟩ ?_
  clear hO
  rintro k0 s out1 T H ⟨lo21, hT, hO⟩ h1 ho0
  obtain ⟨out3, bZ, t14⟩ := s
  replace h1 : nO t12 t13 out3 bZ t14 = some out1 := h1
  try dsimp only at hT
  refine bB hT ?_
  clear hT
  unfold nO at h1
  refine aY aH 1 [] [(15, (aL (decide (t14 < t13))))] ?_
  refine aQ ?_
  refine bL h1 (fun h1 => ?_) (fun h1 => ?_)
  · refine bN ?_
    refine bD [(3, (.lp lo6 0 0)), (4, (.lp lo7 0 0)), (5, (.fn (.func 115) [] [(.lp lo6 0 0), (.lp lo7 0 0)])), (12, (eL aD t12)), (13, (eI t13)), (14, (eI t14))] ?_
    refine dG (fun T H => ∃ out3 : List aR, ∃ bZ : Int, ∃ lo23 : Nat, Has T [(3, (.lp lo6 0 0)), (4, (.lp lo7 0 0)), (5, (.fn (.func 115) [] [(.lp lo6 0 0), (.lp lo7 0 0)])), (12, (eL aD t12)), (13, (eI t13)), (14, (eI t14))] ∧ aO ⟨H0, [], []⟩ H [(lo6, 1, [(.msl 2 lo23 0 (List.length out3))]), (lo23, 2, List.map bJ out3), (lo7, 1, [(eI bZ)])] ∧ tN out3 bZ t12 t13 t14 = some out1) ?_ ?_
    · clear hO h1
      rintro T H ⟨out3, bZ, lo23, hT, hO, h1⟩
      refine bB hT ?_
      clear hT
      unfold tN at h1
      refine aT aH 2 ?_
      refine bC ?_
      exact aK (aJ (⟨rfl, _, (oI h1).symm, _, .eq (by kernel_rfl), hO⟩))
    refine bR 1 ?_
    refine aQ ?_
    refine aT aH 4 ?_
    obtain ⟨c24, h1⟩ := bM h1
    refine sC 2 [0 ≤ t14 ∧ t14 < (lN t12)] ⟨c24, trivial⟩ ?_
    refine mV 2 (aD (aA.mk 0 0)) (by kernel_rfl) (by kernel_rfl) hO ?_
    intro lo25 H hO
    refine jJ 3 lo25 2 0 (aD (aA.mk 0 0)) (aD (gD t12 t14)) [(aD (aA.mk 0 0))] [(lo6, 1, [(.msl 2 lo21 0 (List.length out3))]), (lo21, 2, List.map bJ out3), (lo7, 1, [(eI bZ)]), (lo25, 2, [(aD (gD t12 t14))])] hO rfl (by kernel_rfl) ?_
    intro H hO
    refine cJ ?_
    refine bP [] [(7, (.lp lo25 0 0))] ?_
    refine dG (fun T H => ∃ out3 : List aR, ∃ bZ : Int, ∃ j7 : aA, ∃ lo26 : Nat, Has T [(3, (.lp lo6 0 0)), (4, (.lp lo7 0 0)), (5, (.fn (.func 115) [] [(.lp lo6 0 0), (.lp lo7 0 0)])), (7, (.lp lo25 0 0)), (12, (eL aD t12)), (13, (eI t13)), (14, (eI t14))] ∧ aO ⟨H0, [], []⟩ H [(lo6, 1, [(.msl 2 lo26 0 (List.length out3))]), (lo26, 2, List.map bJ out3), (lo7, 1, [(eI bZ)]), (lo25, 2, [(aD j7)])] ∧ tH out3 bZ j7 t12 t13 t14 = some out1) ?_ ?_
    · clear hO h1
      rintro T H ⟨out3, bZ, j7, lo26, hT, hO, h1⟩
      refine bB hT ?_
      clear hT
      unfold tH at h1
      refine aQ ?_
      refine aT aH 4 ?_
      refine bH 1 ?_
      refine jN 3 lo25 2 0 (aD j7) (eI j7.Net) [(aD j7)] hO rfl ?_
      refine bC ?_
      refine bP [] [(31, (eI (wR (0 - j7.Net)))), (32, (eI (0 : Int)))] ?_
      refine bR 4 ?_
      refine cW [(3, (.lp lo6 0 0)), (4, (.lp lo7 0 0)), (5, (.fn (.func 115) [] [(.lp lo6 0 0), (.lp lo7 0 0)])), (7, (.lp lo25 0 0)), (12, (eL aD t12)), (13, (eI t13)), (14, (eI t14)), (31, (eI (wR (0 - j7.Net)))), (32, (eI (0 : Int)))] ?_
      refine cP (fun T H => ∃ out3 : List aR, ∃ bZ : Int, ∃ j7 : aA, ∃ t31 : Int, ∃ t32 : Int, ∃ lo28 : Nat, Has T [(3, (.lp lo6 0 0)), (4, (.lp lo7 0 0)), (5, (.fn (.func 115) [] [(.lp lo6 0 0), (.lp lo7 0 0)])), (7, (.lp lo25 0 0)), (12, (eL aD t12)), (13, (eI t13)), (14, (eI t14)), (31, (eI t31)), (32, (eI t32))] ∧ aO ⟨H0, [], []⟩ H [(lo6, 1, [(.msl 2 lo28 0 (List.length out3))]), (lo28, 2, List.map bJ out3), (lo7, 1, [(eI bZ)]), (lo25, 2, [(aD j7)])] ∧ xC out3 bZ j7 t12 t13 t14 t31 t32 = some out1) ?_ ⟨out3, bZ, j7, wR (0 - j7.Net), (0 : Int), lo26, .eq (by kernel_rfl), hO, h1⟩
      clear hO h1
      rintro T H ⟨out3, bZ, j7, t31, t32, lo28, hT, hO, h1⟩
      refine bB hT ?_
      clear hT
      unfold xC at h1
      obtain ⟨rr1, hl1, h1⟩ := aU h1
      refine cD (by kernel_rfl) (fun (s : List aR × Int × aA × Int) T H => ∃ lo28 : Nat, Has T [(3, (.lp lo6 0 0)), (4, (.lp lo7 0 0)), (5, (.fn (.func 115) [] [(.lp lo6 0 0), (.lp lo7 0 0)])), (7, (.lp lo25 0 0)), (12, (eL aD t12)), (13, (eI t13)), (14, (eI t14)), (31, (eI t31)), (32, (eI s.2.2.2))] ∧ aO ⟨H0, [], []⟩ H [(lo6, 1, [(.msl 2 lo28 0 (List.length s.1))]), (lo28, 2, List.map bJ s.1), (lo7, 1, [(eI s.2.1)]), (lo25, 2, [(aD s.2.2.1)])]) hl1 ⟨lo28, .eq (by kernel_rfl), hO⟩ ?_
      clear hO
      rintro k1 s out2 T H ⟨lo28, hT, hO⟩ h2 ho1
      obtain ⟨out3, bZ, j7, t32⟩ := s
      replace h2 : lY t12 t13 t14 t31 out3 bZ j7 t32 = some out2 := h2
      try dsimp only at hT
      refine bB hT ?_
      clear hT
      unfold lY at h2
      refine aY aH 1 [] [(33, (aL (decide (t32 < t31))))] ?_
      refine aQ ?_
      refine bL h2 (fun h2 => ?_) (fun h2 => ?_)
      · refine bN ?_
        refine bD [(3, (.lp lo6 0 0)), (4, (.lp lo7 0 0)), (5, (.fn (.func 115) [] [(.lp lo6 0 0), (.lp lo7 0 0)])), (7, (.lp lo25 0 0)), (12, (eL aD t12)), (13, (eI t13)), (14, (eI t14)), (31, (eI t31)), (32, (eI t32))] ?_
        refine aQ ?_
        refine bR 5 ?_
        refine aT aH 4 ?_
        refine bH 2 ?_
        refine jN 3 lo25 2 0 (aD j7) (eI j7.At) [(aD j7)] hO rfl ?_
        obtain ⟨x30, hx31, h2⟩ := aU h2
        refine aC2 [(lo25, 2, [(aD j7)])] [0, 1, 2, 3] (AS j7.At lo6 lo28 out3 lo7 bZ _ hx31) hO ?_
        intro r33 L34 H hP35 hO
        obtain ⟨lo32, rfl, rfl⟩ := hP35
        replace hO : aO ⟨H0, [], []⟩ H [(lo6, 1, [(.msl 2 lo32 0 (List.length x30.1))]), (lo32, 2, List.map bJ x30.1), (lo7, 1, [(eI x30.2)]), (lo25, 2, [(aD j7)])] := hO
        refine cJ ?_
        refine dK [(3, (.lp lo6 0 0)), (4, (.lp lo7 0 0)), (5, (.fn (.func 115) [] [(.lp lo6 0 0), (.lp lo7 0 0)])), (7, (.lp lo25 0 0)), (12, (eL aD t12)), (13, (eI t13)), (14, (eI t14)), (31, (eI t31)), (32, (eI t32))] ?_
        refine aK (aZ (aJ (?_)))
        refine aT aH 2 ?_
        refine bC ?_
        exact aK (aJ (⟨rfl, _, (oI h2).symm, _, .eq (by kernel_rfl), hO⟩))
      refine eC 4 ?_
      replace hO := hO.pick (L' := [(lo6, 1, [(.msl 2 lo28 0 (List.length out3))]), (lo28, 2, List.map bJ out3), (lo7, 1, [(eI bZ)])]) [0, 1, 2] (by decide) (by kernel_rfl)
      obtain rfl := oI h2
      obtain rfl : _ = rr1 := ho1
      replace h1 : tN out3 bZ t12 t13 t14 = some out1 := h1
      exact aK (aW (aW (bO (aZ (aJ (⟨rfl, _, _, _, .eq (by kernel_rfl), hO, h1⟩))))))
    refine aQ ?_
    refine aT aH 3 ?_
    refine bH 1 ?_
    refine jN 3 lo25 2 0 (aD (gD t12 t14)) (eI ((gD t12 t14).Net)) [(aD (gD t12 t14))] hO rfl ?_
    refine bC ?_
    refine bP [] [(19, (eI ((gD t12 t14).Net))), (20, (eI (0 : Int)))] ?_
    refine bR 2 ?_
    refine cW [(3, (.lp lo6 0 0)), (4, (.lp lo7 0 0)), (5, (.fn (.func 115) [] [(.lp lo6 0 0), (.lp lo7 0 0)])), (7, (.lp lo25 0 0)), (12, (eL aD t12)), (13, (eI t13)), (14, (eI t14)), (19, (eI ((gD t12 t14).Net))), (20, (eI (0 : Int)))] ?_
    refine cP (fun T H => ∃ out3 : List aR, ∃ bZ : Int, ∃ j7 : aA, ∃ t19 : Int, ∃ t20 : Int, ∃ lo37 : Nat, Has T [(3, (.lp lo6 0 0)), (4, (.lp lo7 0 0)), (5, (.fn (.func 115) [] [(.lp lo6 0 0), (.lp lo7 0 0)])), (7, (.lp lo25 0 0)), (12, (eL aD t12)), (13, (eI t13)), (14, (eI t14)), (19, (eI t19)), (20, (eI t20))] ∧ aO ⟨H0, [], []⟩ H [(lo6, 1, [(.msl 2 lo37 0 (List.length out3))]), (lo37, 2, List.map bJ out3), (lo7, 1, [(eI bZ)]), (lo25, 2, [(aD j7)])] ∧ xG out3 bZ j7 t12 t13 t14 t19 t20 = some out1) ?_ ⟨out3, bZ, gD t12 t14, (gD t12 t14).Net, (0 : Int), lo21, .eq (by kernel_rfl), hO, h1⟩
    clear hO h1
    rintro T H ⟨out3, bZ, j7, t19, t20, lo37, hT, hO, h1⟩
    refine bB hT ?_
    clear hT
    unfold xG at h1
    obtain ⟨rr1, hl1, h1⟩ := aU h1
    refine cD (by kernel_rfl) (fun (s : List aR × Int × aA × Int) T H => ∃ lo37 : Nat, Has T [(3, (.lp lo6 0 0)), (4, (.lp lo7 0 0)), (5, (.fn (.func 115) [] [(.lp lo6 0 0), (.lp lo7 0 0)])), (7, (.lp lo25 0 0)), (12, (eL aD t12)), (13, (eI t13)), (14, (eI t14)), (19, (eI t19)), (20, (eI s.2.2.2))] ∧ aO ⟨H0, [], []⟩ H [(lo6, 1, [(.msl 2 lo37 0 (List.length s.1))]), (lo37, 2, List.map bJ s.1), (lo7, 1, [(eI s.2.1)]), (lo25, 2, [(aD s.2.2.1)])]) hl1 ⟨lo37, .eq (by kernel_rfl), hO⟩ ?_
    clear hO
    rintro k1 s out2 T H ⟨lo37, hT, hO⟩ h2 ho1
    obtain ⟨out3, bZ, j7, t20⟩ := s
    replace h2 : lX t12 t13 t14 t19 out3 bZ j7 t20 = some out2 := h2
    try dsimp only at hT
    refine bB hT ?_
    clear hT
    unfold lX at h2
    refine aY aH 1 [] [(21, (aL (decide (t20 < t19))))] ?_
    refine aQ ?_
    refine bL h2 (fun h2 => ?_) (fun h2 => ?_)
    · refine bN ?_
      refine bD [(3, (.lp lo6 0 0)), (4, (.lp lo7 0 0)), (5, (.fn (.func 115) [] [(.lp lo6 0 0), (.lp lo7 0 0)])), (7, (.lp lo25 0 0)), (12, (eL aD t12)), (13, (eI t13)), (14, (eI t14)), (19, (eI t19)), (20, (eI t20))] ?_
      refine aQ ?_
      refine bR 3 ?_
      refine aT aH 7 ?_
      refine jN 0 lo6 1 0 (.msl 2 lo37 0 (List.length out3)) (.msl 2 lo37 0 (List.length out3)) [(.msl 2 lo37 0 (List.length out3))] hO rfl ?_
      refine bH 2 ?_
      refine jN 3 lo25 2 0 (aD j7) (eI j7.At) [(aD j7)] hO rfl ?_
      refine bH 4 ?_
      refine rV (xs := [(bJ (aR.mk j7.At 0))]) (k := 2) (by kernel_rfl) (by kernel_rfl) ?_
      obtain ⟨c40, h2⟩ := bM h2
      refine BR (e := bJ) out3 ([aR.mk j7.At 0]) 1 lo37 2 16 (dW [(bJ (aR.mk j7.At 0))]) (fun lo39 => [(lo6, 1, [(.msl 2 lo37 0 (List.length out3))]), (lo39, 2, List.map bJ (out3 ++ ([aR.mk j7.At 0]))), (lo7, 1, [(eI bZ)]), (lo25, 2, [(aD j7)])]) (by kernel_rfl) (by kernel_rfl) hO (by kernel_rfl) (by kernel_rfl) c40 (fun _ => by kernel_rfl) ?_
      intro lo39 H hO
      refine jJ 0 lo6 1 0 (.msl 2 lo37 0 (List.length out3)) (.msl 2 lo39 0 (List.length (out3 ++ ([aR.mk j7.At 0])))) [(.msl 2 lo37 0 (List.length out3))] [(lo6, 1, [(.msl 2 lo39 0 (List.length (out3 ++ ([aR.mk j7.At 0]))))]), (lo39, 2, List.map bJ (out3 ++ ([aR.mk j7.At 0]))), (lo7, 1, [(eI bZ)]), (lo25, 2, [(aD j7)])] hO rfl (by kernel_rfl) ?_
      intro H hO
      refine cJ ?_
      refine dK [(3, (.lp lo6 0 0)), (4, (.lp lo7 0 0)), (5, (.fn (.func 115) [] [(.lp lo6 0 0), (.lp lo7 0 0)])), (7, (.lp lo25 0 0)), (12, (eL aD t12)), (13, (eI t13)), (14, (eI t14)), (19, (eI t19)), (20, (eI t20))] ?_
      refine aK (aZ (aJ (?_)))
      refine aT aH 2 ?_
      refine bC ?_
      exact aK (aJ (⟨rfl, _, (oI h2).symm, _, .eq (by kernel_rfl), hO⟩))
    refine eC 2 ?_
    obtain rfl := oI h2
    obtain rfl : _ = rr1 := ho1
    replace h1 : tH out3 bZ j7 t12 t13 t14 = some out1 := h1
    exact aK (aW (aW (bO (aJ (⟨rfl, _, _, _, _, .eq (by kernel_rfl), hO, h1⟩)))))
  refine eC 0 ?_
  obtain rfl := oI h1
  obtain rfl : _ = rr0 := ho0
  replace h0 : tS out3 bZ = some r := h0
  exact aK (aW (aW (bO (aJ (⟨rfl, _, _, _, .eq (by kernel_rfl), hO, h0⟩)))))

theorem HD (l0 : (List aC)) (r : ((List aI) × Int)) (h0 : qO l0 = some r) : bS Try.prog 43 [(eL aE l0)] (.tup [(eL aF r.1), (eI r.2)]) := by
  intro H0
  refine EI aH Try.func43 (by kernel_rfl) (by kernel_rfl) (by kernel_rfl) ?_
  have hO := aO.start H0
  unfold qO at h0
  refine aY aH 2 [] [] ?_
  refine aQ ?_
  refine bR 0 ?_
  refine aQ ?_
  refine aT aH 4 ?_
  refine bH 1 ?_
  obtain ⟨x1, hx2, h0⟩ := aU h0
  refine cH (FM l0 _ hx2) hO ?_
  intro H hO
  refine bC ?_
  refine bP [] [(12, (aL (!x1)))] ?_
  refine bL h0 (fun h0 => ?_) (fun h0 => ?_)
  · refine bV aH 2 [(2, (.sl true 0 (fun _ => .bad))), (3, (eI (2 : Int)))] ?_
    refine bI ?_
    refine cS (l := [(2, (eL aF ([]))), (3, (eI (2 : Int)))]) ⟨[(2, (.sl true 0 (fun _ => .bad))), (3, (eI (2 : Int)))], by kernel_rfl, rfl, ⟨fG, aX.refl _, trivial⟩⟩ ?_
    obtain rfl := oI h0
    exact aK (bY (bA (QM0 (.inr rfl) (rs := [.tmp 2, .tmp 3]) (xs := [(eL aF ([])), (eI (2 : Int))]) (x := (.tup [(eL aF ([])), (eI (2 : Int))])) (by kernel_rfl) (AP (x := (eL aF ([]))) (by kernel_rfl) (AP (x := (eI (2 : Int))) (by kernel_rfl) rZ)) (by kernel_rfl) ⟨rfl, hO.out⟩)))
  refine aQ ?_
  refine aT aH 4 ?_
  refine bH 1 ?_
  obtain ⟨x5, hx6, h0⟩ := aU h0
  refine cH (TM l0 _ hx6) hO ?_
  intro H hO
  refine bC ?_
  refine bP [12] [(16, (aL (!x5)))] ?_
  refine bL h0 (fun h0 => ?_) (fun h0 => ?_)
  · refine bV aH 2 [(2, (.sl true 0 (fun _ => .bad))), (3, (eI (20 : Int)))] ?_
    refine bI ?_
    refine cS (l := [(2, (eL aF ([]))), (3, (eI (20 : Int)))]) ⟨[(2, (.sl true 0 (fun _ => .bad))), (3, (eI (20 : Int)))], by kernel_rfl, rfl, ⟨fG, aX.refl _, trivial⟩⟩ ?_
    obtain rfl := oI h0
    exact aK (bY (bA (QM0 (.inr rfl) (rs := [.tmp 2, .tmp 3]) (xs := [(eL aF ([])), (eI (20 : Int))]) (x := (.tup [(eL aF ([])), (eI (20 : Int))])) (by kernel_rfl) (AP (x := (eL aF ([]))) (by kernel_rfl) (AP (x := (eI (20 : Int))) (by kernel_rfl) rZ)) (by kernel_rfl) ⟨rfl, hO.out⟩)))
  refine bN ?_
  refine dK [(0, (eL aE l0))] ?_
  refine aK (aZ (aJ (?_)))
  refine aQ ?_
  refine aT aH 2 ?_
  refine mV 1 (eI 0) (by kernel_rfl) (by kernel_rfl) hO ?_
  intro lo9 H hO
  refine jJ 0 lo9 1 0 (eI 0) (eI (0 : Int)) [(eI 0)] [(lo9, 1, [(eI (0 : Int))])] hO rfl (by kernel_rfl) ?_
  intro H hO
  refine cJ ?_
  refine bP [] [(4, (.lp lo9 0 0))] ?_
  refine aQ ?_
  refine aQ ?_
  refine aT aH 2 ?_
  refine bH 1 ?_
  obtain ⟨x10, hx11, h0⟩ := aU h0
  refine cH (HB l0 _ hx11) hO ?_
  intro H hO
  refine cJ ?_
  refine bP [] [(21, (.fn (.func 117) [] [(.rp (eL aE x10))]))] ?_
  refine bR 1 ?_
  refine cW [(0, (eL aE l0)), (4, (.lp lo9 0 0)), (21, (.fn (.func 117) [] [(.rp (eL aE x10))]))] ?_
  refine cP (fun T H => ∃ n4 : Int, ∃ vW : (List aC), Has T [(0, (eL aE l0)), (4, (.lp lo9 0 0)), (21, (.fn (.func 117) [] [(.rp (eL aE vW))]))] ∧ aO ⟨H0, [], []⟩ H [(lo9, 1, [(eI n4)])] ∧ vS l0 n4 vW = some r) ?_ ⟨(0 : Int), x10, .eq (by kernel_rfl), hO, h0⟩
  clear hO h0
  rintro T H ⟨n4, vW, hT, hO, h0⟩
  refine bB (l := [(0, (eL aE l0)), (4, (.lp lo9 0 0)), (21, (.fn (.func 117) [] [(.rp (eL aE vW))]))]) hT ?_
  clear hT
  unfold vS at h0
  obtain ⟨o0, hl0, h0⟩ := aU h0
  refine CU (fid := 117) (ys := []) (cs := [(.rp (eL aE vW))]) #[22, 23] (fun (A : zV) (b lL : Nat) (st : (Int) ⊕ (Int)) (G' : Gs) => Sum.elim (fun (s : Int) => G' = (lL, .raw (kH b A .ready none)) :: (up [(lo9, 1, [(eI s)])] ++ [])) (fun (s : Int) => False) st) (.inl n4) o0 (.tup []) (by kernel_rfl) (by kernel_rfl) (by kernel_rfl) hO (fun _ _ => rfl) ?_ ?_
  · intro b lL
    clear hO h0
    refine BD _ b (fun st t22 t23 => rnd (fun (s : Int) => oG l0 vW s t22 t23) st) ?_ vW _ _ hl0
    intro st t22 t23 out1 rr hr
    obtain ⟨s, rfl, h1, rfl⟩ := UT hr
    clear hr
    intro Hr Gr hi hg
    obtain ⟨n4, rfl⟩ : ∃ x, x = s := ⟨_, rfl⟩
    dsimp only [Sum.elim_inl] at hi
    obtain rfl := hi
    replace h1 : oG l0 vW n4 t22 t23 = some out1 := h1
    unfold oG at h1
    obtain ⟨E1, hE, hO⟩ := wH hg
    refine wV (CT (hO.gm 0 _ rfl).2 (by kernel_rfl) (by kernel_rfl) ?_)
    refine cW [(0, (eL aE l0)), (4, (.lp lo9 0 0)), (21, (.fn (.func 117) [] [(.rp (eL aE vW))])), (22, (eL aM t22)), (23, (eL aD t23))] ?_
    refine aT aH 1 ?_
    refine bC ?_
    refine dK [(4, (.lp lo9 0 0)), (6, (eL aD t23))] ?_
    refine aK (⟨rfl, rfl, (hO.gm 0 _ rfl).2, ?_⟩)
    intro o1 ho1
    replace hO := hO.wA o1
    refine bR 2 ?_
    refine jT (jS [26]) aH 5 ?_
    refine lI 0 lo9 1 0 (eI n4) (eI n4) [(eI n4)] hO rfl ?_
    refine sD 2 ?_
    obtain ⟨x12, hx13, h1⟩ := aU h1
    refine xW (KJ t23 _ hx13) hO ?_
    intro H hO
    refine sD 4 ?_
    refine sY 0 lo9 1 0 (eI n4) (eI (wR (n4 + x12))) [(eI n4)] [(lo9, 1, [(eI (wR (n4 + x12)))])] hO rfl (by kernel_rfl) ?_
    intro H hO
    refine yK (by kernel_rfl) ?_
    refine dK [(4, (.lp lo9 0 0))] ?_
    obtain rfl := oI h1
    exact aK (aZ (⟨(gC hO hE ho1 .dead).1, rfl, _, rfl, (gC hO hE ho1 _).2⟩))
  · intro b lD15 lL H' G' hi hO
    rcases o0 with s | s
    · dsimp only [Sum.elim_inl] at hi
      obtain rfl := hi
      replace h0 : (cond (decide ((4096 : Int) < s)) (some ([], (7 : Int))) (bK (0 ≤ s ∧ (40 : Int) * s ≤ 281474976710656 ∧ s ≤ 9223372036854775807) <| (qR l0).bind fun x20 => sJ ([] : List aI) x20)) = some r := h0
      obtain ⟨hlL, hO⟩ := rH hO
      refine ⟨_, _, hlL, (by intro e; cases e), ?_⟩
      refine dK [(0, (eL aE l0)), (4, (.lp lo9 0 0))] ?_
      refine aK (aZ (aJ (?_)))
      refine aQ ?_
      refine aQ ?_
      refine aT aH 2 ?_
      refine jN 0 lo9 1 0 (eI s) (eI s) [(eI s)] hO rfl ?_
      refine bC ?_
      refine bP [] [(29, (aL (decide ((4096 : Int) < s))))] ?_
      refine bL h0 (fun h0 => ?_) (fun h0 => ?_)
      · refine aQ ?_
        refine aT aH 2 ?_
        refine bC ?_
        refine dK [(2, (.sl true 0 (fun _ => .bad))), (3, (eI (7 : Int)))] ?_
        replace hO := hO.pick (L' := []) [] (by decide) (by kernel_rfl)
        refine aK (aJ (?_))
        refine bI ?_
        refine cS (l := [(2, (eL aF ([]))), (3, (eI (7 : Int)))]) ⟨[(2, (.sl true 0 (fun _ => .bad))), (3, (eI (7 : Int)))], by kernel_rfl, rfl, ⟨fG, aX.refl _, trivial⟩⟩ ?_
        obtain rfl := oI h0
        have hD := (hO.gm 0 _ rfl).2
        replace hO := (hO.wA .dead).vP
        exact aK (bA (QM1 (.inr rfl) hD (rs := [.tmp 2, .tmp 3]) (xs := [(eL aF ([])), (eI (7 : Int))]) (x := (.tup [(eL aF ([])), (eI (7 : Int))])) (by kernel_rfl) (AP (x := (eL aF ([]))) (by kernel_rfl) (AP (x := (eI (7 : Int))) (by kernel_rfl) rZ)) (by kernel_rfl) ⟨rfl, hO.out⟩))
      refine bN ?_
      refine bD [(0, (eL aE l0)), (4, (.lp lo9 0 0))] ?_
      refine aQ ?_
      refine aT aH 4 ?_
      refine jN 0 lo9 1 0 (eI s) (eI s) [(eI s)] hO rfl ?_
      obtain ⟨c17, h0⟩ := bM h0
      refine JM 3 40 s (by kernel_rfl) (by kernel_rfl) c17 hO ?_
      intro lo18 H hO
      refine qD 1 (.sl true 0 (fun _ => .bad)) (eL aF ([])) (by kernel_rfl) (by kernel_rfl) (by kernel_rfl) (fG) (by kernel_rfl) (by kernel_rfl) hO ?_
      intro lo19 H hO
      refine jJ 2 lo19 1 0 (eL aF ([])) (.msl 3 lo18 0 (List.length ([] : List aI))) [(eL aF ([]))] [(lo9, 1, [(eI s)]), (lo18, 3, List.map aF ([] : List aI)), (lo19, 1, [(.msl 3 lo18 0 (List.length ([] : List aI)))])] hO rfl (by kernel_rfl) ?_
      intro H hO
      refine cJ ?_
      replace hO := hO.pick (L' := [(lo19, 1, [(.msl 3 lo18 0 (List.length ([] : List aI)))]), (lo18, 3, List.map aF ([] : List aI))]) [2, 1] (by decide) (by kernel_rfl)
      refine bP [4] [(7, (.lp lo19 0 0))] ?_
      refine aQ ?_
      refine aQ ?_
      refine aT aH 2 ?_
      refine bH 1 ?_
      obtain ⟨x20, hx21, h0⟩ := aU h0
      refine cH (HB l0 _ hx21) hO ?_
      intro H hO
      refine cJ ?_
      refine bP [0] [(33, (.fn (.func 117) [] [(.rp (eL aE x20))]))] ?_
      refine bR 3 ?_
      refine cW [(7, (.lp lo19 0 0)), (33, (.fn (.func 117) [] [(.rp (eL aE x20))]))] ?_
      refine cP (fun T H => ∃ out7 : List aI, ∃ vQ : (List aC), ∃ lo22 : Nat, Has T [(7, (.lp lo19 0 0)), (33, (.fn (.func 117) [] [(.rp (eL aE vQ))]))] ∧ aO ⟨H0, [], (lD15, .raw wF) :: []⟩ H [(lo19, 1, [(.msl 3 lo22 0 (List.length out7))]), (lo22, 3, List.map aF out7)] ∧ sJ out7 vQ = some r) ?_ ⟨([] : List aI), x20, lo18, .eq (by kernel_rfl), hO, h0⟩
      clear hO h0
      rintro T H ⟨out7, vQ, lo22, hT, hO, h0⟩
      refine bB (l := [(7, (.lp lo19 0 0)), (33, (.fn (.func 117) [] [(.rp (eL aE vQ))]))]) hT ?_
      clear hT
      unfold sJ at h0
      obtain ⟨o0, hl0, h0⟩ := aU h0
      refine CU (fid := 117) (ys := []) (cs := [(.rp (eL aE vQ))]) #[34, 35] (fun (A : zV) (b lL : Nat) (st : (List aI) ⊕ (List aI)) (G' : Gs) => Sum.elim (fun (s : List aI) => ∃ lo22 : Nat, G' = (lL, .raw (kH b A .ready none)) :: (up [(lo19, 1, [(.msl 3 lo22 0 (List.length s))]), (lo22, 3, List.map aF s)] ++ (lD15, .raw wF) :: [])) (fun (s : List aI) => False) st) (.inl out7) o0 (.tup []) (by kernel_rfl) (by kernel_rfl) (by kernel_rfl) hO (fun _ _ => ⟨lo22, rfl⟩) ?_ ?_
      · intro b lL
        clear hO h0
        refine BD _ b (fun st t34 t35 => rnd (fun (s : List aI) => nY vQ s t34 t35) st) ?_ vQ _ _ hl0
        intro st t34 t35 out1 rr hr
        obtain ⟨s, rfl, h1, rfl⟩ := UT hr
        clear hr
        intro Hr Gr hi hg
        obtain ⟨out7, rfl⟩ : ∃ x, x = s := ⟨_, rfl⟩
        dsimp only [Sum.elim_inl] at hi
        obtain ⟨lo22, rfl⟩ := hi
        replace h1 : nY vQ out7 t34 t35 = some out1 := h1
        unfold nY at h1
        obtain ⟨E1, hE, hO⟩ := wH hg
        refine wV (CT (hO.gm 0 _ rfl).2 (by kernel_rfl) (by kernel_rfl) ?_)
        refine cW [(7, (.lp lo19 0 0)), (33, (.fn (.func 117) [] [(.rp (eL aE vQ))])), (34, (eL aM t34)), (35, (eL aD t35))] ?_
        refine aY aH 1 [33, 34] [(8, (eL aM t34))] ?_
        refine aT aH 1 ?_
        refine bC ?_
        refine dK [(7, (.lp lo19 0 0)), (8, (eL aM t34)), (9, (eL aD t35))] ?_
        refine aK (⟨rfl, rfl, (hO.gm 0 _ rfl).2, ?_⟩)
        intro o1 ho1
        replace hO := hO.wA o1
        refine bR 4 ?_
        refine aQ ?_
        refine aT aH 4 ?_
        refine bH 1 ?_
        obtain ⟨x23, hx24, h1⟩ := aU h1
        refine cH (UB t35 _ hx24) hO ?_
        intro H hO
        refine bC ?_
        refine bP [9] [(37, (eL bJ x23)), (38, (eI (lN x23))), (39, (eI (0 : Int)))] ?_
        refine bR 5 ?_
        refine cW [(7, (.lp lo19 0 0)), (8, (eL aM t34)), (37, (eL bJ x23)), (38, (eI (lN x23))), (39, (eI (0 : Int)))] ?_
        refine cP (fun T H => ∃ out7 : List aI, ∃ r8 : (List aG), ∃ t37 : (List aR), ∃ t38 : Int, ∃ t39 : Int, ∃ lo27 : Nat, Has T [(7, (.lp lo19 0 0)), (8, (eL aM r8)), (37, (eL bJ t37)), (38, (eI t38)), (39, (eI t39))] ∧ aO ⟨Hr, E1, (lL, o1) :: (lD15, .raw wF) :: []⟩ H [(lo19, 1, [(.msl 3 lo27 0 (List.length out7))]), (lo27, 3, List.map aF out7)] ∧ sG out7 r8 t37 t38 t39 = some out1) ?_ ⟨out7, t34, x23, (lN x23), (0 : Int), lo22, .eq (by kernel_rfl), hO, h1⟩
        clear hO h1
        rintro T H ⟨out7, r8, t37, t38, t39, lo27, hT, hO, h1⟩
        refine bB hT ?_
        clear hT
        unfold sG at h1
        obtain ⟨rr1, hl1, h1⟩ := aU h1
        refine cD (by kernel_rfl) (fun (s : List aI × Int) T H => ∃ lo27 : Nat, Has T [(7, (.lp lo19 0 0)), (8, (eL aM r8)), (37, (eL bJ t37)), (38, (eI t38)), (39, (eI s.2))] ∧ aO ⟨Hr, E1, (lL, o1) :: (lD15, .raw wF) :: []⟩ H [(lo19, 1, [(.msl 3 lo27 0 (List.length s.1))]), (lo27, 3, List.map aF s.1)]) hl1 ⟨lo27, .eq (by kernel_rfl), hO⟩ ?_
        clear hO
        rintro k1 s out2 T H ⟨lo27, hT, hO⟩ h2 ho1
        obtain ⟨out7, t39⟩ := s
        replace h2 : mI r8 t37 t38 out7 t39 = some out2 := h2
        try dsimp only at hT
        refine bB hT ?_
        clear hT
        unfold mI at h2
        refine aY aH 1 [] [(40, (aL (decide (t39 < t38))))] ?_
        refine aQ ?_
        refine bL h2 (fun h2 => ?_) (fun h2 => ?_)
        · refine bN ?_
          refine bD [(7, (.lp lo19 0 0)), (8, (eL aM r8)), (37, (eL bJ t37)), (38, (eI t38)), (39, (eI t39))] ?_
          refine aQ ?_
          refine bR 6 ?_
          refine aQ ?_
          refine aT aH 4 ?_
          obtain ⟨c29, h2⟩ := bM h2
          refine sC 2 [0 ≤ t39 ∧ t39 < (lN t37)] ⟨c29, trivial⟩ ?_
          refine mV 2 (bJ (aR.mk 0 0)) (by kernel_rfl) (by kernel_rfl) hO ?_
          intro lo30 H hO
          refine jJ 2 lo30 2 0 (bJ (aR.mk 0 0)) (bJ (gD t37 t39)) [(bJ (aR.mk 0 0))] [(lo19, 1, [(.msl 3 lo27 0 (List.length out7))]), (lo27, 3, List.map aF out7), (lo30, 2, [(bJ (gD t37 t39))])] hO rfl (by kernel_rfl) ?_
          intro H hO
          refine cJ ?_
          refine bP [] [(11, (.lp lo30 0 0))] ?_
          refine cW [(7, (.lp lo19 0 0)), (8, (eL aM r8)), (11, (.lp lo30 0 0)), (37, (eL bJ t37)), (38, (eI t38)), (39, (eI t39))] ?_
          refine DH 2 2 11 2 lo30 (bJ (gD t37 t39)) [(lo19, 1, [(.msl 3 lo27 0 (List.length out7))]), (lo27, 3, List.map aF out7)] hO (by kernel_rfl) (by kernel_rfl) (by kernel_rfl) ?_
          intro H hO
          refine jT (jS [45, 46, 48]) aH 8 ?_
          refine lI 0 lo19 1 0 (.msl 3 lo27 0 (List.length out7)) (.msl 3 lo27 0 (List.length out7)) [(.msl 3 lo27 0 (List.length out7))] hO rfl ?_
          refine sD 2 ?_
          obtain ⟨x31, hx32, h2⟩ := aU h2
          refine xW (yO r8 _ hx32) hO ?_
          intro H hO
          refine sD 5 ?_
          refine JH (xs := [(aF (aI.mk x31 (gD t37 t39)))]) (k := 3) (by kernel_rfl) (by kernel_rfl) ?_
          obtain ⟨c35, h2⟩ := bM h2
          refine EW (e := aF) out7 ([aI.mk x31 (gD t37 t39)]) 1 lo27 3 40 (dW [(aF (aI.mk x31 (gD t37 t39)))]) (fun lo34 => [(lo19, 1, [(.msl 3 lo27 0 (List.length out7))]), (lo34, 3, List.map aF (out7 ++ ([aI.mk x31 (gD t37 t39)])))]) (by kernel_rfl) (by kernel_rfl) hO (by kernel_rfl) (by kernel_rfl) c35 (fun _ => by kernel_rfl) ?_
          intro lo34 H hO
          refine sY 0 lo19 1 0 (.msl 3 lo27 0 (List.length out7)) (.msl 3 lo34 0 (List.length (out7 ++ ([aI.mk x31 (gD t37 t39)])))) [(.msl 3 lo27 0 (List.length out7))] [(lo19, 1, [(.msl 3 lo34 0 (List.length (out7 ++ ([aI.mk x31 (gD t37 t39)]))))]), (lo34, 3, List.map aF (out7 ++ ([aI.mk x31 (gD t37 t39)])))] hO rfl (by kernel_rfl) ?_
          intro H hO
          refine yK (by kernel_rfl) ?_
          refine dK [(7, (.lp lo19 0 0)), (8, (eL aM r8)), (37, (eL bJ t37)), (38, (eI t38)), (39, (eI t39))] ?_
          refine aK (aZ (aJ (?_)))
          refine aT aH 2 ?_
          refine bC ?_
          exact aK (aJ (⟨rfl, _, (oI h2).symm, _, .eq (by kernel_rfl), hO⟩))
        refine eC 5 ?_
        refine dK [(7, (.lp lo19 0 0))] ?_
        obtain rfl := oI h2
        obtain rfl : _ = rr1 := ho1
        replace h1 : some (.inl out7) = some out1 := h1
        obtain rfl := oI h1
        exact aK (aW (aW (bO (aZ (⟨(gC hO hE ho1 .dead).1, rfl, _, ⟨lo27, rfl⟩, (gC hO hE ho1 _).2⟩)))))
      · intro b lD36 lL H' G' hi hO
        rcases o0 with s | s
        · dsimp only [Sum.elim_inl] at hi
          obtain ⟨lo22, rfl⟩ := hi
          replace h0 : (some (s, (0 : Int))) = some r := h0
          obtain ⟨hlL, hO⟩ := rH hO
          refine ⟨_, _, hlL, (by intro e; cases e), ?_⟩
          refine dK [(7, (.lp lo19 0 0))] ?_
          refine aK (aZ (aJ (?_)))
          refine aQ ?_
          refine aT aH 3 ?_
          refine jN 0 lo19 1 0 (.msl 3 lo22 0 (List.length s)) (.msl 3 lo22 0 (List.length s)) [(.msl 3 lo22 0 (List.length s))] hO rfl ?_
          refine bC ?_
          refine dK [(2, (.msl 3 lo22 0 (List.length s))), (3, (eI (0 : Int)))] ?_
          replace hO := hO.pick (L' := [(lo22, 3, List.map aF s)]) [1] (by decide) (by kernel_rfl)
          refine aK (aJ (?_))
          refine bI ?_
          refine dK [(2, (.msl 3 lo22 0 (List.length s))), (3, (eI (0 : Int)))] ?_
          refine yD (en := aF) s 0 0 2 3 lo22 (List.length s) hO (by kernel_rfl) (by kernel_rfl) (by kernel_rfl) (L' := []) (by kernel_rfl) ?_
          intro H37 hO
          obtain rfl := oI h0
          have hD := (hO.gm 0 _ rfl).2
          have hE := (hO.gm 1 _ rfl).2
          have hF := hO.gn 0 1 _ _ rfl rfl (by decide)
          replace hO := ((hO.wA .dead).vP.wA .dead).vP
          exact aK (QM2 (.inr rfl) hD hE hF (rs := [.tmp 2, .tmp 3]) (xs := [(eL aF s), (eI (0 : Int))]) (x := (.tup [(eL aF s), (eI (0 : Int))])) (by kernel_rfl) (AP (x := (eL aF s)) (by kernel_rfl) (AP (x := (eI (0 : Int))) (by kernel_rfl) rZ)) (by kernel_rfl) ⟨rfl, hO.out⟩)
        · exact hi.elim
    · exact hi.elim

theorem wW (l0 : (List aI)) (r : ((List aI) × Int)) (h0 : oL l0 = some r) : bS Try.prog 11 [(eL aF l0)] (.tup [(eL aF r.1), (eI r.2)]) := by
  intro H0
  refine cI Try.func11 ?_
  have hO := aO.start H0
  unfold oL at h0
  refine aY aH 2 [] [] ?_
  refine aQ ?_
  refine aT aH 7 ?_
  refine bH 1 ?_
  obtain ⟨x1, hx2, h0⟩ := aU h0
  refine cH (IE l0 _ hx2) hO ?_
  intro H hO
  refine bC ?_
  refine bD [(4, (eL aE x1.1)), (5, (eI x1.2))] ?_
  refine aQ ?_
  refine aY aH 2 [] [(12, (aL (!decide (x1.2 = (0 : Int)))))] ?_
  refine bL h0 (fun h0 => ?_) (fun h0 => ?_)
  · refine bV aH 3 [(2, (.sl true 0 (fun _ => .bad))), (3, (eI x1.2))] ?_
    refine bI ?_
    refine cS (l := [(2, (eL aF ([]))), (3, (eI x1.2))]) ⟨[(2, (.sl true 0 (fun _ => .bad))), (3, (eI x1.2))], by kernel_rfl, rfl, ⟨fG, aX.refl _, trivial⟩⟩ ?_
    obtain rfl := oI h0
    exact aK (bA (Q_r hO))
  refine bN ?_
  refine bD [(4, (eL aE x1.1))] ?_
  refine aQ ?_
  refine aT aH 6 ?_
  refine bH 1 ?_
  obtain ⟨x5, hx6, h0⟩ := aU h0
  refine cH (HD x1.1 _ hx6) hO ?_
  intro H hO
  refine bC ?_
  refine bD [(2, (eL aF x5.1)), (3, (eI x5.2))] ?_
  refine bI ?_
  obtain rfl := oI h0
  exact aK (Q_r hO)

theorem nT (s10 : (List aI)) (s21 : (List aI)) (eq2_f : Nat) (eq2_a eq2_c : List V) (eq2 : aI → aI → Option Bool) (eq2_h : ∀ a0 a1 r, eq2 a0 a1 = some r → bS Try.prog eq2_f (eq2_a ++ [(aF a0), (aF a1)] ++ eq2_c) (aL r)) (r : Bool) (h0 : cM s10 s21 eq2 = some r) : bS Try.prog 81 [(eL aF s10), (eL aF s21), (.fn (.func eq2_f) eq2_a eq2_c)] (aL r) := by
  intro H0
  refine cI Try.func81 ?_
  have hO := aO.start H0
  unfold cM at h0
  refine aY aH 1 [] [] ?_
  refine aQ ?_
  refine aY aH 5 [] [(14, (aL (!decide ((lN s10) = (lN s21)))))] ?_
  refine bL h0 (fun h0 => ?_) (fun h0 => ?_)
  · refine bV aH 1 [(6, (aL false))] ?_
    refine bI ?_
    obtain rfl := oI h0
    exact aK (bA (Q_r hO))
  refine bN ?_
  refine bD [(0, (eL aF s10)), (1, (eL aF s21)), (2, (.fn (.func eq2_f) eq2_a eq2_c))] ?_
  refine dG (fun T H => Has T [] ∧ aO ⟨H0, [], []⟩ H [] ∧ cF eq2  = some r) ?_ ?_
  · clear hO h0
    rintro T H ⟨hT, hO, h0⟩
    refine bB hT ?_
    clear hT
    unfold cF at h0
    refine bV aH 1 [(6, (aL true))] ?_
    refine bI ?_
    obtain rfl := oI h0
    exact aK (Q_r hO)
  refine aY aH 3 [0] [(15, (eL aF s10)), (16, (eI (lN s10))), (17, (eI (0 : Int)))] ?_
  refine bR 0 ?_
  refine cW [(1, (eL aF s21)), (2, (.fn (.func eq2_f) eq2_a eq2_c)), (15, (eL aF s10)), (16, (eI (lN s10))), (17, (eI (0 : Int)))] ?_
  refine cP (fun T H => ∃ t15 : (List aI), ∃ t16 : Int, ∃ t17 : Int, Has T [(1, (eL aF s21)), (2, (.fn (.func eq2_f) eq2_a eq2_c)), (15, (eL aF t15)), (16, (eI t16)), (17, (eI t17))] ∧ aO ⟨H0, [], []⟩ H [] ∧ cL eq2 s21 t15 t16 t17 = some r) ?_ ⟨s10, (lN s10), (0 : Int), .eq (by kernel_rfl), hO, h0⟩
  clear hO h0
  rintro T H ⟨t15, t16, t17, hT, hO, h0⟩
  refine bB hT ?_
  clear hT
  unfold cL at h0
  obtain ⟨rr0, hl0, h0⟩ := aU h0
  refine cD (by kernel_rfl) (fun (s : Int) T H => Has T [(1, (eL aF s21)), (2, (.fn (.func eq2_f) eq2_a eq2_c)), (15, (eL aF t15)), (16, (eI t16)), (17, (eI s))] ∧ aO ⟨H0, [], []⟩ H []) hl0 ⟨.eq (by kernel_rfl), hO⟩ ?_
  clear hO
  rintro k0 s out1 T H ⟨hT, hO⟩ h1 ho0
  obtain ⟨t17, rfl⟩ : ∃ x, x = s := ⟨_, rfl⟩
  replace h1 : bX eq2 s21 t15 t16 t17 = some out1 := h1
  refine bB hT ?_
  clear hT
  unfold bX at h1
  refine aY aH 1 [] [(18, (aL (decide (t17 < t16))))] ?_
  refine aQ ?_
  refine bL h1 (fun h1 => ?_) (fun h1 => ?_)
  · refine bN ?_
    refine bD [(1, (eL aF s21)), (2, (.fn (.func eq2_f) eq2_a eq2_c)), (15, (eL aF t15)), (16, (eI t16)), (17, (eI t17))] ?_
    refine aQ ?_
    refine bR 1 ?_
    refine aQ ?_
    refine aT aH 6 ?_
    obtain ⟨c3, h1⟩ := bM h1
    refine sC 3 [0 ≤ t17 ∧ t17 < (lN t15)] ⟨c3, trivial⟩ ?_
    refine qD 3 (.agg [(.sl true 0 (fun _ => .bad)), (eI 0), (eI 0)]) (aF (aI.mk ([]) (aR.mk 0 0))) (by kernel_rfl) (by kernel_rfl) (by kernel_rfl) (CR (xs := [(.sl true 0 (fun _ => .bad)), (eI 0), (eI 0)]) (ys := [(eL aM ([])), (eI 0), (eI 0)]) ⟨fG, aX.refl _, aX.refl _, trivial⟩) (by kernel_rfl) (by kernel_rfl) hO ?_
    intro lo4 H hO
    refine bH 5 ?_
    refine jJ 0 lo4 3 0 (aF (aI.mk ([]) (aR.mk 0 0))) (aF (gD t15 t17)) [(aF (aI.mk ([]) (aR.mk 0 0)))] [(lo4, 3, [(aF (gD t15 t17))])] hO rfl (by kernel_rfl) ?_
    intro H hO
    refine cJ ?_
    refine bP [] [(7, (eI t17)), (8, (.lp lo4 0 0))] ?_
    refine aQ ?_
    refine aT aH 6 ?_
    obtain ⟨c5, h1⟩ := bM h1
    refine sC 4 [0 ≤ t17 ∧ t17 < (lN s21)] ⟨c5, trivial⟩ ?_
    refine qD 3 (.agg [(.sl true 0 (fun _ => .bad)), (eI 0), (eI 0)]) (aF (aI.mk ([]) (aR.mk 0 0))) (by kernel_rfl) (by kernel_rfl) (by kernel_rfl) (CR (xs := [(.sl true 0 (fun _ => .bad)), (eI 0), (eI 0)]) (ys := [(eL aM ([])), (eI 0), (eI 0)]) ⟨fG, aX.refl _, aX.refl _, trivial⟩) (by kernel_rfl) (by kernel_rfl) hO ?_
    intro lo6 H hO
    refine jJ 1 lo6 3 0 (aF (aI.mk ([]) (aR.mk 0 0))) (aF (gD s21 t17)) [(aF (aI.mk ([]) (aR.mk 0 0)))] [(lo4, 3, [(aF (gD t15 t17))]), (lo6, 3, [(aF (gD s21 t17))])] hO rfl (by kernel_rfl) ?_
    intro H hO
    refine cJ ?_
    refine bP [7] [(9, (.lp lo6 0 0))] ?_
    refine aQ ?_
    refine aT aH 5 ?_
    refine bH 1 ?_
    refine jN 0 lo4 3 0 (aF (gD t15 t17)) (aF (gD t15 t17)) [(aF (gD t15 t17))] hO rfl ?_
    refine jN 1 lo6 3 0 (aF (gD s21 t17)) (aF (gD s21 t17)) [(aF (gD s21 t17))] hO rfl ?_
    obtain ⟨x7, hx8, h1⟩ := aU h1
    refine cH (eq2_h (gD t15 t17) (gD s21 t17) _ hx8) hO ?_
    intro H hO
    refine bC ?_
    replace hO := hO.pick (L' := []) [] (by decide) (by kernel_rfl)
    refine bP [8, 9] [(30, (aL (!x7)))] ?_
    refine bL h1 (fun h1 => ?_) (fun h1 => ?_)
    · refine bV aH 1 [(6, (aL false))] ?_
      refine bI ?_
      obtain rfl := oI h1
      obtain rfl : _ = rr0 := ho0
      replace h0 : some false = some r := h0
      obtain rfl := oI h0
      exact aK (bY (bA (bA (bY (bA (Q_r hO))))))
    refine bN ?_
    refine dK [(1, (eL aF s21)), (2, (.fn (.func eq2_f) eq2_a eq2_c)), (15, (eL aF t15)), (16, (eI t16)), (17, (eI t17))] ?_
    refine aK (aZ (aJ (?_)))
    refine aT aH 2 ?_
    refine bC ?_
    exact aK (aJ (⟨rfl, _, (oI h1).symm, .eq (by kernel_rfl), hO⟩))
  refine eC 0 ?_
  obtain rfl := oI h1
  obtain rfl : _ = rr0 := ho0
  replace h0 : cF eq2  = some r := h0
  exact aK (aW (aW (bO (aJ (⟨rfl, .eq (by kernel_rfl), hO, h0⟩)))))

theorem RK (x0 : aI) (y1 : aI) (r : Bool) (h0 : oY x0 y1 = some r) : bS Try.prog 82 [(aF x0), (aF y1)] (aL r) := by
  intro H0
  refine cI Try.func82 ?_
  have hO := aO.start H0
  unfold oY at h0
  refine aQ ?_
  refine aT aH 3 ?_
  refine gW 3 (aF x0) (by kernel_rfl) (by kernel_rfl) ?_
  refine gW 3 (aF y1) (by kernel_rfl) (by kernel_rfl) ?_
  refine bC ?_
  refine bD [(2, (.rp (aF x0))), (3, (.rp (aF y1)))] ?_
  refine aQ ?_
  refine aT aH 13 ?_
  refine bH 10 ?_
  obtain ⟨x1, hx2, h0⟩ := aU h0
  refine fV [(10, true)] 78 [(eL aM x0.Row), (eL aM y1.Row)] (aL x1) ((decide (x0.Span.From = y1.Span.From)) && ((decide (x0.Span.To = y1.Span.To)) && true)) (by kernel_rfl) (by kernel_rfl) (by kernel_rfl) (fun hb3 => (LW x0.Row y1.Row _ (iU hx2 hb3))) hO ?_
  intro H hO
  refine bC ?_
  refine bD [(4, (aL (((decide (x0.Span.From = y1.Span.From)) && ((decide (x0.Span.To = y1.Span.To)) && true)) && x1)))] ?_
  refine bI ?_
  obtain rfl := oI h0
  exact aK (Q_r hO)

theorem WA (a0 : (List aI)) (b1 : (List aI)) (r : Bool) (h0 : tX a0 b1 = some r) : bS Try.prog 41 [(eL aF a0), (eL aF b1)] (aL r) := by
  intro H0
  refine cI Try.func41 ?_
  have hO := aO.start H0
  unfold tX at h0
  refine aY aH 1 [] [] ?_
  refine aQ ?_
  refine aT aH 4 ?_
  refine bH 2 ?_
  obtain ⟨x1, hx2, h0⟩ := aU h0
  refine cH (nT a0 b1 82 [] [] (fun y0 y1 => oY y0 y1) (fun y0 y1 r h => RK y0 y1 r h) _ hx2) hO ?_
  intro H hO
  refine bC ?_
  refine bD [(4, (aL x1))] ?_
  refine bI ?_
  obtain rfl := oI h0
  exact aK (Q_r hO)

theorem SV (a0 : (List aG)) (b1 : (List aG)) (r : Bool) (h0 : uV a0 b1 = some r) : bS Try.prog 46 [(eL aM a0), (eL aM b1)] (aL r) := by
  intro H0
  refine cI Try.func46 ?_
  have hO := aO.start H0
  unfold uV at h0
  refine aY aH 1 [] [] ?_
  refine aQ ?_
  refine aY aH 5 [] [(10, (aL (!decide ((lN a0) = (lN b1)))))] ?_
  refine bL h0 (fun h0 => ?_) (fun h0 => ?_)
  · refine bV aH 1 [(4, (aL false))] ?_
    refine bI ?_
    obtain rfl := oI h0
    exact aK (bA (Q_r hO))
  refine bN ?_
  refine bD [(0, (eL aM a0)), (1, (eL aM b1))] ?_
  refine dG (fun T H => Has T [] ∧ aO ⟨H0, [], []⟩ H [] ∧ tD  = some r) ?_ ?_
  · clear hO h0
    rintro T H ⟨hT, hO, h0⟩
    refine bB hT ?_
    clear hT
    unfold tD at h0
    refine bV aH 1 [(4, (aL true))] ?_
    refine bI ?_
    obtain rfl := oI h0
    exact aK (Q_r hO)
  refine aY aH 1 [] [(5, (eI (0 : Int)))] ?_
  refine bR 0 ?_
  refine cW [(0, (eL aM a0)), (1, (eL aM b1)), (5, (eI (0 : Int)))] ?_
  refine cP (fun T H => ∃ i5 : Int, Has T [(0, (eL aM a0)), (1, (eL aM b1)), (5, (eI i5))] ∧ aO ⟨H0, [], []⟩ H [] ∧ xM a0 b1 i5 = some r) ?_ ⟨(0 : Int), .eq (by kernel_rfl), hO, h0⟩
  clear hO h0
  rintro T H ⟨i5, hT, hO, h0⟩
  refine bB hT ?_
  clear hT
  unfold xM at h0
  obtain ⟨rr0, hl0, h0⟩ := aU h0
  refine cD (by kernel_rfl) (fun (s : Int) T H => Has T [(0, (eL aM a0)), (1, (eL aM b1)), (5, (eI s))] ∧ aO ⟨H0, [], []⟩ H []) hl0 ⟨.eq (by kernel_rfl), hO⟩ ?_
  clear hO
  rintro k0 s out1 T H ⟨hT, hO⟩ h1 ho0
  obtain ⟨i5, rfl⟩ : ∃ x, x = s := ⟨_, rfl⟩
  replace h1 : qT a0 b1 i5 = some out1 := h1
  refine bB hT ?_
  clear hT
  unfold qT at h1
  refine aQ ?_
  refine aY aH 4 [] [(14, (aL (decide (i5 < (lN a0)))))] ?_
  refine bL h1 (fun h1 => ?_) (fun h1 => ?_)
  · refine bN ?_
    refine bD [(0, (eL aM a0)), (1, (eL aM b1)), (5, (eI i5))] ?_
    refine aQ ?_
    refine bR 1 ?_
    refine aQ ?_
    refine jT (jS [20, 24]) aH 9 ?_
    obtain ⟨c3, h1⟩ := bM h1
    obtain ⟨c4, h1⟩ := bM h1
    refine RQ (Ds := [0 ≤ i5 ∧ i5 < (lN a0), 0 ≤ i5 ∧ i5 < (lN b1)]) (by kernel_rfl) ⟨c3, c4, trivial⟩ ?_
    refine bP [] [(25, (aL (!((decide (((gD a0 i5).Kind) = ((gD b1 i5).Kind))) && ((decide (((gD a0 i5).Num) = ((gD b1 i5).Num))) && ((pH ((gD a0 i5).Text) ((gD b1 i5).Text)) && true))))))] ?_
    refine bL h1 (fun h1 => ?_) (fun h1 => ?_)
    · refine bV aH 1 [(4, (aL false))] ?_
      refine bI ?_
      obtain rfl := oI h1
      obtain rfl : _ = rr0 := ho0
      replace h0 : some false = some r := h0
      obtain rfl := oI h0
      exact aK (bY (bA (bA (bY (bA (Q_r hO))))))
    refine bN ?_
    refine dK [(0, (eL aM a0)), (1, (eL aM b1)), (5, (eI i5))] ?_
    refine aK (aZ (aJ (?_)))
    refine aT aH 3 ?_
    refine bC ?_
    exact aK (aJ (⟨rfl, _, (oI h1).symm, .eq (by kernel_rfl), hO⟩))
  refine eC 0 ?_
  obtain rfl := oI h1
  obtain rfl : _ = rr0 := ho0
  replace h0 : tD  = some r := h0
  exact aK (aW (aW (bO (aJ (⟨rfl, .eq (by kernel_rfl), hO, h0⟩)))))

theorem zD (a0 : (List aI)) (b1 : (List aI)) (r : Bool) (h0 : mX a0 b1 = some r) : bS Try.prog 12 [(eL aF a0), (eL aF b1)] (aL r) := by
  intro H0
  refine cI Try.func12 ?_
  have hO := aO.start H0
  unfold mX at h0
  refine aY aH 1 [] [] ?_
  refine aQ ?_
  refine aY aH 5 [] [(10, (aL (!decide ((lN a0) = (lN b1)))))] ?_
  refine bL h0 (fun h0 => ?_) (fun h0 => ?_)
  · refine bV aH 1 [(4, (aL false))] ?_
    refine bI ?_
    obtain rfl := oI h0
    exact aK (bA (Q_r hO))
  refine bN ?_
  refine bD [(0, (eL aF a0)), (1, (eL aF b1))] ?_
  refine dG (fun T H => Has T [] ∧ aO ⟨H0, [], []⟩ H [] ∧ tI  = some r) ?_ ?_
  · clear hO h0
    rintro T H ⟨hT, hO, h0⟩
    refine bB hT ?_
    clear hT
    unfold tI at h0
    refine bV aH 1 [(4, (aL true))] ?_
    refine bI ?_
    obtain rfl := oI h0
    exact aK (Q_r hO)
  refine aY aH 1 [] [(5, (eI (0 : Int)))] ?_
  refine bR 0 ?_
  refine cW [(0, (eL aF a0)), (1, (eL aF b1)), (5, (eI (0 : Int)))] ?_
  refine cP (fun T H => ∃ i5 : Int, Has T [(0, (eL aF a0)), (1, (eL aF b1)), (5, (eI i5))] ∧ aO ⟨H0, [], []⟩ H [] ∧ xE a0 b1 i5 = some r) ?_ ⟨(0 : Int), .eq (by kernel_rfl), hO, h0⟩
  clear hO h0
  rintro T H ⟨i5, hT, hO, h0⟩
  refine bB hT ?_
  clear hT
  unfold xE at h0
  obtain ⟨rr0, hl0, h0⟩ := aU h0
  refine cD (by kernel_rfl) (fun (s : Int) T H => Has T [(0, (eL aF a0)), (1, (eL aF b1)), (5, (eI s))] ∧ aO ⟨H0, [], []⟩ H []) hl0 ⟨.eq (by kernel_rfl), hO⟩ ?_
  clear hO
  rintro k0 s out1 T H ⟨hT, hO⟩ h1 ho0
  obtain ⟨i5, rfl⟩ : ∃ x, x = s := ⟨_, rfl⟩
  replace h1 : qM a0 b1 i5 = some out1 := h1
  refine bB hT ?_
  clear hT
  unfold qM at h1
  refine aQ ?_
  refine aY aH 4 [] [(14, (aL (decide (i5 < (lN a0)))))] ?_
  refine bL h1 (fun h1 => ?_) (fun h1 => ?_)
  · refine bN ?_
    refine bD [(0, (eL aF a0)), (1, (eL aF b1)), (5, (eI i5))] ?_
    refine aQ ?_
    refine bR 1 ?_
    refine aQ ?_
    obtain ⟨c3, h1⟩ := bM h1
    obtain ⟨c4, h1⟩ := bM h1
    obtain ⟨c5, h1⟩ := bM h1
    obtain ⟨c6, h1⟩ := bM h1
    obtain ⟨x7, hx8, h1⟩ := aU h1
    refine jT (jS [21, 26, 33, 38]) aH 25 ?_
    refine IW (K := fun T H => Has (lift T) [(0, (eL aF a0)), (1, (eL aF b1)), (5, (eI i5)), (41, (aL ((!((decide ((((gD a0 i5).Span).From) = (((gD b1 i5).Span).From))) && ((decide ((((gD a0 i5).Span).To) = (((gD b1 i5).Span).To))) && true))) || (!x7))))] ∧ aO ⟨H0, [], []⟩ H []) ?_ ?_
    · refine dP 12 [0 ≤ i5 ∧ i5 < (lN a0), 0 ≤ i5 ∧ i5 < (lN b1)] ⟨c3, c4, trivial⟩ ?_
      refine JI (t := 28) (e := !((decide ((((gD a0 i5).Span).From) = (((gD b1 i5).Span).From))) && ((decide ((((gD a0 i5).Span).To) = (((gD b1 i5).Span).To))) && true))) (by kernel_rfl) (fun hg9 => ?_) (fun hg9 => ?_)
      · refine qL ?_
        exact ⟨⟨[(0, (eL aF a0)), (1, (eL aF b1)), (5, (eI i5)), (41, (aL true))], by kernel_rfl, rfl, ⟨aX.refl _, aX.refl _, aX.refl _, aX.eq (congrArg aL (aCO hg9 rfl).symm), trivial⟩⟩, hO⟩
      refine dP 22 [0 ≤ i5 ∧ i5 < (lN a0), 0 ≤ i5 ∧ i5 < (lN b1)] ⟨(c5 (YA hg9)), (c6 (YA hg9)), trivial⟩ ?_
      refine OV 46 [(eL aM ((gD a0 i5).Row)), (eL aM ((gD b1 i5).Row))] (aL x7) (by kernel_rfl) (by kernel_rfl) (SV ((gD a0 i5).Row) ((gD b1 i5).Row) _ (iU hx8 (YA hg9))) hO ?_
      intro H hO
      refine qL ?_
      exact ⟨⟨[(0, (eL aF a0)), (1, (eL aF b1)), (5, (eI i5)), (41, (aL (!x7)))], by kernel_rfl, rfl, ⟨aX.refl _, aX.refl _, aX.refl _, aX.eq (congrArg aL (aCO hg9 rfl).symm), trivial⟩⟩, hO⟩
    · rintro T H ⟨hT, hO⟩
      refine cS hT ?_
      clear hT
      refine aK (aJ ?_)
      refine bL h1 (fun h1 => ?_) (fun h1 => ?_)
      · refine bV aH 1 [(4, (aL false))] ?_
        refine bI ?_
        obtain rfl := oI h1
        obtain rfl : _ = rr0 := ho0
        replace h0 : some false = some r := h0
        obtain rfl := oI h0
        exact aK (bY (bA (bA (bY (bA (Q_r hO))))))
      refine bN ?_
      refine dK [(0, (eL aF a0)), (1, (eL aF b1)), (5, (eI i5))] ?_
      refine aK (aZ (aJ (?_)))
      refine aT aH 3 ?_
      refine bC ?_
      exact aK (aJ (⟨rfl, _, (oI h1).symm, .eq (by kernel_rfl), hO⟩))
  refine eC 0 ?_
  obtain rfl := oI h1
  obtain rfl : _ = rr0 := ho0
  replace h0 : tI  = some r := h0
  exact aK (aW (aW (bO (aJ (⟨rfl, .eq (by kernel_rfl), hO, h0⟩)))))

theorem CP  (r : Bool) (h0 : pY  = some r) : bS Try.prog 10 [] (aL r) := by
  intro H0
  refine cI Try.func10 ?_
  have hO := aO.start H0
  unfold pY at h0
  refine bV aH 1 [] ?_
  refine aQ ?_
  refine aT aH 9 ?_
  obtain ⟨x1, hx2, h0⟩ := aU h0
  refine cH (oM (5 : Int) (9 : Int) _ hx2) hO ?_
  intro H hO
  obtain ⟨x4, hx5, h0⟩ := aU h0
  refine cH (oM (2 : Int) (5 : Int) _ hx5) hO ?_
  intro H hO
  refine rV (xs := [(aF x1), (aF x4)]) (k := 3) (by kernel_rfl) (by kernel_rfl) ?_
  obtain ⟨x7, hx8, h0⟩ := aU h0
  refine aC7 11 [(dW [(aF x1), (aF x4)])] (.tup [(eL aF x7.1), (eI x7.2)]) (bS.sub (wW ([x1, x4]) _ hx8) ⟨EF (l := [x1, x4]), trivial⟩) hO ?_
  intro H hO
  refine bC ?_
  refine bD [(1, (eL aF x7.1)), (2, (eI x7.2))] ?_
  refine aQ ?_
  refine aT aH 9 ?_
  obtain ⟨x10, hx11, h0⟩ := aU h0
  refine cH (oM (1 : Int) (10 : Int) _ hx11) hO ?_
  intro H hO
  obtain ⟨x13, hx14, h0⟩ := aU h0
  refine cH (oM (3 : Int) (5 : Int) _ hx14) hO ?_
  intro H hO
  refine rV (xs := [(aF x10), (aF x13)]) (k := 3) (by kernel_rfl) (by kernel_rfl) ?_
  obtain ⟨x16, hx17, h0⟩ := aU h0
  refine aC7 11 [(dW [(aF x10), (aF x13)])] (.tup [(eL aF x16.1), (eI x16.2)]) (bS.sub (wW ([x10, x13]) _ hx17) ⟨EF (l := [x10, x13]), trivial⟩) hO ?_
  intro H hO
  refine bC ?_
  refine bP [] [(3, (eL aF x16.1)), (4, (eI x16.2))] ?_
  refine aQ ?_
  refine aT aH 29 ?_
  refine bH 8 ?_
  obtain ⟨x19, hx20, h0⟩ := aU h0
  refine fV [(25, true)] 44 [(eI (2 : Int)), (eI (9 : Int))] (aF x19) ((decide (x7.2 = (0 : Int))) && (decide (x16.2 = (0 : Int)))) (by kernel_rfl) (by kernel_rfl) (by kernel_rfl) (fun hb21 => (oM (2 : Int) (9 : Int) _ (iU hx20 hb21))) hO ?_
  intro H hO
  refine aAn [(25, true)] [(aF x19)] (by kernel_rfl) (by kernel_rfl) ?_
  obtain ⟨x22, hx23, h0⟩ := aU h0
  refine fV [(25, true)] 41 [(eL aF x7.1), (dW [(aF x19)])] (aL x22) ((decide (x7.2 = (0 : Int))) && (decide (x16.2 = (0 : Int)))) (by kernel_rfl) (by kernel_rfl) (by kernel_rfl) (fun hb24 => (bS.sub (WA x7.1 ([x19]) _ (iU hx23 hb24)) ⟨aX.refl _, EF (l := [x19]), trivial⟩)) hO ?_
  intro H hO
  refine bH 14 ?_
  obtain ⟨x25, hx26, h0⟩ := aU h0
  refine fV [(31, true)] 44 [(eI (1 : Int)), (eI (5 : Int))] (aF x25) (((decide (x7.2 = (0 : Int))) && (decide (x16.2 = (0 : Int)))) && x22) (by kernel_rfl) (by kernel_rfl) (by kernel_rfl) (fun hb27 => (oM (1 : Int) (5 : Int) _ (iU hx26 hb27))) hO ?_
  intro H hO
  obtain ⟨x28, hx29, h0⟩ := aU h0
  refine fV [(31, true)] 44 [(eI (3 : Int)), (eI (10 : Int))] (aF x28) (((decide (x7.2 = (0 : Int))) && (decide (x16.2 = (0 : Int)))) && x22) (by kernel_rfl) (by kernel_rfl) (by kernel_rfl) (fun hb30 => (oM (3 : Int) (10 : Int) _ (iU hx29 hb30))) hO ?_
  intro H hO
  refine aAn [(31, true)] [(aF x25), (aF x28)] (by kernel_rfl) (by kernel_rfl) ?_
  obtain ⟨x31, hx32, h0⟩ := aU h0
  refine fV [(31, true)] 12 [(eL aF x16.1), (dW [(aF x25), (aF x28)])] (aL x31) (((decide (x7.2 = (0 : Int))) && (decide (x16.2 = (0 : Int)))) && x22) (by kernel_rfl) (by kernel_rfl) (by kernel_rfl) (fun hb33 => (bS.sub (zD x16.1 ([x25, x28]) _ (iU hx32 hb33)) ⟨aX.refl _, EF (l := [x25, x28]), trivial⟩)) hO ?_
  intro H hO
  refine bH 20 ?_
  obtain ⟨x34, hx35, h0⟩ := aU h0
  refine fV [(38, true)] 44 [(eI (-1 : Int)), (eI (0 : Int))] (aF x34) ((((decide (x7.2 = (0 : Int))) && (decide (x16.2 = (0 : Int)))) && x22) && x31) (by kernel_rfl) (by kernel_rfl) (by kernel_rfl) (fun hb36 => (oM (-1 : Int) (0 : Int) _ (iU hx35 hb36))) hO ?_
  intro H hO
  obtain ⟨x37, hx38, h0⟩ := aU h0
  refine fV [(38, true)] 45 [(aF x34)] (aL x37) ((((decide (x7.2 = (0 : Int))) && (decide (x16.2 = (0 : Int)))) && x22) && x31) (by kernel_rfl) (by kernel_rfl) (by kernel_rfl) (fun hb39 => (FC x34 _ (iU hx38 hb39))) hO ?_
  intro H hO
  refine bH 24 ?_
  obtain ⟨x40, hx41, h0⟩ := aU h0
  refine fV [(42, true)] 44 [(eI (3 : Int)), (eI (3 : Int))] (aF x40) (((((decide (x7.2 = (0 : Int))) && (decide (x16.2 = (0 : Int)))) && x22) && x31) && x37) (by kernel_rfl) (by kernel_rfl) (by kernel_rfl) (fun hb42 => (oM (3 : Int) (3 : Int) _ (iU hx41 hb42))) hO ?_
  intro H hO
  obtain ⟨x43, hx44, h0⟩ := aU h0
  refine fV [(42, true)] 45 [(aF x40)] (aL x43) (((((decide (x7.2 = (0 : Int))) && (decide (x16.2 = (0 : Int)))) && x22) && x31) && x37) (by kernel_rfl) (by kernel_rfl) (by kernel_rfl) (fun hb45 => (FC x40 _ (iU hx44 hb45))) hO ?_
  intro H hO
  refine bC ?_
  refine bD [(0, (aL ((((((decide (x7.2 = (0 : Int))) && (decide (x16.2 = (0 : Int)))) && x22) && x31) && x37) && (!x43))))] ?_
  refine bI ?_
  obtain rfl := oI h0
  exact aK (Q_r hO)

end Go.Abs
namespace Go.Abs
open Go Go.RowKit Go.Proofs
theorem EX (x0 : Int) (y1 : Int) (r : Bool) (h0 : pW x0 y1 = some r) : bS Try.prog 79 [(eI x0), (eI y1)] (aL r) := by
  intro H0
  refine cI Try.func79 ?_
  have hO := aO.start H0
  unfold pW at h0
  refine aY aH 1 [] [] ?_
  refine aQ ?_
  refine aT aH 13 ?_
  refine bH 1 ?_
  obtain ⟨x1, hx2, h0⟩ := aU h0
  refine cH (uI x0 _ hx2) hO ?_
  intro H hO
  refine bH 4 ?_
  obtain ⟨x4, hx5, h0⟩ := aU h0
  refine fV [(7, true)] 104 [(eI y1)] (aL x4) x1 (by kernel_rfl) (by kernel_rfl) (by kernel_rfl) (fun hb6 => (uI y1 _ (iU hx5 hb6))) hO ?_
  intro H hO
  refine bC ?_
  refine bD [(4, (aL ((x1 && (!x4)) || (decide (x0 < y1)))))] ?_
  refine bI ?_
  obtain rfl := oI h0
  exact aK (Q_r hO)

theorem SB (l0 : (List aI)) (t1 : Int) (r : (List aI)) (h0 : vC l0 t1 = some r) : bS Try.prog 37 [(eL aF l0), (eI t1)] (eL aF r) := by
  intro H0
  refine cI Try.func37 ?_
  have hO := aO.start H0
  unfold vC at h0
  refine aY aH 1 [] [] ?_
  refine aQ ?_
  refine aT aH 2 ?_
  refine rV (xs := []) (k := 3) (by kernel_rfl) (by kernel_rfl) ?_
  refine bC ?_
  refine bP [] [(5, (.sl true 0 (fun _ => .bad)))] ?_
  refine dG (fun T H => ∃ out5 : List aI, ∃ lo1 : Nat, Has T [(5, (.msl 3 lo1 0 (List.length out5)))] ∧ aO ⟨H0, [], []⟩ H [(lo1, 3, List.map aF out5)] ∧ tJ out5 = some r) ?_ ?_
  · clear hO h0
    rintro T H ⟨out5, lo1, hT, hO, h0⟩
    refine bB hT ?_
    clear hT
    unfold tJ at h0
    refine bV aH 2 [(4, (.msl 3 lo1 0 (List.length out5)))] ?_
    refine bI ?_
    refine dK [(4, (.msl 3 lo1 0 (List.length out5)))] ?_
    refine yD (en := aF) out5 0 0 4 3 lo1 (List.length out5) hO (by kernel_rfl) (by kernel_rfl) (by kernel_rfl) (L' := []) (by kernel_rfl) ?_
    intro H2 hO
    obtain rfl := oI h0
    exact aK (Q_r hO)
  refine aY aH 3 [0] [(9, (eL aF l0)), (10, (eI (lN l0))), (11, (eI (0 : Int)))] ?_
  refine bR 0 ?_
  refine cW [(1, (eI t1)), (5, (.sl true 0 (fun _ => .bad))), (9, (eL aF l0)), (10, (eI (lN l0))), (11, (eI (0 : Int)))] ?_
  refine IT (el := (fun _ => .bad)) 1 5 3 hO (by kernel_rfl) ?_
  intro lo18 H19 hO
  refine cP (fun T H => ∃ out5 : List aI, ∃ t9 : (List aI), ∃ t10 : Int, ∃ t11 : Int, ∃ lo4 : Nat, Has T [(1, (eI t1)), (5, (.msl 3 lo4 0 (List.length out5))), (9, (eL aF t9)), (10, (eI t10)), (11, (eI t11))] ∧ aO ⟨H0, [], []⟩ H [(lo4, 3, List.map aF out5)] ∧ xB t1 out5 t9 t10 t11 = some r) ?_ ⟨([] : List aI), l0, (lN l0), (0 : Int), lo18, .eq (by kernel_rfl), hO, h0⟩
  clear hO h0
  rintro T H ⟨out5, t9, t10, t11, lo4, hT, hO, h0⟩
  refine bB hT ?_
  clear hT
  unfold xB at h0
  obtain ⟨rr0, hl0, h0⟩ := aU h0
  refine cD (by kernel_rfl) (fun (s : List aI × Int) T H => ∃ lo4 : Nat, Has T [(1, (eI t1)), (5, (.msl 3 lo4 0 (List.length s.1))), (9, (eL aF t9)), (10, (eI t10)), (11, (eI s.2))] ∧ aO ⟨H0, [], []⟩ H [(lo4, 3, List.map aF s.1)]) hl0 ⟨lo4, .eq (by kernel_rfl), hO⟩ ?_
  clear hO
  rintro k0 s out1 T H ⟨lo4, hT, hO⟩ h1 ho0
  obtain ⟨out5, t11⟩ := s
  replace h1 : nK t1 t9 t10 out5 t11 = some out1 := h1
  try dsimp only at hT
  refine bB hT ?_
  clear hT
  unfold nK at h1
  refine aY aH 1 [] [(12, (aL (decide (t11 < t10))))] ?_
  refine aQ ?_
  refine bL h1 (fun h1 => ?_) (fun h1 => ?_)
  · refine bN ?_
    refine bD [(1, (eI t1)), (5, (.msl 3 lo4 0 (List.length out5))), (9, (eL aF t9)), (10, (eI t10)), (11, (eI t11))] ?_
    refine dG (fun T H => ∃ out5 : List aI, ∃ lo6 : Nat, Has T [(1, (eI t1)), (5, (.msl 3 lo6 0 (List.length out5))), (9, (eL aF t9)), (10, (eI t10)), (11, (eI t11))] ∧ aO ⟨H0, [], []⟩ H [(lo6, 3, List.map aF out5)] ∧ qS t1 out5 t9 t10 t11 = some out1) ?_ ?_
    · clear hO h1
      rintro T H ⟨out5, lo6, hT, hO, h1⟩
      refine bB hT ?_
      clear hT
      unfold qS at h1
      refine aT aH 2 ?_
      refine bC ?_
      exact aK (aJ (⟨rfl, _, (oI h1).symm, _, .eq (by kernel_rfl), hO⟩))
    refine bR 1 ?_
    refine aQ ?_
    refine aT aH 4 ?_
    obtain ⟨c7, h1⟩ := bM h1
    refine sC 2 [0 ≤ t11 ∧ t11 < (lN t9)] ⟨c7, trivial⟩ ?_
    refine qD 3 (.agg [(.sl true 0 (fun _ => .bad)), (eI 0), (eI 0)]) (aF (aI.mk ([]) (aR.mk 0 0))) (by kernel_rfl) (by kernel_rfl) (by kernel_rfl) (CR (xs := [(.sl true 0 (fun _ => .bad)), (eI 0), (eI 0)]) (ys := [(eL aM ([])), (eI 0), (eI 0)]) ⟨fG, aX.refl _, aX.refl _, trivial⟩) (by kernel_rfl) (by kernel_rfl) hO ?_
    intro lo8 H hO
    refine jJ 1 lo8 3 0 (aF (aI.mk ([]) (aR.mk 0 0))) (aF (gD t9 t11)) [(aF (aI.mk ([]) (aR.mk 0 0)))] [(lo4, 3, List.map aF out5), (lo8, 3, [(aF (gD t9 t11))])] hO rfl (by kernel_rfl) ?_
    intro H hO
    refine cJ ?_
    refine bP [] [(7, (.lp lo8 0 0))] ?_
    refine aQ ?_
    refine aT aH 5 ?_
    refine bH 2 ?_
    refine jN 1 lo8 3 0 (aF (gD t9 t11)) (eI (((gD t9 t11).Span).From)) [(aF (gD t9 t11))] hO rfl ?_
    refine bH 4 ?_
    obtain ⟨x9, hx10, h1⟩ := aU h1
    refine cH (EX (((gD t9 t11).Span).From) t1 _ hx10) hO ?_
    intro H hO
    refine cJ ?_
    refine bP [] [(19, (aL x9))] ?_
    refine bL h1 (fun h1 => ?_) (fun h1 => ?_)
    · refine cW [(1, (eI t1)), (5, (.msl 3 lo4 0 (List.length out5))), (7, (.lp lo8 0 0)), (9, (eL aF t9)), (10, (eI t10)), (11, (eI t11)), (19, (aL x9))] ?_
      refine DH 2 1 7 3 lo8 (aF (gD t9 t11)) [(lo4, 3, List.map aF out5)] hO (by kernel_rfl) (by kernel_rfl) (by kernel_rfl) ?_
      intro H hO
      refine jT (jS [22, 23, 26, 29, 34]) aH 17 ?_
      refine sD 3 ?_
      obtain ⟨x13, hx14, h1⟩ := aU h1
      refine xW (yO ((gD t9 t11).Row) _ hx14) hO ?_
      intro H hO
      refine sD 14 ?_
      refine JH (xs := [(aF (aI.mk x13 (aR.mk (((gD t9 t11).Span).From) (if t1 < (((gD t9 t11).Span).To) then t1 else (((gD t9 t11).Span).To)))))]) (k := 3) (by kernel_rfl) (by kernel_rfl) ?_
      obtain ⟨c17, h1⟩ := bM h1
      refine EW (e := aF) out5 ([aI.mk x13 (aR.mk (((gD t9 t11).Span).From) (if t1 < (((gD t9 t11).Span).To) then t1 else (((gD t9 t11).Span).To)))]) 0 lo4 3 40 (dW [(aF (aI.mk x13 (aR.mk (((gD t9 t11).Span).From) (if t1 < (((gD t9 t11).Span).To) then t1 else (((gD t9 t11).Span).To)))))]) (fun lo16 => [(lo16, 3, List.map aF (out5 ++ ([aI.mk x13 (aR.mk (((gD t9 t11).Span).From) (if t1 < (((gD t9 t11).Span).To) then t1 else (((gD t9 t11).Span).To)))])))]) (by kernel_rfl) (by kernel_rfl) hO (by kernel_rfl) (by kernel_rfl) c17 (fun _ => by kernel_rfl) ?_
      intro lo16 H hO
      refine qL ?_
      exact aK (aZ (aJ (⟨rfl, _, _, .eq (by kernel_rfl), hO, h1⟩)))
    refine bN ?_
    replace hO := hO.pick (L' := [(lo4, 3, List.map aF out5)]) [0] (by decide) (by kernel_rfl)
    exact aK (aZ (aJ (⟨rfl, _, _, .eq (by kernel_rfl), hO, h1⟩)))
  refine eC 0 ?_
  obtain rfl := oI h1
  obtain rfl : _ = rr0 := ho0
  replace h0 : tJ out5 = some r := h0
  exact aK (aW (aW (bO (aJ (⟨rfl, _, _, .eq (by kernel_rfl), hO, h0⟩)))))

theorem VM (l0 : (List aI)) (t1 : Int) (r : (List aI)) (h0 : wQ l0 t1 = some r) : bS Try.prog 39 [(eL aF l0), (eI t1)] (eL aF r) := by
  intro H0
  refine cI Try.func39 ?_
  have hO := aO.start H0
  unfold wQ at h0
  refine aY aH 1 [] [] ?_
  refine aQ ?_
  refine aT aH 2 ?_
  refine rV (xs := []) (k := 3) (by kernel_rfl) (by kernel_rfl) ?_
  refine bC ?_
  refine bP [] [(5, (.sl true 0 (fun _ => .bad)))] ?_
  refine dG (fun T H => ∃ out5 : List aI, ∃ lo1 : Nat, Has T [(5, (.msl 3 lo1 0 (List.length out5)))] ∧ aO ⟨H0, [], []⟩ H [(lo1, 3, List.map aF out5)] ∧ vN out5 = some r) ?_ ?_
  · clear hO h0
    rintro T H ⟨out5, lo1, hT, hO, h0⟩
    refine bB hT ?_
    clear hT
    unfold vN at h0
    refine bV aH 2 [(4, (.msl 3 lo1 0 (List.length out5)))] ?_
    refine bI ?_
    refine dK [(4, (.msl 3 lo1 0 (List.length out5)))] ?_
    refine yD (en := aF) out5 0 0 4 3 lo1 (List.length out5) hO (by kernel_rfl) (by kernel_rfl) (by kernel_rfl) (L' := []) (by kernel_rfl) ?_
    intro H2 hO
    obtain rfl := oI h0
    exact aK (Q_r hO)
  refine aY aH 3 [0] [(9, (eL aF l0)), (10, (eI (lN l0))), (11, (eI (0 : Int)))] ?_
  refine bR 0 ?_
  refine cW [(1, (eI t1)), (5, (.sl true 0 (fun _ => .bad))), (9, (eL aF l0)), (10, (eI (lN l0))), (11, (eI (0 : Int)))] ?_
  refine IT (el := (fun _ => .bad)) 1 5 3 hO (by kernel_rfl) ?_
  intro lo18 H19 hO
  refine cP (fun T H => ∃ out5 : List aI, ∃ t9 : (List aI), ∃ t10 : Int, ∃ t11 : Int, ∃ lo4 : Nat, Has T [(1, (eI t1)), (5, (.msl 3 lo4 0 (List.length out5))), (9, (eL aF t9)), (10, (eI t10)), (11, (eI t11))] ∧ aO ⟨H0, [], []⟩ H [(lo4, 3, List.map aF out5)] ∧ zH t1 out5 t9 t10 t11 = some r) ?_ ⟨([] : List aI), l0, (lN l0), (0 : Int), lo18, .eq (by kernel_rfl), hO, h0⟩
  clear hO h0
  rintro T H ⟨out5, t9, t10, t11, lo4, hT, hO, h0⟩
  refine bB hT ?_
  clear hT
  unfold zH at h0
  obtain ⟨rr0, hl0, h0⟩ := aU h0
  refine cD (by kernel_rfl) (fun (s : List aI × Int) T H => ∃ lo4 : Nat, Has T [(1, (eI t1)), (5, (.msl 3 lo4 0 (List.length s.1))), (9, (eL aF t9)), (10, (eI t10)), (11, (eI s.2))] ∧ aO ⟨H0, [], []⟩ H [(lo4, 3, List.map aF s.1)]) hl0 ⟨lo4, .eq (by kernel_rfl), hO⟩ ?_
  clear hO
  rintro k0 s out1 T H ⟨lo4, hT, hO⟩ h1 ho0
  obtain ⟨out5, t11⟩ := s
  replace h1 : oT t1 t9 t10 out5 t11 = some out1 := h1
  try dsimp only at hT
  refine bB hT ?_
  clear hT
  unfold oT at h1
  refine aY aH 1 [] [(12, (aL (decide (t11 < t10))))] ?_
  refine aQ ?_
  refine bL h1 (fun h1 => ?_) (fun h1 => ?_)
  · refine bN ?_
    refine bD [(1, (eI t1)), (5, (.msl 3 lo4 0 (List.length out5))), (9, (eL aF t9)), (10, (eI t10)), (11, (eI t11))] ?_
    refine dG (fun T H => ∃ out5 : List aI, ∃ lo6 : Nat, Has T [(1, (eI t1)), (5, (.msl 3 lo6 0 (List.length out5))), (9, (eL aF t9)), (10, (eI t10)), (11, (eI t11))] ∧ aO ⟨H0, [], []⟩ H [(lo6, 3, List.map aF out5)] ∧ rX t1 out5 t9 t10 t11 = some out1) ?_ ?_
    · clear hO h1
      rintro T H ⟨out5, lo6, hT, hO, h1⟩
      refine bB hT ?_
      clear hT
      unfold rX at h1
      refine aT aH 2 ?_
      refine bC ?_
      exact aK (aJ (⟨rfl, _, (oI h1).symm, _, .eq (by kernel_rfl), hO⟩))
    refine bR 1 ?_
    refine aQ ?_
    refine aT aH 4 ?_
    obtain ⟨c7, h1⟩ := bM h1
    refine sC 2 [0 ≤ t11 ∧ t11 < (lN t9)] ⟨c7, trivial⟩ ?_
    refine qD 3 (.agg [(.sl true 0 (fun _ => .bad)), (eI 0), (eI 0)]) (aF (aI.mk ([]) (aR.mk 0 0))) (by kernel_rfl) (by kernel_rfl) (by kernel_rfl) (CR (xs := [(.sl true 0 (fun _ => .bad)), (eI 0), (eI 0)]) (ys := [(eL aM ([])), (eI 0), (eI 0)]) ⟨fG, aX.refl _, aX.refl _, trivial⟩) (by kernel_rfl) (by kernel_rfl) hO ?_
    intro lo8 H hO
    refine jJ 1 lo8 3 0 (aF (aI.mk ([]) (aR.mk 0 0))) (aF (gD t9 t11)) [(aF (aI.mk ([]) (aR.mk 0 0)))] [(lo4, 3, List.map aF out5), (lo8, 3, [(aF (gD t9 t11))])] hO rfl (by kernel_rfl) ?_
    intro H hO
    refine cJ ?_
    refine bP [] [(7, (.lp lo8 0 0))] ?_
    refine aQ ?_
    refine aT aH 5 ?_
    refine bH 3 ?_
    refine jN 1 lo8 3 0 (aF (gD t9 t11)) (eI (((gD t9 t11).Span).To)) [(aF (gD t9 t11))] hO rfl ?_
    obtain ⟨x9, hx10, h1⟩ := aU h1
    refine cH (EX t1 (((gD t9 t11).Span).To) _ hx10) hO ?_
    intro H hO
    refine cJ ?_
    refine bP [] [(19, (aL x9))] ?_
    refine bL h1 (fun h1 => ?_) (fun h1 => ?_)
    · refine cW [(1, (eI t1)), (5, (.msl 3 lo4 0 (List.length out5))), (7, (.lp lo8 0 0)), (9, (eL aF t9)), (10, (eI t10)), (11, (eI t11)), (19, (aL x9))] ?_
      refine DH 2 1 7 3 lo8 (aF (gD t9 t11)) [(lo4, 3, List.map aF out5)] hO (by kernel_rfl) (by kernel_rfl) (by kernel_rfl) ?_
      intro H hO
      refine jT (jS [22, 23, 26, 31, 34]) aH 17 ?_
      refine sD 3 ?_
      obtain ⟨x13, hx14, h1⟩ := aU h1
      refine xW (yO ((gD t9 t11).Row) _ hx14) hO ?_
      intro H hO
      refine sD 14 ?_
      refine JH (xs := [(aF (aI.mk x13 (aR.mk (if t1 > (((gD t9 t11).Span).From) then t1 else (((gD t9 t11).Span).From)) (((gD t9 t11).Span).To))))]) (k := 3) (by kernel_rfl) (by kernel_rfl) ?_
      obtain ⟨c17, h1⟩ := bM h1
      refine EW (e := aF) out5 ([aI.mk x13 (aR.mk (if t1 > (((gD t9 t11).Span).From) then t1 else (((gD t9 t11).Span).From)) (((gD t9 t11).Span).To))]) 0 lo4 3 40 (dW [(aF (aI.mk x13 (aR.mk (if t1 > (((gD t9 t11).Span).From) then t1 else (((gD t9 t11).Span).From)) (((gD t9 t11).Span).To))))]) (fun lo16 => [(lo16, 3, List.map aF (out5 ++ ([aI.mk x13 (aR.mk (if t1 > (((gD t9 t11).Span).From) then t1 else (((gD t9 t11).Span).From)) (((gD t9 t11).Span).To))])))]) (by kernel_rfl) (by kernel_rfl) hO (by kernel_rfl) (by kernel_rfl) c17 (fun _ => by kernel_rfl) ?_
      intro lo16 H hO
      refine qL ?_
      exact aK (aZ (aJ (⟨rfl, _, _, .eq (by kernel_rfl), hO, h1⟩)))
    refine bN ?_
    replace hO := hO.pick (L' := [(lo4, 3, List.map aF out5)]) [0] (by decide) (by kernel_rfl)
    exact aK (aZ (aJ (⟨rfl, _, _, .eq (by kernel_rfl), hO, h1⟩)))
  refine eC 0 ?_
  obtain rfl := oI h1
  obtain rfl : _ = rr0 := ho0
  replace h0 : vN out5 = some r := h0
  exact aK (aW (aW (bO (aJ (⟨rfl, _, _, .eq (by kernel_rfl), hO, h0⟩)))))

theorem ZR (l0 : (List aC)) (by1_f : Nat) (by1_a by1_c : List V) (by1 : (List aA) → Option ((List aA) × Int)) (by1_h : ∀ a0 r, by1 a0 = some r → bS Try.prog by1_f (by1_a ++ [(eL aD a0)] ++ by1_c) (.tup [(eL aD r.1), (eI r.2)])) (r : ((List aC) × Int)) (h0 : yP l0 by1 = some r) : bS Try.prog 83 [(eL aE l0), (.fn (.func by1_f) by1_a by1_c)] (.tup [(eL aE r.1), (eI r.2)]) := by
  intro H0
  refine cI Try.func83 ?_
  have hO := aO.start H0
  unfold yP at h0
  refine aY aH 2 [] [] ?_
  refine aQ ?_
  refine aQ ?_
  refine aT aH 3 ?_
  refine bH 1 ?_
  obtain ⟨x1, hx2, h0⟩ := aU h0
  refine cH (FM l0 _ hx2) hO ?_
  intro H hO
  refine bC ?_
  refine bP [] [(8, (aL (!x1)))] ?_
  refine bL h0 (fun h0 => ?_) (fun h0 => ?_)
  · refine bV aH 2 [(4, (.sl true 0 (fun _ => .bad))), (5, (eI (2 : Int)))] ?_
    refine bI ?_
    refine cS (l := [(4, (eL aE ([]))), (5, (eI (2 : Int)))]) ⟨[(4, (.sl true 0 (fun _ => .bad))), (5, (eI (2 : Int)))], by kernel_rfl, rfl, ⟨fG, aX.refl _, trivial⟩⟩ ?_
    obtain rfl := oI h0
    exact aK (bA (Q_r hO))
  refine bN ?_
  refine bD [(0, (eL aE l0)), (1, (.fn (.func by1_f) by1_a by1_c))] ?_
  refine aQ ?_
  refine aT aH 7 ?_
  refine bH 2 ?_
  obtain ⟨x5, hx6, h0⟩ := aU h0
  refine cH (GY l0 by1_f by1_a by1_c by1 by1_h _ hx6) hO ?_
  intro H hO
  refine bC ?_
  refine bD [(4, (eL aE x5.1)), (5, (eI x5.2))] ?_
  refine bI ?_
  obtain rfl := oI h0
  exact aK (Q_r hO)

theorem UF (f0 : (List aA)) (t1 : Int) (r : ((List aA) × Int)) (h0 : vJ f0 t1 = some r) : bS Try.prog 85 [(eL aD f0), (eI t1)] (.tup [(eL aD r.1), (eI r.2)]) := by
  intro H0
  refine cI Try.func85 ?_
  have hO := aO.start H0
  unfold vJ at h0
  refine aY aH 2 [] [] ?_
  refine aQ ?_
  refine aQ ?_
  refine aT aH 3 ?_
  refine bH 1 ?_
  obtain ⟨x1, hx2, h0⟩ := aU h0
  refine cH (zB f0 _ hx2) hO ?_
  intro H hO
  refine bC ?_
  refine bP [] [(12, (aL (!x1)))] ?_
  refine bL h0 (fun h0 => ?_) (fun h0 => ?_)
  · refine bV aH 2 [(4, (.sl true 0 (fun _ => .bad))), (5, (eI (2 : Int)))] ?_
    refine bI ?_
    refine cS (l := [(4, (eL aD ([]))), (5, (eI (2 : Int)))]) ⟨[(4, (.sl true 0 (fun _ => .bad))), (5, (eI (2 : Int)))], by kernel_rfl, rfl, ⟨fG, aX.refl _, trivial⟩⟩ ?_
    obtain rfl := oI h0
    exact aK (bA (Q_r hO))
  refine bN ?_
  refine bD [(0, (eL aD f0)), (1, (eI t1))] ?_
  refine aQ ?_
  refine aY aH 2 [] [(14, (aL (decide ((1125899906842624 : Int) ≤ t1))))] ?_
  refine bL h0 (fun h0 => ?_) (fun h0 => ?_)
  · refine aQ ?_
    refine aT aH 4 ?_
    refine bH 1 ?_
    obtain ⟨x6, hx7, h0⟩ := aU h0
    refine OY (L' := fun lo8 => [(lo8, 2, List.map aD x6)]) 2 (List.map aD x6) 111 [(eL aD f0)] (fun lo8 => (.msl 2 lo8 0 (List.length x6))) (by kernel_rfl) (by kernel_rfl) (qB f0 _ hx7) hO (fun _ => by kernel_rfl) ?_
    intro lo8 H hO
    refine bC ?_
    refine bD [(4, (.msl 2 lo8 0 (List.length x6))), (5, (eI (0 : Int)))] ?_
    refine bI ?_
    refine dK [(4, (.msl 2 lo8 0 (List.length x6))), (5, (eI (0 : Int)))] ?_
    refine yD (en := aD) x6 0 0 4 2 lo8 (List.length x6) hO (by kernel_rfl) (by kernel_rfl) (by kernel_rfl) (L' := []) (by kernel_rfl) ?_
    intro H9 hO
    obtain rfl := oI h0
    exact aK (bA (Q_r hO))
  refine bN ?_
  refine bD [(0, (eL aD f0)), (1, (eI t1))] ?_
  refine aQ ?_
  refine aT aH 3 ?_
  refine rV (xs := []) (k := 2) (by kernel_rfl) (by kernel_rfl) ?_
  refine bC ?_
  refine bP [] [(6, (.sl true 0 (fun _ => .bad))), (7, (eI (0 : Int)))] ?_
  refine dG (fun T H => ∃ out6 : List aA, ∃ v7 : Int, ∃ lo10 : Nat, Has T [(1, (eI t1)), (6, (.msl 2 lo10 0 (List.length out6))), (7, (eI v7))] ∧ aO ⟨H0, [], []⟩ H [(lo10, 2, List.map aD out6)] ∧ qX t1 out6 v7 = some r) ?_ ?_
  · clear hO h0
    rintro T H ⟨out6, v7, lo10, hT, hO, h0⟩
    refine bB hT ?_
    clear hT
    unfold qX at h0
    refine dG (fun T H => ∃ out6 : List aA, ∃ lo11 : Nat, Has T [(6, (.msl 2 lo11 0 (List.length out6)))] ∧ aO ⟨H0, [], []⟩ H [(lo11, 2, List.map aD out6)] ∧ tC out6 = some r) ?_ ?_
    · clear hO h0
      rintro T H ⟨out6, lo11, hT, hO, h0⟩
      refine bB hT ?_
      clear hT
      unfold tC at h0
      refine aQ ?_
      refine aT aH 6 ?_
      refine AL (e := aD) out6 0 6 2 lo11 (List.length out6) [] (by kernel_rfl) hO (by kernel_rfl) (by kernel_rfl) (by kernel_rfl) (by kernel_rfl) ?_
      intro H hO
      refine bH 1 ?_
      obtain ⟨x12, hx13, h0⟩ := aU h0
      refine cH (JY out6 _ hx13) hO ?_
      intro H hO
      refine bC ?_
      refine bD [(4, (eL aD x12.1)), (5, (eI x12.2))] ?_
      refine bI ?_
      obtain rfl := oI h0
      exact aK (Q_r hO)
    refine aY aH 2 [] [(38, (aL (!decide (v7 = (0 : Int)))))] ?_
    refine bL h0 (fun h0 => ?_) (fun h0 => ?_)
    · refine aT aH 8 ?_
      refine bH 5 ?_
      refine rV (xs := [(aD (aA.mk t1 (wR (0 - v7))))]) (k := 2) (by kernel_rfl) (by kernel_rfl) ?_
      obtain ⟨c17, h0⟩ := bM h0
      refine BR (e := aD) out6 ([aA.mk t1 (wR (0 - v7))]) 0 lo10 2 16 (dW [(aD (aA.mk t1 (wR (0 - v7))))]) (fun lo16 => [(lo16, 2, List.map aD (out6 ++ ([aA.mk t1 (wR (0 - v7))])))]) (by kernel_rfl) (by kernel_rfl) hO (by kernel_rfl) (by kernel_rfl) c17 (fun _ => by kernel_rfl) ?_
      intro lo16 H hO
      refine bC ?_
      exact aK (aJ (⟨rfl, _, _, .eq (by kernel_rfl), hO, h0⟩))
    refine bN ?_
    exact aK (aJ (⟨rfl, _, _, .eq (by kernel_rfl), hO, h0⟩))
  refine aY aH 3 [0] [(18, (eL aD f0)), (19, (eI (lN f0))), (20, (eI (0 : Int)))] ?_
  refine bR 0 ?_
  refine cW [(1, (eI t1)), (6, (.sl true 0 (fun _ => .bad))), (7, (eI (0 : Int))), (18, (eL aD f0)), (19, (eI (lN f0))), (20, (eI (0 : Int)))] ?_
  refine IT (el := (fun _ => .bad)) 1 6 2 hO (by kernel_rfl) ?_
  intro lo26 H27 hO
  refine cP (fun T H => ∃ out6 : List aA, ∃ v7 : Int, ∃ t18 : (List aA), ∃ t19 : Int, ∃ t20 : Int, ∃ lo19 : Nat, Has T [(1, (eI t1)), (6, (.msl 2 lo19 0 (List.length out6))), (7, (eI v7)), (18, (eL aD t18)), (19, (eI t19)), (20, (eI t20))] ∧ aO ⟨H0, [], []⟩ H [(lo19, 2, List.map aD out6)] ∧ xO t1 out6 v7 t18 t19 t20 = some r) ?_ ⟨([] : List aA), (0 : Int), f0, (lN f0), (0 : Int), lo26, .eq (by kernel_rfl), hO, h0⟩
  clear hO h0
  rintro T H ⟨out6, v7, t18, t19, t20, lo19, hT, hO, h0⟩
  refine bB hT ?_
  clear hT
  unfold xO at h0
  obtain ⟨rr0, hl0, h0⟩ := aU h0
  refine cD (by kernel_rfl) (fun (s : List aA × Int × Int) T H => ∃ lo19 : Nat, Has T [(1, (eI t1)), (6, (.msl 2 lo19 0 (List.length s.1))), (7, (eI s.2.1)), (18, (eL aD t18)), (19, (eI t19)), (20, (eI s.2.2))] ∧ aO ⟨H0, [], []⟩ H [(lo19, 2, List.map aD s.1)]) hl0 ⟨lo19, .eq (by kernel_rfl), hO⟩ ?_
  clear hO
  rintro k0 s out1 T H ⟨lo19, hT, hO⟩ h1 ho0
  obtain ⟨out6, v7, t20⟩ := s
  replace h1 : jY t1 t18 t19 out6 v7 t20 = some out1 := h1
  try dsimp only at hT
  refine bB hT ?_
  clear hT
  unfold jY at h1
  refine aY aH 1 [] [(21, (aL (decide (t20 < t19))))] ?_
  refine aQ ?_
  refine bL h1 (fun h1 => ?_) (fun h1 => ?_)
  · refine bN ?_
    refine bD [(1, (eI t1)), (6, (.msl 2 lo19 0 (List.length out6))), (7, (eI v7)), (18, (eL aD t18)), (19, (eI t19)), (20, (eI t20))] ?_
    refine aQ ?_
    refine bR 1 ?_
    refine aQ ?_
    refine aT aH 4 ?_
    obtain ⟨c21, h1⟩ := bM h1
    refine sC 2 [0 ≤ t20 ∧ t20 < (lN t18)] ⟨c21, trivial⟩ ?_
    refine mV 2 (aD (aA.mk 0 0)) (by kernel_rfl) (by kernel_rfl) hO ?_
    intro lo22 H hO
    refine jJ 1 lo22 2 0 (aD (aA.mk 0 0)) (aD (gD t18 t20)) [(aD (aA.mk 0 0))] [(lo19, 2, List.map aD out6), (lo22, 2, [(aD (gD t18 t20))])] hO rfl (by kernel_rfl) ?_
    intro H hO
    refine cJ ?_
    refine bP [] [(9, (.lp lo22 0 0))] ?_
    refine aQ ?_
    refine aQ ?_
    refine aT aH 4 ?_
    refine bH 1 ?_
    refine jN 1 lo22 2 0 (aD (gD t18 t20)) (eI ((gD t18 t20).At)) [(aD (gD t18 t20))] hO rfl ?_
    refine bC ?_
    refine bP [] [(27, (aL (decide (t1 ≤ ((gD t18 t20).At)))))] ?_
    refine bL h1 (fun h1 => ?_) (fun h1 => ?_)
    · refine eC 0 ?_
      replace hO := hO.pick (L' := [(lo19, 2, List.map aD out6)]) [0] (by decide) (by kernel_rfl)
      obtain rfl := oI h1
      obtain rfl : _ = rr0 := ho0
      replace h0 : qX t1 out6 v7 = some r := h0
      exact aK (aW (WQ (by kernel_rfl) (aW (aW (bO (aJ (⟨rfl, _, _, _, .eq (by kernel_rfl), hO, h0⟩)))))))
    refine bN ?_
    refine bD [(1, (eI t1)), (6, (.msl 2 lo19 0 (List.length out6))), (7, (eI v7)), (9, (.lp lo22 0 0)), (18, (eL aD t18)), (19, (eI t19)), (20, (eI t20))] ?_
    refine aQ ?_
    refine aT aH 5 ?_
    refine bH 1 ?_
    refine jN 1 lo22 2 0 (aD (gD t18 t20)) (aD (gD t18 t20)) [(aD (gD t18 t20))] hO rfl ?_
    refine rV (xs := [(aD (gD t18 t20))]) (k := 2) (by kernel_rfl) (by kernel_rfl) ?_
    obtain ⟨c25, h1⟩ := bM h1
    refine BR (e := aD) out6 ([gD t18 t20]) 0 lo19 2 16 (dW [(aD (gD t18 t20))]) (fun lo24 => [(lo24, 2, List.map aD (out6 ++ ([gD t18 t20]))), (lo22, 2, [(aD (gD t18 t20))])]) (by kernel_rfl) (by kernel_rfl) hO (by kernel_rfl) (by kernel_rfl) c25 (fun _ => by kernel_rfl) ?_
    intro lo24 H hO
    refine bC ?_
    refine bP [6] [(6, (.msl 2 lo24 0 (List.length (out6 ++ ([gD t18 t20])))))] ?_
    refine aT aH 5 ?_
    refine bH 2 ?_
    refine jN 1 lo22 2 0 (aD (gD t18 t20)) (eI ((gD t18 t20).Net)) [(aD (gD t18 t20))] hO rfl ?_
    refine bC ?_
    refine dK [(1, (eI t1)), (6, (.msl 2 lo24 0 (List.length (out6 ++ ([gD t18 t20]))))), (7, (eI (wR (v7 + ((gD t18 t20).Net))))), (18, (eL aD t18)), (19, (eI t19)), (20, (eI t20))] ?_
    replace hO := hO.pick (L' := [(lo24, 2, List.map aD (out6 ++ ([gD t18 t20])))]) [0] (by decide) (by kernel_rfl)
    refine aK (aZ (aJ (?_)))
    refine aT aH 2 ?_
    refine bC ?_
    exact aK (aJ (⟨rfl, _, (oI h1).symm, _, .eq (by kernel_rfl), hO⟩))
  refine eC 0 ?_
  obtain rfl := oI h1
  obtain rfl : _ = rr0 := ho0
  replace h0 : qX t1 out6 v7 = some r := h0
  exact aK (aW (aW (bO (aJ (⟨rfl, _, _, _, .eq (by kernel_rfl), hO, h0⟩)))))

theorem OK (f0 : (List aA)) (t1 : Int) (r : ((List aA) × Int)) (h0 : pS f0 t1 = some r) : bS Try.prog 84 [(eL aD f0), (.rp (eI t1))] (.tup [(eL aD r.1), (eI r.2)]) := by
  intro H0
  refine cI Try.func84 ?_
  have hO := aO.start H0
  unfold pS at h0
  refine aY aH 2 [] [] ?_
  refine aQ ?_
  refine aT aH 7 ?_
  refine bH 2 ?_
  obtain ⟨x1, hx2, h0⟩ := aU h0
  refine cH (UF f0 t1 _ hx2) hO ?_
  intro H hO
  refine bC ?_
  refine bD [(3, (eL aD x1.1)), (4, (eI x1.2))] ?_
  refine bI ?_
  obtain rfl := oI h0
  exact aK (Q_r hO)

theorem UH (l0 : (List aC)) (t1 : Int) (r : ((List aC) × Int)) (h0 : vH l0 t1 = some r) : bS Try.prog 42 [(eL aE l0), (eI t1)] (.tup [(eL aE r.1), (eI r.2)]) := by
  intro H0
  refine cI Try.func42 ?_
  have hO := aO.start H0
  unfold vH at h0
  refine aQ ?_
  refine aT aH 3 ?_
  refine gW 1 (eI t1) (by kernel_rfl) (by kernel_rfl) ?_
  refine bC ?_
  refine bP [1] [(3, (.rp (eI t1)))] ?_
  refine aQ ?_
  refine aT aH 7 ?_
  refine bH 2 ?_
  obtain ⟨x1, hx2, h0⟩ := aU h0
  refine cH (ZR l0 84 [] [(.rp (eI t1))] (fun y0 => pS y0 t1) (fun y0 r h => OK y0 t1 r h) _ hx2) hO ?_
  intro H hO
  refine bC ?_
  refine bD [(4, (eL aE x1.1)), (5, (eI x1.2))] ?_
  refine bI ?_
  obtain rfl := oI h0
  exact aK (Q_r hO)

theorem JS (l0 : (List aI)) (t1 : Int) (r : Bool) (h0 : rT l0 t1 = some r) : bS Try.prog 9 [(eL aF l0), (eI t1)] (aL r) := by
  intro H0
  refine cI Try.func9 ?_
  have hO := aO.start H0
  unfold rT at h0
  refine aY aH 1 [] [] ?_
  refine aQ ?_
  refine aY aH 11 [] [(29, (aL (((decide ((500 : Int) < (lN l0))) || (decide (t1 < (0 : Int)))) || (decide ((1125899906842624 : Int) < t1)))))] ?_
  refine bL h0 (fun h0 => ?_) (fun h0 => ?_)
  · refine aQ ?_
    refine aT aH 2 ?_
    obtain ⟨x2, hx3, h0⟩ := aU h0
    refine cH (CP  _ hx3) hO ?_
    intro H hO
    refine bC ?_
    refine bD [(4, (aL x2))] ?_
    refine bI ?_
    obtain rfl := oI h0
    exact aK (bA (Q_r hO))
  refine bN ?_
  refine bD [(0, (eL aF l0)), (1, (eI t1))] ?_
  refine aQ ?_
  refine aT aH 7 ?_
  refine bH 1 ?_
  obtain ⟨x5, hx6, h0⟩ := aU h0
  refine cH (wW l0 _ hx6) hO ?_
  intro H hO
  refine bC ?_
  refine bP [0] [(5, (eL aF x5.1)), (6, (eI x5.2))] ?_
  refine aQ ?_
  refine aY aH 2 [6] [(37, (aL (!decide (x5.2 = (0 : Int)))))] ?_
  refine bL h0 (fun h0 => ?_) (fun h0 => ?_)
  · refine aQ ?_
    refine aT aH 2 ?_
    obtain ⟨x9, hx10, h0⟩ := aU h0
    refine cH (CP  _ hx10) hO ?_
    intro H hO
    refine bC ?_
    refine bD [(4, (aL x9))] ?_
    refine bI ?_
    obtain rfl := oI h0
    exact aK (bA (Q_r hO))
  refine bN ?_
  refine bD [(1, (eI t1)), (5, (eL aF x5.1))] ?_
  refine aQ ?_
  refine aT aH 7 ?_
  refine bH 1 ?_
  obtain ⟨x12, hx13, h0⟩ := aU h0
  refine cH (IE x5.1 _ hx13) hO ?_
  intro H hO
  refine bC ?_
  refine bP [] [(7, (eL aE x12.1)), (8, (eI x12.2))] ?_
  refine aQ ?_
  refine aT aH 8 ?_
  refine bH 2 ?_
  obtain ⟨x15, hx16, h0⟩ := aU h0
  refine cH (UH x12.1 t1 _ hx16) hO ?_
  intro H hO
  refine bC ?_
  refine bP [7] [(9, (eL aE x15.1)), (10, (eI x15.2))] ?_
  refine aQ ?_
  refine aT aH 7 ?_
  refine bH 1 ?_
  obtain ⟨x18, hx19, h0⟩ := aU h0
  refine cH (HD x15.1 _ hx19) hO ?_
  intro H hO
  refine bC ?_
  refine bP [9] [(11, (eL aF x18.1)), (12, (eI x18.2))] ?_
  refine aQ ?_
  refine aT aH 4 ?_
  refine bH 2 ?_
  obtain ⟨x21, hx22, h0⟩ := aU h0
  refine cH (SB x5.1 t1 _ hx22) hO ?_
  intro H hO
  refine bC ?_
  refine bP [] [(13, (eL aF x21))] ?_
  refine aQ ?_
  refine aT aH 7 ?_
  refine bH 1 ?_
  obtain ⟨x24, hx25, h0⟩ := aU h0
  refine cH (wW x21 _ hx25) hO ?_
  intro H hO
  refine bC ?_
  refine bD [(1, (eI t1)), (5, (eL aF x5.1)), (8, (eI x12.2)), (10, (eI x15.2)), (11, (eL aF x18.1)), (12, (eI x18.2)), (13, (eL aF x21)), (14, (eL aF x24.1)), (15, (eI x24.2))] ?_
  refine aQ ?_
  refine aT aH 4 ?_
  refine bH 2 ?_
  obtain ⟨x27, hx28, h0⟩ := aU h0
  refine cH (VM x5.1 t1 _ hx28) hO ?_
  intro H hO
  refine bC ?_
  refine bP [1, 5] [(16, (eL aF x27))] ?_
  refine aQ ?_
  refine aT aH 7 ?_
  refine bH 1 ?_
  obtain ⟨x30, hx31, h0⟩ := aU h0
  refine cH (wW x27 _ hx31) hO ?_
  intro H hO
  refine bC ?_
  refine bP [] [(17, (eL aF x30.1)), (18, (eI x30.2))] ?_
  refine aQ ?_
  refine aY aH 10 [8, 15, 18] [(80, (aL (((!decide (x12.2 = (0 : Int))) || (!decide (x24.2 = (0 : Int)))) || (!decide (x30.2 = (0 : Int))))))] ?_
  refine bL h0 (fun h0 => ?_) (fun h0 => ?_)
  · refine bV aH 1 [(4, (aL false))] ?_
    refine bI ?_
    obtain rfl := oI h0
    exact aK (bA (Q_r hO))
  refine bN ?_
  refine bD [(10, (eI x15.2)), (11, (eL aF x18.1)), (12, (eI x18.2)), (13, (eL aF x21)), (14, (eL aF x24.1)), (16, (eL aF x27)), (17, (eL aF x30.1))] ?_
  refine aQ ?_
  refine aQ ?_
  refine aT aH 12 ?_
  refine bH 9 ?_
  obtain ⟨x34, hx35, h0⟩ := aU h0
  refine fV [(87, true)] 12 [(eL aF x18.1), (eL aF x21)] (aL x34) ((decide (x15.2 = (0 : Int))) && (decide (x18.2 = (0 : Int)))) (by kernel_rfl) (by kernel_rfl) (by kernel_rfl) (fun hb36 => (zD x18.1 x21 _ (iU hx35 hb36))) hO ?_
  intro H hO
  refine bC ?_
  refine bP [10, 11, 12] [(92, (aL (((decide (x15.2 = (0 : Int))) && (decide (x18.2 = (0 : Int)))) && (!x34))))] ?_
  refine bL h0 (fun h0 => ?_) (fun h0 => ?_)
  · refine bV aH 1 [(4, (aL false))] ?_
    refine bI ?_
    obtain rfl := oI h0
    exact aK (bA (Q_r hO))
  refine bN ?_
  refine bD [(13, (eL aF x21)), (14, (eL aF x24.1)), (16, (eL aF x27)), (17, (eL aF x30.1))] ?_
  refine aQ ?_
  refine aT aH 12 ?_
  obtain ⟨x38, hx39, h0⟩ := aU h0
  refine cH (CP  _ hx39) hO ?_
  intro H hO
  refine bH 4 ?_
  obtain ⟨x41, hx42, h0⟩ := aU h0
  refine fV [(94, true)] 12 [(eL aF x24.1), (eL aF x21)] (aL x41) x38 (by kernel_rfl) (by kernel_rfl) (by kernel_rfl) (fun hb43 => (zD x24.1 x21 _ (iU hx42 hb43))) hO ?_
  intro H hO
  refine bH 9 ?_
  obtain ⟨x44, hx45, h0⟩ := aU h0
  refine fV [(99, true)] 12 [(eL aF x30.1), (eL aF x27)] (aL x44) (x38 && x41) (by kernel_rfl) (by kernel_rfl) (by kernel_rfl) (fun hb46 => (zD x30.1 x27 _ (iU hx45 hb46))) hO ?_
  intro H hO
  refine bC ?_
  refine bD [(4, (aL ((x38 && x41) && x44)))] ?_
  refine bI ?_
  obtain rfl := oI h0
  exact aK (Q_r hO)

end Go.Abs
namespace Go.Abs
open Go Go.RowKit Go.Proofs
theorem IV {H : Type} {enc : TypeId × Value → H} {w : World} : xH enc Try.prog w 79 aM CO :=
  CS Try.underlying79 (by kernel_rfl) (rR (c' := KB) (ok' := CO) (fun (a : Int) (b : Int × ByteArray × Unit) => (aG.mk a b.1 b.2.1 : aG)) (by kernel_rfl) (DF Try.underlying77) (rR (c' := fun (b : Int × ByteArray × Unit) => (V.cells (xU .i64 b.1) ++ (V.cells (zL b.2.1) ++ []))) (ok' := fun b => (DV b.1 ∧ ((fun s => s.size ≤ maxLen) b.2.1 ∧ True))) (fun a b => (a, b)) (by kernel_rfl) (DF Try.underlying3) (rR (c' := fun (b : ByteArray × Unit) => (V.cells (zL b.1) ++ [])) (ok' := fun b => ((fun s => s.size ≤ maxLen) b.1 ∧ True)) (fun a b => (a, b)) (by kernel_rfl) (SN Try.underlying9) (GN ()) (fun _ _ => rfl) (fun _ _ h1 h2 => ⟨h1, h2⟩)) (fun _ _ => rfl) (fun _ _ h1 h2 => ⟨h1, h2⟩)) (fun _ _ => rfl) (fun _ _ h1 h2 => ⟨h1, h2⟩))

theorem JQ {H : Type} {enc : TypeId × Value → H} {w : World} : xH enc Try.prog w 30 bJ AF :=
  CS Try.underlying30 (by kernel_rfl) (rR (c' := EZ) (ok' := AF) (fun (a : Int) (b : Int × Unit) => (aR.mk a b.1 : aR)) (by kernel_rfl) (DF Try.underlying3) (rR (c' := fun (b : Int × Unit) => (V.cells (xU .i64 b.1) ++ [])) (ok' := fun b => (DV b.1 ∧ True)) (fun a b => (a, b)) (by kernel_rfl) (DF Try.underlying3) (GN ()) (fun _ _ => rfl) (fun _ _ h1 h2 => ⟨h1, h2⟩)) (fun _ _ => rfl) (fun _ _ h1 h2 => ⟨h1, h2⟩))

theorem IN {H : Type} {enc : TypeId × Value → H} {w : World} : xH enc Try.prog w 32 aF uP :=
  CS Try.underlying32 (by kernel_rfl) (rR (c' := KO) (ok' := uP) (fun (a : (List aG)) (b : aR × Unit) => (aI.mk a b.1 : aI)) (by kernel_rfl) (WH Try.underlying28 (by decide +kernel) (fun _ => by kernel_rfl) (fun _ => rfl) IV (by kernel_rfl)) (rR (c' := fun (b : aR × Unit) => (V.cells (bJ b.1) ++ [])) (ok' := fun b => (AF b.1 ∧ True)) (fun a b => (a, b)) (by kernel_rfl) JQ (GN ()) (fun _ _ => rfl) (fun _ _ h1 h2 => ⟨h1, h2⟩)) (fun _ _ => rfl) (fun _ _ h1 h2 => ⟨h1, h2⟩))

end Go.Abs
namespace Go.Abs
open Go
theorem gX {n : Int} (h1 : -9223372036854775808 ≤ n) (h2 : n ≤ 9223372036854775807) : IntKind.i64.wrap n = n := by
  simp only [IntKind.wrap, IntKind.bits, IntKind.signed]
  simp
  split <;> omega

def qH {α st R : Type} (step : st → α → Option (st ⊕ R)) (fin : st → R) : st → List α → Option R
  | s, [] => some (fin s)
  | s, a :: r => match step s a with
    | some (.inl s') => qH step fin s' r
    | some (.inr x) => some x
    | none => none

theorem MZ {α st R : Type} {step : st → α → Option (st ⊕ R)} {fin : st → R} {s s' : st} {a : α} {r : List α} (h : step s a = some (.inl s')) : qH step fin s (a :: r) = qH step fin s' r := by
  simp only [qH, h]

theorem LZ {α st R : Type} {step : st → α → Option (st ⊕ R)} {fin : st → R} {s : st} {x : R} {a : α} {r : List α} (h : step s a = some (.inr x)) : qH step fin s (a :: r) = some x := by
  simp only [qH, h]

theorem XA {α S st R : Type} {body : S → Option (S ⊕ R)} {l : List α} (mk : st → Int → S) (step : st → α → Option (st ⊕ R)) (fin : st → R)
    (hn : ∀ (i : Nat) a s, l[i]? = some a → (∀ s', step s a = some (.inl s') → body (mk s i) = some (.inl (mk s' ((i + 1 : Nat) : Int)))) ∧ (∀ x, step s a = some (.inr x) → body (mk s i) = some (.inr x)))
    (he : ∀ s, body (mk s (l.length : Nat)) = some (.inr (fin s))) : ∀ (m k : Nat) (s : st) (r : R), l.length - k = m → k ≤ l.length → qH step fin s (l.drop k) = some r → lp body (mk s k) = some r
  | 0, k, s, r, hm, hk, h => by
    have : k = l.length := by omega
    subst this
    rw [List.drop_length] at h
    simp only [qH, Option.some.injEq] at h
    subst h
    exact cQ (he s)
  | m + 1, k, s, r, hm, hk, h => by
    have hlt : k < l.length := by omega
    have hd : l.drop k = l[k] :: l.drop (k + 1) := List.drop_eq_getElem_cons hlt
    rw [hd] at h
    simp only [qH] at h
    obtain ⟨h1, h2⟩ := hn k l[k] s (List.getElem?_eq_getElem hlt)
    split at h
    · rename_i s' hs
      rw [eT (h1 s' hs)]
      exact XA mk step fin hn he m (k + 1) s' r (by omega) (by omega) h
    · rename_i x hs
      simp at h; subst h
      exact cQ (h2 x hs)
    · cases h

theorem aBt {α S st R : Type} {body : S → Option (S ⊕ R)} {l : List α} (mk : st → Int → S) (step : st → α → Option (st ⊕ R)) (fin : st → R)
    (hn : ∀ (i : Nat) a s, l[i]? = some a → (∀ s', step s a = some (.inl s') → body (mk s i) = some (.inl (mk s' ((i + 1 : Nat) : Int)))) ∧ (∀ x, step s a = some (.inr x) → body (mk s i) = some (.inr x)))
    (he : ∀ s, body (mk s (l.length : Nat)) = some (.inr (fin s))) {s : st} {r : R} (h : qH step fin s l = some r) : lp body (mk s 0) = some r :=
  XA mk step fin hn he _ 0 s r rfl (Nat.zero_le _) (by simpa using h)

theorem VG {α S st R : Type} {body : S → Option (S ⊕ R)} {l : List α} (mk : st → Int → S) (step : st → α → Option (st ⊕ R)) (fin : st → R) (Inv : Nat → st → Prop)
    (hn : ∀ (i : Nat) a s, Inv i s → l[i]? = some a → (∀ s', step s a = some (.inl s') → Inv (i + 1) s' ∧ body (mk s i) = some (.inl (mk s' ((i + 1 : Nat) : Int)))) ∧ (∀ x, step s a = some (.inr x) → body (mk s i) = some (.inr x)))
    (he : ∀ s, Inv l.length s → body (mk s (l.length : Nat)) = some (.inr (fin s))) : ∀ (m k : Nat) (s : st) (r : R), l.length - k = m → k ≤ l.length → Inv k s → qH step fin s (l.drop k) = some r → lp body (mk s k) = some r
  | 0, k, s, r, hm, hk, hi, h => by
    have : k = l.length := by omega
    subst this
    rw [List.drop_length] at h
    simp only [qH, Option.some.injEq] at h
    subst h
    exact cQ (he s hi)
  | m + 1, k, s, r, hm, hk, hi, h => by
    have hlt : k < l.length := by omega
    have hd : l.drop k = l[k] :: l.drop (k + 1) := List.drop_eq_getElem_cons hlt
    rw [hd] at h
    simp only [qH] at h
    obtain ⟨h1, h2⟩ := hn k l[k] s hi (List.getElem?_eq_getElem hlt)
    split at h
    · rename_i s' hs
      obtain ⟨hi', hb⟩ := h1 s' hs
      rw [eT hb]
      exact VG mk step fin Inv hn he m (k + 1) s' r (by omega) (by omega) hi' h
    · rename_i x hs
      simp at h; subst h
      exact cQ (h2 x hs)
    · cases h

theorem aAe {α S st R : Type} {body : S → Option (S ⊕ R)} {l : List α} (mk : st → Int → S) (step : st → α → Option (st ⊕ R)) (fin : st → R) (Inv : Nat → st → Prop)
    (hn : ∀ (i : Nat) a s, Inv i s → l[i]? = some a → (∀ s', step s a = some (.inl s') → Inv (i + 1) s' ∧ body (mk s i) = some (.inl (mk s' ((i + 1 : Nat) : Int)))) ∧ (∀ x, step s a = some (.inr x) → body (mk s i) = some (.inr x)))
    (he : ∀ s, Inv l.length s → body (mk s (l.length : Nat)) = some (.inr (fin s))) {s : st} {r : R} (hi : Inv 0 s) (h : qH step fin s l = some r) : lp body (mk s 0) = some r :=
  VG mk step fin Inv hn he _ 0 s r rfl (Nat.zero_le _) hi (by simpa using h)

theorem idx {α : Type} [Inhabited α] {l : List α} {i : Nat} {a : α} (h : l[i]? = some a) (hl : l.length < 4611686018427387904) :
    decide ((i : Int) < ((l.length : Nat) : Int)) = true ∧ (0 ≤ (i : Int) ∧ (i : Int) < ((l.length : Nat) : Int)) ∧ l.getD (Int.toNat (i : Int)) default = a ∧ IntKind.i64.wrap ((i : Int) + 1) = ((i + 1 : Nat) : Int) := by
  have hlt : i < l.length := (List.getElem?_eq_some_iff.1 h).1
  refine ⟨by simpa using hlt, ⟨by omega, by omega⟩, ?_, ?_⟩
  · rw [Int.toNat_natCast, List.getD_eq_getElem?_getD, h]; rfl
  · rw [gX (by omega) (by omega)]; omega

theorem jO {n : Nat} : decide (((n : Nat) : Int) < ((n : Nat) : Int)) = false := by simp

theorem aDx {α : Type} {j : α} {r : List α} : (0 : Int) ≤ 0 ∧ (0 : Int) < ((List.length (j :: r) : Nat) : Int) := ⟨by omega, by simp⟩

theorem aCY {α : Type} [Inhabited α] {j : α} {r : List α} : List.getD (j :: r) (Int.toNat (0 : Int)) default = j := rfl

end Go.Abs
namespace Go.Abs
open Go
theorem drop_cons {α : Type} {l r : List α} {a : α} {k : Nat} (h : l.drop k = a :: r) : l[k]? = some a ∧ l.drop (k + 1) = r := by
  have hk : k < l.length := by
    apply Classical.byContradiction; intro hn
    rw [List.drop_eq_nil_of_le (by omega)] at h; cases h
  rw [List.drop_eq_getElem_cons hk] at h
  obtain ⟨h1, h2⟩ := List.cons.inj h
  exact ⟨by rw [List.getElem?_eq_getElem hk, h1], h2⟩

theorem ZW {α S st R : Type} {body : S → Option (S ⊕ R)} {l : List α} (mk : st → Int → S) (G : st → List α → R) (Inv : st → List α → Prop)
    (hn : ∀ (i : Nat) a r s, l[i]? = some a → Inv s (a :: r) → (∃ s', body (mk s i) = some (.inl (mk s' ((i + 1 : Nat) : Int))) ∧ Inv s' r ∧ G s' r = G s (a :: r)) ∨ body (mk s i) = some (.inr (G s (a :: r))))
    (he : ∀ s, Inv s [] → body (mk s (l.length : Nat)) = some (.inr (G s []))) : ∀ (r : List α) (k : Nat) (s : st), l.drop k = r → k ≤ l.length → Inv s r → lp body (mk s k) = some (G s r)
  | [], k, s, hd, hk, hi => by
    have : k = l.length := by
      have := congrArg List.length hd
      simp only [List.length_drop, List.length_nil] at this; omega
    subst this
    exact cQ (he s hi)
  | a :: r, k, s, hd, hk, hi => by
    obtain ⟨h1, h2⟩ := drop_cons hd
    have hlt : k < l.length := (List.getElem?_eq_some_iff.1 h1).1
    rcases hn k a r s h1 hi with ⟨s', hb, hi', hg⟩ | hb
    · rw [eT hb, ZW mk G Inv hn he r (k + 1) s' h2 (by omega) hi', hg]
    · exact cQ hb

theorem xY {α S st R : Type} {body : S → Option (S ⊕ R)} {l : List α} (mk : st → Int → S) (G : st → List α → R) (Inv : st → List α → Prop) (s : st)
    (hn : ∀ (i : Nat) a r s, l[i]? = some a → Inv s (a :: r) → (∃ s', body (mk s i) = some (.inl (mk s' ((i + 1 : Nat) : Int))) ∧ Inv s' r ∧ G s' r = G s (a :: r)) ∨ body (mk s i) = some (.inr (G s (a :: r))))
    (he : ∀ s, Inv s [] → body (mk s (l.length : Nat)) = some (.inr (G s []))) (hi : Inv s l) : lp body (mk s 0) = some (G s l) :=
  ZW mk G Inv hn he l 0 s rfl (Nat.zero_le _) hi

end Go.Abs
namespace Go.Abs
open Go
noncomputable def AN {α : Type} [Inhabited α] (cmp3 : α → α → Option Int) (aB : List α) (a1 : Int) (b2 : Int) (i8 : Int) : Option ((List α × Int) ⊕ ((List α))) :=
  some (.inl (aB, IntKind.i64.wrap (i8 + (1 : Int))))

noncomputable def mG {α : Type} [Inhabited α] (cmp3 : α → α → Option Int) (a1 : Int) (b2 : Int) (i8 : Int) (aB : List α) (j9 : Int) : Option ((List α × Int) ⊕ ((List α))) :=
  bK ((((decide (a1 < j9))) = true → 0 ≤ j9 ∧ j9 < ((List.length aB : Nat) : Int))) <|
  bK ((((decide (a1 < j9))) = true → 0 ≤ (IntKind.i64.wrap (j9 - (1 : Int))) ∧ (IntKind.i64.wrap (j9 - (1 : Int))) < ((List.length aB : Nat) : Int))) <|
  (cV (decide (a1 < j9)) (cmp3 (List.getD aB (Int.toNat j9) default) (List.getD aB (Int.toNat (IntKind.i64.wrap (j9 - (1 : Int)))) default))).bind fun x3 =>
  cond ((decide (a1 < j9)) && (decide (x3 < (0 : Int))))
  (bK (0 ≤ (IntKind.i64.wrap (j9 - (1 : Int))) ∧ (IntKind.i64.wrap (j9 - (1 : Int))) < ((List.length aB : Nat) : Int)) <|
  bK (0 ≤ j9 ∧ j9 < ((List.length aB : Nat) : Int)) <|
  bK (0 ≤ j9 ∧ j9 < ((List.length aB : Nat) : Int)) <|
  bK (0 ≤ (IntKind.i64.wrap (j9 - (1 : Int))) ∧ (IntKind.i64.wrap (j9 - (1 : Int))) < ((List.length aB : Nat) : Int)) <|
  some (.inl (List.set (List.set aB (Int.toNat j9) (List.getD aB (Int.toNat (IntKind.i64.wrap (j9 - (1 : Int)))) default)) (Int.toNat (IntKind.i64.wrap (j9 - (1 : Int)))) (List.getD aB (Int.toNat j9) default), IntKind.i64.wrap (j9 - (1 : Int)))))
  (some (.inr aB))

noncomputable def AR {α : Type} [Inhabited α] (cmp3 : α → α → Option Int) (aB : List α) (a1 : Int) (b2 : Int) (i8 : Int) (j9 : Int) : Option ((List α × Int) ⊕ ((List α))) :=
  (lp (fun s => mG cmp3 a1 b2 i8 s.1 s.2) (aB, j9)).bind (fun rr => AN cmp3 rr a1 b2 i8)

noncomputable def jR {α : Type} [Inhabited α] (cmp3 : α → α → Option Int) (a1 : Int) (b2 : Int) (aB : List α) (i8 : Int) : Option ((List α × Int) ⊕ ((List α))) :=
  cond (decide (i8 < b2))
  (AR cmp3 aB a1 b2 i8 i8)
  (some (.inr aB))

noncomputable def AH {α : Type} [Inhabited α] (cmp3 : α → α → Option Int) (aB : List α) (a1 : Int) (b2 : Int) (i8 : Int) : Option (List α) :=
  (lp (fun s => jR cmp3 a1 b2 s.1 s.2) (aB, i8)).bind (fun rr => some rr)

noncomputable def oH {α : Type} [Inhabited α] (aB : (List α)) (a1 : Int) (b2 : Int) (cmp3 : α → α → Option Int) : Option (List α) :=
  AH cmp3 aB a1 b2 (IntKind.i64.wrap (a1 + (1 : Int)))

noncomputable def pX {α : Type} [Inhabited α] (cmp4 : α → α → Option Int) (a1 : Int) (b2 : Int) (n3 : Int) (aB : List α) (i10 : Int) : Option ((List α × Int) ⊕ ((List α))) :=
  cond (decide (i10 < n3))
  (bK (0 ≤ (IntKind.i64.wrap (b2 + i10)) ∧ (IntKind.i64.wrap (b2 + i10)) < ((List.length aB : Nat) : Int)) <|
  bK (0 ≤ (IntKind.i64.wrap (a1 + i10)) ∧ (IntKind.i64.wrap (a1 + i10)) < ((List.length aB : Nat) : Int)) <|
  bK (0 ≤ (IntKind.i64.wrap (a1 + i10)) ∧ (IntKind.i64.wrap (a1 + i10)) < ((List.length aB : Nat) : Int)) <|
  bK (0 ≤ (IntKind.i64.wrap (b2 + i10)) ∧ (IntKind.i64.wrap (b2 + i10)) < ((List.length aB : Nat) : Int)) <|
  some (.inl (List.set (List.set aB (Int.toNat (IntKind.i64.wrap (a1 + i10))) (List.getD aB (Int.toNat (IntKind.i64.wrap (b2 + i10))) default)) (Int.toNat (IntKind.i64.wrap (b2 + i10))) (List.getD aB (Int.toNat (IntKind.i64.wrap (a1 + i10))) default), IntKind.i64.wrap (i10 + (1 : Int)))))
  (some (.inr aB))

noncomputable def EL {α : Type} [Inhabited α] (cmp4 : α → α → Option Int) (aB : List α) (a1 : Int) (b2 : Int) (n3 : Int) (i10 : Int) : Option (List α) :=
  (lp (fun s => pX cmp4 a1 b2 n3 s.1 s.2) (aB, i10)).bind (fun rr => some rr)

noncomputable def uT {α : Type} [Inhabited α] (aB : (List α)) (a1 : Int) (b2 : Int) (n3 : Int) (cmp4 : α → α → Option Int) : Option (List α) :=
  EL cmp4 aB a1 b2 n3 (0 : Int)

noncomputable def DW {α : Type} [Inhabited α] (cmp4 : α → α → Option Int) (aB : List α) (m2 : Int) (i10 : Int) : Option (List α) :=
  (uT aB (IntKind.i64.wrap (m2 - i10)) m2 i10 cmp4).bind fun x1 =>
  some x1

noncomputable def mN {α : Type} [Inhabited α] (cmp4 : α → α → Option Int) (m2 : Int) (aB : List α) (i10 : Int) (j11 : Int) : Option ((List α × Int × Int) ⊕ ((List α × Int))) :=
  cond (!decide (i10 = j11))
  (cond (decide (j11 < i10))
  ((uT aB (IntKind.i64.wrap (m2 - i10)) m2 j11 cmp4).bind fun x4 =>
  some (.inl (x4, IntKind.i64.wrap (i10 - j11), j11)))
  ((uT aB (IntKind.i64.wrap (m2 - i10)) (IntKind.i64.wrap ((IntKind.i64.wrap (m2 + j11)) - i10)) i10 cmp4).bind fun x7 =>
  some (.inl (x7, i10, IntKind.i64.wrap (j11 - i10)))))
  (some (.inr (aB, i10)))

noncomputable def KE {α : Type} [Inhabited α] (cmp4 : α → α → Option Int) (aB : List α) (m2 : Int) (i10 : Int) (j11 : Int) : Option (List α) :=
  (lp (fun s => mN cmp4 m2 s.1 s.2.1 s.2.2) (aB, i10, j11)).bind (fun rr => DW cmp4 rr.1 m2 rr.2)

noncomputable def CW {α : Type} [Inhabited α] (aB : (List α)) (a1 : Int) (m2 : Int) (b3 : Int) (cmp4 : α → α → Option Int) : Option (List α) :=
  KE cmp4 aB m2 (IntKind.i64.wrap (m2 - a1)) (IntKind.i64.wrap (b3 - m2))

noncomputable def AV {α : Type} [Inhabited α] (cmp4 : α → α → Option Int) (rec : (List α) → Int → Int → Int → Option (List α)) (aB : List α) (b3 : Int) (bQ : Int) (eB : Int) : Option (List α) :=
  cond ((decide (bQ < eB)) && (decide (eB < b3)))
  ((rec aB bQ eB b3).bind fun x2 =>
  some x2)
  (some aB)

noncomputable def qU {α : Type} [Inhabited α] (cmp4 : α → α → Option Int) (rec : (List α) → Int → Int → Int → Option (List α)) (aB : List α) (a1 : Int) (b3 : Int) (bQ : Int) (aS : Int) (eB : Int) : Option (List α) :=
  cond ((decide (a1 < aS)) && (decide (aS < bQ)))
  ((rec aB a1 aS bQ).bind fun x6 =>
  AV cmp4 rec x6 b3 bQ eB)
  (AV cmp4 rec aB b3 bQ eB)

noncomputable def HA {α : Type} [Inhabited α] (cmp4 : α → α → Option Int) (rec : (List α) → Int → Int → Int → Option (List α)) (aB : List α) (a1 : Int) (m2 : Int) (b3 : Int) (bQ : Int) (n19 : Int) (aS : Int) : Option (List α) :=
  cond ((decide (aS < m2)) && (decide (m2 < (IntKind.i64.wrap (n19 - aS)))))
  ((CW aB aS m2 (IntKind.i64.wrap (n19 - aS)) cmp4).bind fun x10 =>
  qU cmp4 rec x10 a1 b3 bQ aS (IntKind.i64.wrap (n19 - aS)))
  (qU cmp4 rec aB a1 b3 bQ aS (IntKind.i64.wrap (n19 - aS)))

noncomputable def oW {α : Type} [Inhabited α] (cmp4 : α → α → Option Int) (rec : (List α) → Int → Int → Int → Option (List α)) (a1 : Int) (m2 : Int) (b3 : Int) (bQ : Int) (n19 : Int) (p22 : Int) (aB : List α) (aS : Int) (r21 : Int) : Option ((List α × Int × Int) ⊕ ((List α × Int))) :=
  cond (decide (aS < r21))
  (bK (0 ≤ (1 : Int)) <|
  bK (0 ≤ (IntKind.i64.wrap (p22 - (IntKind.i64.wrap (Int.fdiv (IntKind.u64.wrap (IntKind.i64.wrap (aS + r21))) (2 ^ (min (Int.toNat (1 : Int)) 64)))))) ∧ (IntKind.i64.wrap (p22 - (IntKind.i64.wrap (Int.fdiv (IntKind.u64.wrap (IntKind.i64.wrap (aS + r21))) (2 ^ (min (Int.toNat (1 : Int)) 64)))))) < ((List.length aB : Nat) : Int)) <|
  bK (0 ≤ (IntKind.i64.wrap (Int.fdiv (IntKind.u64.wrap (IntKind.i64.wrap (aS + r21))) (2 ^ (min (Int.toNat (1 : Int)) 64)))) ∧ (IntKind.i64.wrap (Int.fdiv (IntKind.u64.wrap (IntKind.i64.wrap (aS + r21))) (2 ^ (min (Int.toNat (1 : Int)) 64)))) < ((List.length aB : Nat) : Int)) <|
  (cmp4 (List.getD aB (Int.toNat (IntKind.i64.wrap (p22 - (IntKind.i64.wrap (Int.fdiv (IntKind.u64.wrap (IntKind.i64.wrap (aS + r21))) (2 ^ (min (Int.toNat (1 : Int)) 64))))))) default) (List.getD aB (Int.toNat (IntKind.i64.wrap (Int.fdiv (IntKind.u64.wrap (IntKind.i64.wrap (aS + r21))) (2 ^ (min (Int.toNat (1 : Int)) 64))))) default)).bind fun x17 =>
  cond (!(decide (x17 < (0 : Int))))
  (some (.inl (aB, IntKind.i64.wrap ((IntKind.i64.wrap (Int.fdiv (IntKind.u64.wrap (IntKind.i64.wrap (aS + r21))) (2 ^ (min (Int.toNat (1 : Int)) 64)))) + (1 : Int)), r21)))
  (some (.inl (aB, aS, IntKind.i64.wrap (Int.fdiv (IntKind.u64.wrap (IntKind.i64.wrap (aS + r21))) (2 ^ (min (Int.toNat (1 : Int)) 64)))))))
  (some (.inr (aB, aS)))

noncomputable def GW {α : Type} [Inhabited α] (cmp4 : α → α → Option Int) (rec : (List α) → Int → Int → Int → Option (List α)) (aB : List α) (a1 : Int) (m2 : Int) (b3 : Int) (bQ : Int) (n19 : Int) (aS : Int) (r21 : Int) (p22 : Int) : Option (List α) :=
  (lp (fun s => oW cmp4 rec a1 m2 b3 bQ n19 p22 s.1 s.2.1 s.2.2) (aB, aS, r21)).bind (fun rr => HA cmp4 rec rr.1 a1 m2 b3 bQ n19 rr.2)

noncomputable def wX {α : Type} [Inhabited α] (cmp4 : α → α → Option Int) (rec : (List α) → Int → Int → Int → Option (List α)) (aB : List α) (a1 : Int) (m2 : Int) (b3 : Int) (bQ : Int) (n19 : Int) (aS : Int) (r21 : Int) : Option (List α) :=
  GW cmp4 rec aB a1 m2 b3 bQ n19 aS r21 (IntKind.i64.wrap (n19 - (1 : Int)))

noncomputable def xI {α : Type} [Inhabited α] (cmp4 : α → α → Option Int) (rec : (List α) → Int → Int → Int → Option (List α)) (aB : List α) (a1 : Int) (m2 : Int) (b3 : Int) : Option (List α) :=
  bK (0 ≤ (1 : Int)) <|
  cond (decide ((IntKind.i64.wrap (Int.fdiv (IntKind.u64.wrap (IntKind.i64.wrap (a1 + b3))) (2 ^ (min (Int.toNat (1 : Int)) 64)))) < m2))
  (wX cmp4 rec aB a1 m2 b3 (IntKind.i64.wrap (Int.fdiv (IntKind.u64.wrap (IntKind.i64.wrap (a1 + b3))) (2 ^ (min (Int.toNat (1 : Int)) 64)))) (IntKind.i64.wrap ((IntKind.i64.wrap (Int.fdiv (IntKind.u64.wrap (IntKind.i64.wrap (a1 + b3))) (2 ^ (min (Int.toNat (1 : Int)) 64)))) + m2)) (IntKind.i64.wrap ((IntKind.i64.wrap ((IntKind.i64.wrap (Int.fdiv (IntKind.u64.wrap (IntKind.i64.wrap (a1 + b3))) (2 ^ (min (Int.toNat (1 : Int)) 64)))) + m2)) - b3)) (IntKind.i64.wrap (Int.fdiv (IntKind.u64.wrap (IntKind.i64.wrap (a1 + b3))) (2 ^ (min (Int.toNat (1 : Int)) 64)))))
  (wX cmp4 rec aB a1 m2 b3 (IntKind.i64.wrap (Int.fdiv (IntKind.u64.wrap (IntKind.i64.wrap (a1 + b3))) (2 ^ (min (Int.toNat (1 : Int)) 64)))) (IntKind.i64.wrap ((IntKind.i64.wrap (Int.fdiv (IntKind.u64.wrap (IntKind.i64.wrap (a1 + b3))) (2 ^ (min (Int.toNat (1 : Int)) 64)))) + m2)) a1 m2)

noncomputable def HE {α : Type} [Inhabited α] (cmp4 : α → α → Option Int) (rec : (List α) → Int → Int → Int → Option (List α)) (aB : List α) : Option (List α) :=
  some aB

noncomputable def oF {α : Type} [Inhabited α] (cmp4 : α → α → Option Int) (rec : (List α) → Int → Int → Int → Option (List α)) (i14 : Int) (aB : List α) (k17 : Int) : Option ((List α × Int) ⊕ ((List α))) :=
  cond (decide (i14 < k17))
  (bK (0 ≤ (IntKind.i64.wrap (k17 - (1 : Int))) ∧ (IntKind.i64.wrap (k17 - (1 : Int))) < ((List.length aB : Nat) : Int)) <|
  bK (0 ≤ k17 ∧ k17 < ((List.length aB : Nat) : Int)) <|
  bK (0 ≤ k17 ∧ k17 < ((List.length aB : Nat) : Int)) <|
  bK (0 ≤ (IntKind.i64.wrap (k17 - (1 : Int))) ∧ (IntKind.i64.wrap (k17 - (1 : Int))) < ((List.length aB : Nat) : Int)) <|
  some (.inl (List.set (List.set aB (Int.toNat k17) (List.getD aB (Int.toNat (IntKind.i64.wrap (k17 - (1 : Int)))) default)) (Int.toNat (IntKind.i64.wrap (k17 - (1 : Int)))) (List.getD aB (Int.toNat k17) default), IntKind.i64.wrap (k17 - (1 : Int)))))
  (some (.inr aB))

noncomputable def EM {α : Type} [Inhabited α] (cmp4 : α → α → Option Int) (rec : (List α) → Int → Int → Int → Option (List α)) (aB : List α) (i14 : Int) (k17 : Int) : Option (List α) :=
  (lp (fun s => oF cmp4 rec i14 s.1 s.2) (aB, k17)).bind (fun rr => HE cmp4 rec rr)

noncomputable def HF {α : Type} [Inhabited α] (cmp4 : α → α → Option Int) (rec : (List α) → Int → Int → Int → Option (List α)) (aB : List α) (m2 : Int) (i14 : Int) : Option (List α) :=
  EM cmp4 rec aB i14 m2

noncomputable def nW {α : Type} [Inhabited α] (cmp4 : α → α → Option Int) (rec : (List α) → Int → Int → Int → Option (List α)) (m2 : Int) (aB : List α) (i14 : Int) (j15 : Int) : Option ((List α × Int × Int) ⊕ ((List α × Int))) :=
  cond (decide (i14 < j15))
  (bK (0 ≤ (1 : Int)) <|
  bK (0 ≤ m2 ∧ m2 < ((List.length aB : Nat) : Int)) <|
  bK (0 ≤ (IntKind.i64.wrap (Int.fdiv (IntKind.u64.wrap (IntKind.i64.wrap (i14 + j15))) (2 ^ (min (Int.toNat (1 : Int)) 64)))) ∧ (IntKind.i64.wrap (Int.fdiv (IntKind.u64.wrap (IntKind.i64.wrap (i14 + j15))) (2 ^ (min (Int.toNat (1 : Int)) 64)))) < ((List.length aB : Nat) : Int)) <|
  (cmp4 (List.getD aB (Int.toNat m2) default) (List.getD aB (Int.toNat (IntKind.i64.wrap (Int.fdiv (IntKind.u64.wrap (IntKind.i64.wrap (i14 + j15))) (2 ^ (min (Int.toNat (1 : Int)) 64))))) default)).bind fun x31 =>
  cond (!(decide (x31 < (0 : Int))))
  (some (.inl (aB, IntKind.i64.wrap ((IntKind.i64.wrap (Int.fdiv (IntKind.u64.wrap (IntKind.i64.wrap (i14 + j15))) (2 ^ (min (Int.toNat (1 : Int)) 64)))) + (1 : Int)), j15)))
  (some (.inl (aB, i14, IntKind.i64.wrap (Int.fdiv (IntKind.u64.wrap (IntKind.i64.wrap (i14 + j15))) (2 ^ (min (Int.toNat (1 : Int)) 64)))))))
  (some (.inr (aB, i14)))

noncomputable def EY {α : Type} [Inhabited α] (cmp4 : α → α → Option Int) (rec : (List α) → Int → Int → Int → Option (List α)) (aB : List α) (m2 : Int) (i14 : Int) (j15 : Int) : Option (List α) :=
  (lp (fun s => nW cmp4 rec m2 s.1 s.2.1 s.2.2) (aB, i14, j15)).bind (fun rr => HF cmp4 rec rr.1 m2 rr.2)

noncomputable def BB {α : Type} [Inhabited α] (cmp4 : α → α → Option Int) (rec : (List α) → Int → Int → Int → Option (List α)) (aB : List α) (a1 : Int) (m2 : Int) (b3 : Int) : Option (List α) :=
  cond (decide ((IntKind.i64.wrap (b3 - m2)) = (1 : Int)))
  (EY cmp4 rec aB m2 a1 m2)
  (xI cmp4 rec aB a1 m2 b3)

noncomputable def EP {α : Type} [Inhabited α] (cmp4 : α → α → Option Int) (rec : (List α) → Int → Int → Int → Option (List α)) (aB : List α) : Option (List α) :=
  some aB

noncomputable def nX {α : Type} [Inhabited α] (cmp4 : α → α → Option Int) (rec : (List α) → Int → Int → Int → Option (List α)) (i10 : Int) (aB : List α) (k13 : Int) : Option ((List α × Int) ⊕ ((List α))) :=
  cond (decide (k13 < (IntKind.i64.wrap (i10 - (1 : Int)))))
  (bK (0 ≤ (IntKind.i64.wrap (k13 + (1 : Int))) ∧ (IntKind.i64.wrap (k13 + (1 : Int))) < ((List.length aB : Nat) : Int)) <|
  bK (0 ≤ k13 ∧ k13 < ((List.length aB : Nat) : Int)) <|
  bK (0 ≤ k13 ∧ k13 < ((List.length aB : Nat) : Int)) <|
  bK (0 ≤ (IntKind.i64.wrap (k13 + (1 : Int))) ∧ (IntKind.i64.wrap (k13 + (1 : Int))) < ((List.length aB : Nat) : Int)) <|
  some (.inl (List.set (List.set aB (Int.toNat k13) (List.getD aB (Int.toNat (IntKind.i64.wrap (k13 + (1 : Int)))) default)) (Int.toNat (IntKind.i64.wrap (k13 + (1 : Int)))) (List.getD aB (Int.toNat k13) default), IntKind.i64.wrap (k13 + (1 : Int)))))
  (some (.inr aB))

noncomputable def EA {α : Type} [Inhabited α] (cmp4 : α → α → Option Int) (rec : (List α) → Int → Int → Int → Option (List α)) (aB : List α) (i10 : Int) (k13 : Int) : Option (List α) :=
  (lp (fun s => nX cmp4 rec i10 s.1 s.2) (aB, k13)).bind (fun rr => EP cmp4 rec rr)

noncomputable def EG {α : Type} [Inhabited α] (cmp4 : α → α → Option Int) (rec : (List α) → Int → Int → Int → Option (List α)) (aB : List α) (a1 : Int) (i10 : Int) : Option (List α) :=
  EA cmp4 rec aB i10 a1

noncomputable def oC {α : Type} [Inhabited α] (cmp4 : α → α → Option Int) (rec : (List α) → Int → Int → Int → Option (List α)) (a1 : Int) (aB : List α) (i10 : Int) (j11 : Int) : Option ((List α × Int × Int) ⊕ ((List α × Int))) :=
  cond (decide (i10 < j11))
  (bK (0 ≤ (1 : Int)) <|
  bK (0 ≤ (IntKind.i64.wrap (Int.fdiv (IntKind.u64.wrap (IntKind.i64.wrap (i10 + j11))) (2 ^ (min (Int.toNat (1 : Int)) 64)))) ∧ (IntKind.i64.wrap (Int.fdiv (IntKind.u64.wrap (IntKind.i64.wrap (i10 + j11))) (2 ^ (min (Int.toNat (1 : Int)) 64)))) < ((List.length aB : Nat) : Int)) <|
  bK (0 ≤ a1 ∧ a1 < ((List.length aB : Nat) : Int)) <|
  (cmp4 (List.getD aB (Int.toNat (IntKind.i64.wrap (Int.fdiv (IntKind.u64.wrap (IntKind.i64.wrap (i10 + j11))) (2 ^ (min (Int.toNat (1 : Int)) 64))))) default) (List.getD aB (Int.toNat a1) default)).bind fun x45 =>
  cond (decide (x45 < (0 : Int)))
  (some (.inl (aB, IntKind.i64.wrap ((IntKind.i64.wrap (Int.fdiv (IntKind.u64.wrap (IntKind.i64.wrap (i10 + j11))) (2 ^ (min (Int.toNat (1 : Int)) 64)))) + (1 : Int)), j11)))
  (some (.inl (aB, i10, IntKind.i64.wrap (Int.fdiv (IntKind.u64.wrap (IntKind.i64.wrap (i10 + j11))) (2 ^ (min (Int.toNat (1 : Int)) 64)))))))
  (some (.inr (aB, i10)))

noncomputable def EK {α : Type} [Inhabited α] (cmp4 : α → α → Option Int) (rec : (List α) → Int → Int → Int → Option (List α)) (aB : List α) (a1 : Int) (i10 : Int) (j11 : Int) : Option (List α) :=
  (lp (fun s => oC cmp4 rec a1 s.1 s.2.1 s.2.2) (aB, i10, j11)).bind (fun rr => EG cmp4 rec rr.1 a1 rr.2)

noncomputable def eD {α : Type} [Inhabited α] (cmp4 : α → α → Option Int) (rec : (List α) → Int → Int → Int → Option (List α)) (aB : (List α)) (a1 : Int) (m2 : Int) (b3 : Int) : Option (List α) :=
  cond (decide ((IntKind.i64.wrap (m2 - a1)) = (1 : Int)))
  (EK cmp4 rec aB a1 m2 b3)
  (BB cmp4 rec aB a1 m2 b3)

noncomputable def eG {α : Type} [Inhabited α] (cmp4 : α → α → Option Int) : Nat → (List α) → Int → Int → Int → Option (List α)
  | 0 => fun _ _ _ _ => none
  | k + 1 => eD cmp4 (eG cmp4 k)

noncomputable def pP {α : Type} [Inhabited α] (aB : (List α)) (a1 : Int) (m2 : Int) (b3 : Int) (cmp4 : α → α → Option Int) : Option (List α) := LP (fun k => eG cmp4 k aB a1 m2 b3)

noncomputable def zY {α : Type} [Inhabited α] (cmp2 : α → α → Option Int) (aB : List α) (n1 : Int) (aP : Int) : Option ((List α × Int) ⊕ ((List α))) :=
  some (.inl (aB, IntKind.i64.wrap (aP * (2 : Int))))

noncomputable def wO {α : Type} [Inhabited α] (cmp2 : α → α → Option Int) (aB : List α) (n1 : Int) (aP : Int) (a7 : Int) : Option ((List α × Int) ⊕ ((List α))) :=
  cond (decide ((IntKind.i64.wrap (a7 + aP)) < n1))
  ((pP aB a7 (IntKind.i64.wrap (a7 + aP)) n1 cmp2).bind fun x4 =>
  zY cmp2 x4 n1 aP)
  (zY cmp2 aB n1 aP)

noncomputable def mQ {α : Type} [Inhabited α] (cmp2 : α → α → Option Int) (n1 : Int) (aP : Int) (aB : List α) (a7 : Int) (b8 : Int) : Option ((List α × Int × Int) ⊕ ((List α × Int))) :=
  cond (decide (b8 ≤ n1))
  ((pP aB a7 (IntKind.i64.wrap (a7 + aP)) b8 cmp2).bind fun x8 =>
  some (.inl (x8, b8, IntKind.i64.wrap (b8 + (IntKind.i64.wrap ((2 : Int) * aP))))))
  (some (.inr (aB, a7)))

noncomputable def wS {α : Type} [Inhabited α] (cmp2 : α → α → Option Int) (aB : List α) (n1 : Int) (aP : Int) (a7 : Int) (b8 : Int) : Option ((List α × Int) ⊕ ((List α))) :=
  (lp (fun s => mQ cmp2 n1 aP s.1 s.2.1 s.2.2) (aB, a7, b8)).bind (fun rr => wO cmp2 rr.1 n1 aP rr.2)

noncomputable def jZ {α : Type} [Inhabited α] (cmp2 : α → α → Option Int) (n1 : Int) (aB : List α) (aP : Int) : Option ((List α × Int) ⊕ ((List α))) :=
  cond (decide (aP < n1))
  (wS cmp2 aB n1 aP (0 : Int) (IntKind.i64.wrap ((2 : Int) * aP)))
  (some (.inr aB))

noncomputable def zS {α : Type} [Inhabited α] (cmp2 : α → α → Option Int) (aB : List α) (n1 : Int) (aP : Int) : Option (List α) :=
  (lp (fun s => jZ cmp2 n1 s.1 s.2) (aB, aP)).bind (fun rr => some rr)

noncomputable def zX {α : Type} [Inhabited α] (cmp2 : α → α → Option Int) (aB : List α) (n1 : Int) (aP : Int) (a7 : Int) : Option (List α) :=
  (oH aB a7 n1 cmp2).bind fun x1 =>
  zS cmp2 x1 n1 aP

noncomputable def mO {α : Type} [Inhabited α] (cmp2 : α → α → Option Int) (n1 : Int) (aP : Int) (aB : List α) (a7 : Int) (b8 : Int) : Option ((List α × Int × Int) ⊕ ((List α × Int))) :=
  cond (decide (b8 ≤ n1))
  ((oH aB a7 b8 cmp2).bind fun x13 =>
  some (.inl (x13, b8, IntKind.i64.wrap (b8 + aP))))
  (some (.inr (aB, a7)))

noncomputable def zU {α : Type} [Inhabited α] (cmp2 : α → α → Option Int) (aB : List α) (n1 : Int) (aP : Int) (a7 : Int) (b8 : Int) : Option (List α) :=
  (lp (fun s => mO cmp2 n1 aP s.1 s.2.1 s.2.2) (aB, a7, b8)).bind (fun rr => zX cmp2 rr.1 n1 aP rr.2)

noncomputable def yA {α : Type} [Inhabited α] (aB : (List α)) (n1 : Int) (cmp2 : α → α → Option Int) : Option (List α) :=
  zU cmp2 aB n1 (20 : Int) (0 : Int) (20 : Int)

end Go.Abs
namespace Go.Abs
open Go
variable {α : Type} [Inhabited α]
structure Cmp {β : Type} (ok : β → Prop) (le : β → β → Prop) (cmp : β → β → Option Int) : Prop where
  ans : ∀ x y, ok x → ok y → ∃ v, cmp x y = some v ∧ (v < 0 ↔ ¬ le y x)
  trans : ∀ x y z, ok x → ok y → ok z → le x y → le y z → le x z
  total : ∀ x y, ok x → ok y → le x y ∨ le y x

abbrev Srt {β : Type} (le : β → β → Prop) (l : List β) : Prop := l.Pairwise le

abbrev Oks {β : Type} (ok : β → Prop) (l : List β) : Prop := ∀ x ∈ l, ok x

theorem aBp {Q R : List α} {x : α} : (Q ++ x :: R).getD Q.length default = x := by simp [List.getD_eq_getElem?_getD]

theorem aCr {β : Type} {Q R : List β} {x y : β} : (Q ++ x :: R).set Q.length y = Q ++ y :: R := by simp

theorem qN {Q R d : List α} {x : α} {n : Nat} (hd : d = Q ++ x :: R) (hn : n = Q.length) : d.getD n default = x := by subst hd; subst hn; exact aBp

theorem EN {β : Type} {Q R d : List β} {x y : β} {n : Nat} (hd : d = Q ++ x :: R) (hn : n = Q.length) : d.set n y = Q ++ y :: R := by subst hd; subst hn; exact aCr

theorem wr {n : Int} (h1 : -1099511627776 ≤ n) (h2 : n ≤ 8796093022208) : IntKind.i64.wrap n = n := gX (by omega) (by omega)

theorem UW {β : Type} {Q M R d : List β} {x y : β} {a b : Nat} (hd : d = Q ++ x :: (M ++ y :: R)) (ha : a = Q.length) (hb : b = Q.length + 1 + M.length) : (d.set a y).set b x = Q ++ y :: (M ++ x :: R) := by
  rw [EN hd ha, EN (Q := Q ++ y :: M) (x := y) (R := R) (by simp) (by simp; omega)]
  simp

section ins
variable {ok : α → Prop} {le : α → α → Prop} {cmp : α → α → Option Int}
theorem GZ {A T : List α} {x : α} {a b i : Int} {P : List α} (ha : a = (P.length : Nat)) (hl : (P ++ A ++ x :: T).length ≤ 1099511627776)
    (hs : A = [] ∨ ∃ A' y v, A = A' ++ [y] ∧ cmp x y = some v ∧ ¬ v < 0) : mG cmp a b i (P ++ A ++ x :: T) ((P.length + A.length : Nat) : Int) = some (.inr (P ++ A ++ x :: T)) := by
  simp only [List.length_append, List.length_cons] at hl
  unfold mG
  rcases hs with rfl | ⟨A', y, v, rfl, hc, hv⟩
  · have h : decide (a < ((P.length + ([] : List α).length : Nat) : Int)) = false := by subst ha; simp
    rw [h, bF (fun h => by cases h), bF (fun h => by cases h)]
    simp [cV]
  · simp only [List.length_append, List.length_cons, List.length_nil] at hl ⊢
    have h : decide (a < ((P.length + (A'.length + (0 + 1)) : Nat) : Int)) = true := by subst ha; simp; omega
    have hw : IntKind.i64.wrap (((P.length + (A'.length + (0 + 1)) : Nat) : Int) - 1) = ((P.length + A'.length : Nat) : Int) := by rw [wr (by omega) (by omega)]; omega
    have g1 : (P ++ (A' ++ [y]) ++ x :: T).getD (P.length + (A'.length + (0 + 1))) default = x := qN (Q := P ++ (A' ++ [y])) rfl (by simp)
    have g2 : (P ++ (A' ++ [y]) ++ x :: T).getD (P.length + A'.length) default = y := qN (Q := P ++ A') (R := x :: T) (by simp) (by simp)
    rw [h, hw, bF (fun _ => ⟨by omega, by omega⟩), bF (fun _ => ⟨by omega, by omega⟩)]
    rw [Int.toNat_natCast, Int.toNat_natCast, g1, g2]
    simp [cV, hc, hv]

theorem WR {A T : List α} {x y : α} {v : Int} {a b i : Int} {P : List α} (ha : a = (P.length : Nat)) (hl : (P ++ (A ++ [y]) ++ x :: T).length ≤ 1099511627776)
    (hc : cmp x y = some v) (hv : v < 0) : mG cmp a b i (P ++ (A ++ [y]) ++ x :: T) ((P.length + (A ++ [y]).length : Nat) : Int) = some (.inl (P ++ A ++ x :: (y :: T), ((P.length + A.length : Nat) : Int))) := by
  simp only [List.length_append, List.length_cons, List.length_nil] at hl ⊢
  unfold mG
  have h : decide (a < ((P.length + (A.length + (0 + 1)) : Nat) : Int)) = true := by subst ha; simp; omega
  have hw : IntKind.i64.wrap (((P.length + (A.length + (0 + 1)) : Nat) : Int) - 1) = ((P.length + A.length : Nat) : Int) := by rw [wr (by omega) (by omega)]; omega
  have g1 : (P ++ (A ++ [y]) ++ x :: T).getD (P.length + (A.length + (0 + 1))) default = x := qN (Q := P ++ (A ++ [y])) rfl (by simp)
  have g2 : (P ++ (A ++ [y]) ++ x :: T).getD (P.length + A.length) default = y := qN (Q := P ++ A) (R := x :: T) (by simp) (by simp)
  have hs : ((P ++ (A ++ [y]) ++ x :: T).set (P.length + (A.length + (0 + 1))) y).set (P.length + A.length) x = P ++ A ++ x :: (y :: T) := by
    rw [EN (Q := P ++ (A ++ [y])) (x := x) (R := T) rfl (by simp), EN (Q := P ++ A) (x := y) (R := y :: T) (by simp) (by simp)]
  have b1 : 0 ≤ ((P.length + (A.length + (0 + 1)) : Nat) : Int) ∧ ((P.length + (A.length + (0 + 1)) : Nat) : Int) < ((List.length (P ++ (A ++ [y]) ++ x :: T) : Nat) : Int) := ⟨by omega, by simp only [List.length_append, List.length_cons, List.length_nil]; omega⟩
  have b2 : 0 ≤ ((P.length + A.length : Nat) : Int) ∧ ((P.length + A.length : Nat) : Int) < ((List.length (P ++ (A ++ [y]) ++ x :: T) : Nat) : Int) := ⟨by omega, by simp only [List.length_append, List.length_cons, List.length_nil]; omega⟩
  rw [h, hw, bF (fun _ => b1), bF (fun _ => b2), Int.toNat_natCast, Int.toNat_natCast, g1, g2]
  simp only [cV, cond_true, hc, Option.bind_some, Bool.true_and, decide_eq_true hv]
  rw [bF b2, bF b1, bF b1, bF b2, hs]

theorem aAM (C : Cmp ok le cmp) {x : α} (hx : ok x) {a b i : Int} {P : List α} (ha : a = (P.length : Nat)) : ∀ (n : Nat) (A B T : List α), A.length = n → Oks ok A → Oks ok B → Srt le (A ++ B) → (∀ y ∈ B, ¬ le y x) → (P ++ A ++ x :: (B ++ T)).length ≤ 1099511627776 →
    ∃ D, D.Perm (A ++ x :: B) ∧ Srt le D ∧ lp (fun s : List α × Int => mG cmp a b i s.1 s.2) (P ++ A ++ x :: (B ++ T), ((P.length + A.length : Nat) : Int)) = some (P ++ D ++ T) := by
  intro n
  induction n with
  | zero =>
    intro A B T hn _ hB hs hlt hl
    have hA : A = [] := List.length_eq_zero_iff.1 hn
    subst hA
    refine ⟨x :: B, List.Perm.refl _, ?_, ?_⟩
    · refine List.pairwise_cons.2 ⟨fun y hy => ?_, by simpa using hs⟩
      rcases C.total x y hx (hB y hy) with h | h
      · exact h
      · exact absurd h (hlt y hy)
    · rw [cQ (GZ ha hl (Or.inl rfl))]; simp
  | succ n ih =>
    intro A B T hn hA hB hs hlt hl
    obtain ⟨A', y, rfl⟩ : ∃ A' y, A = A' ++ [y] := by
      rcases List.eq_nil_or_concat A with h | ⟨A', y, h⟩
      · rw [h] at hn; simp at hn
      · exact ⟨A', y, by simpa using h⟩
    have hy : ok y := hA y (by simp)
    obtain ⟨v, hc, hv⟩ := C.ans x y hx hy
    by_cases hneg : v < 0
    · have hb := WR (i := i) (b := b) ha hl hc hneg
      have hl' : (P ++ A' ++ x :: ((y :: B) ++ T)).length ≤ 1099511627776 := by
        simp only [List.length_append, List.length_cons, List.length_nil] at hl ⊢; omega
      obtain ⟨D, d1, d2, d3⟩ := ih A' (y :: B) T (by simpa using hn) (fun z hz => hA z (by simp [hz])) (fun z hz => by rcases List.mem_cons.1 hz with rfl | hz; exact hy; exact hB z hz) (by simpa using hs)
        (fun z hz => by rcases List.mem_cons.1 hz with rfl | hz; exact hv.1 hneg; exact hlt z hz) hl'
      refine ⟨D, d1.trans ?_, d2, ?_⟩
      · simp only [List.append_assoc, List.singleton_append]
        exact List.Perm.append_left _ (List.Perm.swap ..)
      · rw [eT hb]; simpa using d3
    · refine ⟨A' ++ [y] ++ x :: B, List.Perm.refl _, ?_, ?_⟩
      · have hyx : le y x := Classical.byContradiction fun h => hneg (hv.2 h)
        simp only [Srt, List.pairwise_append] at hs ⊢
        obtain ⟨s1, s2, s3⟩ := hs
        refine ⟨s1, List.pairwise_cons.2 ⟨fun z hz => ?_, s2⟩, ?_⟩
        · rcases C.total x z hx (hB z hz) with h | h
          · exact h
          · exact absurd h (hlt z hz)
        · intro z hz w hw
          rcases List.mem_cons.1 hw with rfl | hw
          · rcases List.mem_append.1 hz with hz' | hz'
            · exact C.trans z y w (hA z hz) hy hx (s1.2.2 z hz' y (by simp)) hyx
            · rw [List.mem_singleton] at hz'; subst hz'; exact hyx
          · exact s3 z hz w hw
      · rw [cQ (GZ ha hl (Or.inr ⟨A', y, v, rfl, hc, hneg⟩))]
        simp

theorem PW (C : Cmp ok le cmp) {a b : Int} {P : List α} (ha : a = (P.length : Nat)) : ∀ (B A T : List α), Oks ok A → Oks ok B → Srt le A → b = ((P.length + A.length + B.length : Nat) : Int) → (P ++ A ++ (B ++ T)).length ≤ 1099511627776 →
    ∃ D, D.Perm (A ++ B) ∧ Srt le D ∧ lp (fun s : List α × Int => jR cmp a b s.1 s.2) (P ++ A ++ (B ++ T), ((P.length + A.length : Nat) : Int)) = some (P ++ D ++ T)
  | [], A, T, _, _, hs, hb, _ => by
    refine ⟨A, by simp, hs, cQ ?_⟩
    have : decide (((P.length + A.length : Nat) : Int) < b) = false := by subst hb; simp
    simp only [jR, this, cond_false, List.nil_append]
  | x :: B, A, T, hA, hB, hs, hb, hl => by
    obtain ⟨D, d1, d2, d3⟩ := aAM C (hB x (by simp)) (b := b) (i := ((P.length + A.length : Nat) : Int)) ha A.length A [] (B ++ T) rfl hA (by intro z hz; simp at hz) (by simpa using hs) (by simp) (by simpa using hl)
    have hD : D.length = A.length + 1 := by rw [d1.length_eq]; simp
    have hlt : decide (((P.length + A.length : Nat) : Int) < b) = true := by subst hb; simp; omega
    have hbod : (fun s : List α × Int => jR cmp a b s.1 s.2) (P ++ A ++ (x :: B ++ T), ((P.length + A.length : Nat) : Int)) = some (.inl (P ++ D ++ (B ++ T), ((P.length + D.length : Nat) : Int))) := by
      show jR cmp a b _ _ = _
      simp only [jR, hlt, cond_true, AR]
      rw [show P ++ A ++ (x :: B ++ T) = P ++ A ++ x :: ([] ++ (B ++ T)) by simp, d3]
      simp only [Option.bind_some, AN]
      rw [wr (by omega) (by simp only [List.length_append, List.length_cons] at hl; omega), hD]
      congr 1
    have hl' : (P ++ D ++ (B ++ T)).length ≤ 1099511627776 := by simp only [List.length_append, List.length_cons] at hl ⊢; omega
    obtain ⟨E, e1, e2, e3⟩ := PW C (b := b) ha B D T (fun z hz => by
      have := d1.mem_iff.1 hz
      rcases List.mem_append.1 this with h | h
      · exact hA z h
      · rw [List.mem_singleton] at h; subst h; exact hB z (by simp)) (fun z hz => hB z (by simp [hz])) d2 (by rw [hb]; simp only [List.length_cons]; congr 1; omega) hl'
    refine ⟨E, e1.trans ?_, e2, by rw [eT hbod]; exact e3⟩
    have := d1.append_right B
    simpa using this

theorem aAU (C : Cmp ok le cmp) {P A T : List α} {a b : Int} (ha : a = (P.length : Nat)) (hb : b = ((P.length + A.length : Nat) : Int)) (hA : Oks ok A) (hl : (P ++ A ++ T).length ≤ 1099511627776) :
    ∃ D, D.Perm A ∧ Srt le D ∧ oH (P ++ A ++ T) a b cmp = some (P ++ D ++ T) := by
  unfold oH AH
  simp only [List.length_append] at hl
  cases A with
  | nil =>
    refine ⟨[], List.Perm.refl _, List.Pairwise.nil, ?_⟩
    rw [cQ (r := P ++ [] ++ T)]
    · rfl
    · have : decide (IntKind.i64.wrap (a + 1) < b) = false := by
        rw [wr (by omega) (by omega)]; subst ha; subst hb; simp; omega
      simp only [jR, this, cond_false]
  | cons x A =>
    simp only [List.length_cons] at hl
    have hw : IntKind.i64.wrap (a + 1) = ((P.length + [x].length : Nat) : Int) := by rw [wr (by omega) (by omega)]; subst ha; simp
    obtain ⟨D, d1, d2, d3⟩ := PW C (b := b) ha A [x] T (fun z hz => by rw [List.mem_singleton] at hz; subst hz; exact hA z (by simp)) (fun z hz => hA z (by simp [hz])) (by simp) (by rw [hb]; simp only [List.length_cons, List.length_nil]; congr 1; omega) (by simp only [List.length_append, List.length_cons, List.length_nil]; omega)
    refine ⟨D, by simpa using d1, d2, ?_⟩
    rw [hw, show P ++ x :: A ++ T = P ++ [x] ++ (A ++ T) by simp, d3]
    rfl

end ins
theorem IU {cmp : α → α → Option Int} {a b n : Int} : ∀ (X Y Q Z R : List α) (i : Nat), X.length = Y.length → a + i = (Q.length : Nat) → b + i = ((Q.length + X.length + Z.length : Nat) : Int) → n = ((i + X.length : Nat) : Int) → 0 ≤ a → 0 ≤ b → (Q ++ X ++ Z ++ Y ++ R).length ≤ 1099511627776 →
    lp (fun s : List α × Int => pX cmp a b n s.1 s.2) (Q ++ X ++ Z ++ Y ++ R, ((i : Nat) : Int)) = some (Q ++ Y ++ Z ++ X ++ R)
  | [], Y, Q, Z, R, i, hxy, ha, hb, hn, _, _, hl => by
    have : Y = [] := List.length_eq_zero_iff.1 hxy.symm
    subst this
    refine cQ ?_
    have : decide (((i : Nat) : Int) < n) = false := by subst hn; simp
    simp only [pX, this, cond_false]
  | x :: X, [], Q, Z, R, i, hxy, _, _, _, _, _, _ => by simp at hxy
  | x :: X, y :: Y, Q, Z, R, i, hxy, ha, hb, hn, ha0, hb0, hl => by
    simp only [List.length_append, List.length_cons] at hl hb hn hxy
    have hlt : decide (((i : Nat) : Int) < n) = true := by subst hn; simp; omega
    have wa : IntKind.i64.wrap (a + i) = ((Q.length : Nat) : Int) := by rw [wr (by omega) (by omega)]; exact ha
    have wb : IntKind.i64.wrap (b + i) = ((Q.length + 1 + (X ++ Z).length : Nat) : Int) := by rw [wr (by omega) (by omega), hb]; simp only [List.length_append]; congr 1; omega
    have wi : IntKind.i64.wrap (((i : Nat) : Int) + 1) = ((i + 1 : Nat) : Int) := by rw [wr (by omega) (by omega)]; omega
    have hd : Q ++ x :: X ++ Z ++ y :: Y ++ R = Q ++ x :: ((X ++ Z) ++ y :: (Y ++ R)) := by simp
    have b1 : 0 ≤ ((Q.length : Nat) : Int) ∧ ((Q.length : Nat) : Int) < ((List.length (Q ++ x :: X ++ Z ++ y :: Y ++ R) : Nat) : Int) := ⟨by omega, by simp only [List.length_append, List.length_cons]; omega⟩
    have b2 : 0 ≤ ((Q.length + 1 + (X ++ Z).length : Nat) : Int) ∧ ((Q.length + 1 + (X ++ Z).length : Nat) : Int) < ((List.length (Q ++ x :: X ++ Z ++ y :: Y ++ R) : Nat) : Int) := ⟨by omega, by simp only [List.length_append, List.length_cons]; omega⟩
    have g1 : (Q ++ x :: X ++ Z ++ y :: Y ++ R).getD Q.length default = x := qN hd rfl
    have g2 : (Q ++ x :: X ++ Z ++ y :: Y ++ R).getD (Q.length + 1 + (X ++ Z).length) default = y := qN (Q := Q ++ x :: X ++ Z) (R := Y ++ R) (by simp) (by simp; omega)
    have hbod : (fun s : List α × Int => pX cmp a b n s.1 s.2) (Q ++ x :: X ++ Z ++ y :: Y ++ R, ((i : Nat) : Int)) = some (.inl ((Q ++ [y]) ++ X ++ (Z ++ [x]) ++ Y ++ R, ((i + 1 : Nat) : Int))) := by
      show pX cmp a b n _ _ = _
      simp only [pX, hlt, cond_true, wa, wb, wi, bF b1, bF b2, Int.toNat_natCast, g1, g2]
      rw [UW hd rfl rfl]
      simp
    rw [eT hbod, IU X Y (Q ++ [y]) (Z ++ [x]) R (i + 1) (by omega) (by simp; omega) (by simp; omega) (by rw [hn]; congr 1; omega) ha0 hb0 (by simp only [List.length_append, List.length_cons, List.length_nil]; omega)]
    simp

theorem OJ {cmp : α → α → Option Int} {a b n : Int} {X Y Q Z R d : List α} (hd : d = Q ++ X ++ Z ++ Y ++ R) (hxy : X.length = Y.length) (ha : a = (Q.length : Nat)) (hb : b = ((Q.length + X.length + Z.length : Nat) : Int)) (hn : n = (X.length : Nat)) (hl : d.length ≤ 1099511627776) :
    uT d a b n cmp = some (Q ++ Y ++ Z ++ X ++ R) := by
  subst hd
  unfold uT EL
  have := IU (cmp := cmp) (a := a) (b := b) (n := n) X Y Q Z R 0 hxy (by omega) (by omega) (by omega) (by omega) (by omega) hl
  simp only [Int.natCast_zero] at this
  rw [this]; rfl

theorem aAX {cmp : α → α → Option Int} {m : Int} : ∀ (n : Nat) (X Y Q R : List α), X.length + Y.length ≤ n → X ≠ [] → Y ≠ [] → m = ((Q.length + X.length : Nat) : Int) → (Q ++ X ++ Y ++ R).length ≤ 1099511627776 →
    (lp (fun s : List α × Int × Int => mN cmp m s.1 s.2.1 s.2.2) (Q ++ X ++ Y ++ R, ((X.length : Nat) : Int), ((Y.length : Nat) : Int))).bind (fun rr => DW cmp rr.1 m rr.2) = some (Q ++ Y ++ X ++ R) := by
  intro n
  induction n with
  | zero => intro X Y Q R hn hX; exact absurd (List.length_eq_zero_iff.1 (by omega)) hX
  | succ n ih =>
    intro X Y Q R hn hX hY hm hl
    have hX' : 0 < X.length := List.length_pos_iff.2 hX
    have hY' : 0 < Y.length := List.length_pos_iff.2 hY
    simp only [List.length_append] at hl
    rcases Nat.lt_trichotomy X.length Y.length with h | h | h
    · -- the second is longer
      obtain ⟨Y1, Y2, rfl, hY2⟩ : ∃ Y1 Y2, Y = Y1 ++ Y2 ∧ Y2.length = X.length := ⟨Y.take (Y.length - X.length), Y.drop (Y.length - X.length), (List.take_append_drop _ _).symm, by rw [List.length_drop]; omega⟩
      simp only [List.length_append] at hn hl h
      have hne : decide (((X.length : Nat) : Int) = (((Y1 ++ Y2).length : Nat) : Int)) = false := by simp only [List.length_append]; simp; omega
      have hlt : decide ((((Y1 ++ Y2).length : Nat) : Int) < ((X.length : Nat) : Int)) = false := by simp only [List.length_append]; simp; omega
      have e1 : IntKind.i64.wrap (m - ((X.length : Nat) : Int)) = ((Q.length : Nat) : Int) := by rw [wr (by omega) (by omega)]; omega
      have e0 : IntKind.i64.wrap (m + (((Y1 ++ Y2).length : Nat) : Int)) = m + (((Y1 ++ Y2).length : Nat) : Int) := by simp only [List.length_append]; exact wr (by omega) (by omega)
      have e2 : IntKind.i64.wrap (m + (((Y1 ++ Y2).length : Nat) : Int) - ((X.length : Nat) : Int)) = ((Q.length + X.length + Y1.length : Nat) : Int) := by simp only [List.length_append]; rw [wr (by omega) (by omega)]; omega
      have e3 : IntKind.i64.wrap ((((Y1 ++ Y2).length : Nat) : Int) - ((X.length : Nat) : Int)) = ((Y1.length : Nat) : Int) := by simp only [List.length_append]; rw [wr (by omega) (by omega)]; omega
      have hbod : (fun s : List α × Int × Int => mN cmp m s.1 s.2.1 s.2.2) (Q ++ X ++ (Y1 ++ Y2) ++ R, ((X.length : Nat) : Int), (((Y1 ++ Y2).length : Nat) : Int)) = some (.inl (Q ++ Y2 ++ Y1 ++ (X ++ R), ((Y2.length : Nat) : Int), ((Y1.length : Nat) : Int))) := by
        show mN cmp m _ _ _ = _
        simp only [mN, hne, Bool.not_false, cond_true, hlt, cond_false, e0, e1, e2, e3]
        rw [OJ (X := X) (Y := Y2) (Q := Q) (Z := Y1) (R := R) (by simp) hY2.symm rfl rfl rfl (by simp only [List.length_append]; omega)]
        simp [hY2]
      rw [eT hbod, ih Y2 Y1 Q (X ++ R) (by omega) (fun h => by rw [h] at hY2; simp at hY2; omega) (fun h' => by rw [h'] at h; simp at h; omega) (by rw [hm]; congr 1; omega) (by simp only [List.length_append]; omega)]
      simp
    · -- alike
      have hne : decide (((X.length : Nat) : Int) = ((Y.length : Nat) : Int)) = true := by simp; omega
      rw [cQ (r := (Q ++ X ++ Y ++ R, ((X.length : Nat) : Int))) (by show mN cmp m _ _ _ = _; simp only [mN, hne, Bool.not_true, cond_false])]
      simp only [Option.bind_some, DW]
      have e1 : IntKind.i64.wrap (m - ((X.length : Nat) : Int)) = ((Q.length : Nat) : Int) := by rw [wr (by omega) (by omega)]; omega
      rw [e1, OJ (X := X) (Y := Y) (Q := Q) (Z := []) (R := R) (by simp) h rfl (by rw [hm]; simp) rfl (by simp only [List.length_append]; omega)]
      simp
    · -- the first is longer
      obtain ⟨X1, X2, rfl, hX1⟩ : ∃ X1 X2, X = X1 ++ X2 ∧ X1.length = Y.length := ⟨X.take Y.length, X.drop Y.length, (List.take_append_drop _ _).symm, by rw [List.length_take]; omega⟩
      simp only [List.length_append] at hn hl h hm
      have hne : decide ((((X1 ++ X2).length : Nat) : Int) = ((Y.length : Nat) : Int)) = false := by simp only [List.length_append]; simp; omega
      have hlt : decide (((Y.length : Nat) : Int) < (((X1 ++ X2).length : Nat) : Int)) = true := by simp only [List.length_append]; simp; omega
      have e1 : IntKind.i64.wrap (m - (((X1 ++ X2).length : Nat) : Int)) = ((Q.length : Nat) : Int) := by simp only [List.length_append]; rw [wr (by omega) (by omega)]; omega
      have e3 : IntKind.i64.wrap ((((X1 ++ X2).length : Nat) : Int) - ((Y.length : Nat) : Int)) = ((X2.length : Nat) : Int) := by simp only [List.length_append]; rw [wr (by omega) (by omega)]; omega
      have hbod : (fun s : List α × Int × Int => mN cmp m s.1 s.2.1 s.2.2) (Q ++ (X1 ++ X2) ++ Y ++ R, (((X1 ++ X2).length : Nat) : Int), ((Y.length : Nat) : Int)) = some (.inl ((Q ++ Y) ++ X2 ++ X1 ++ R, ((X2.length : Nat) : Int), ((X1.length : Nat) : Int))) := by
        show mN cmp m _ _ _ = _
        simp only [mN, hne, Bool.not_false, cond_true, hlt, e1, e3]
        rw [OJ (X := X1) (Y := Y) (Q := Q) (Z := X2) (R := R) (by simp) hX1 rfl (by rw [hm]; congr 1; omega) (by rw [hX1]) (by simp only [List.length_append]; omega)]
        simp [hX1]
      rw [eT hbod, ih X2 X1 (Q ++ Y) R (by omega) (fun h' => by rw [h'] at h; simp at h; omega) (fun h => by rw [h] at hX1; simp at hX1; omega) (by rw [hm]; simp only [List.length_append]; congr 1; omega) (by simp only [List.length_append]; omega)]
      simp

theorem aCQ {cmp : α → α → Option Int} {a m b : Int} {X Y Q R d : List α} (hd : d = Q ++ X ++ Y ++ R) (hX : X ≠ []) (hY : Y ≠ []) (ha : a = (Q.length : Nat)) (hm : m = ((Q.length + X.length : Nat) : Int)) (hb : b = ((Q.length + X.length + Y.length : Nat) : Int)) (hl : d.length ≤ 1099511627776) :
    CW d a m b cmp = some (Q ++ Y ++ X ++ R) := by
  subst hd
  unfold CW KE
  have hl' := hl
  simp only [List.length_append] at hl'
  rw [show IntKind.i64.wrap (m - a) = ((X.length : Nat) : Int) by rw [wr (by omega) (by omega)]; omega, show IntKind.i64.wrap (b - m) = ((Y.length : Nat) : Int) by rw [wr (by omega) (by omega)]; omega]
  exact aAX _ X Y Q R (Nat.le_refl _) hX hY hm hl

end Go.Abs
namespace Go.Abs
open Go
variable {α : Type} [Inhabited α]
theorem half {s : Nat} (h : s ≤ 4398046511104) : IntKind.i64.wrap (Int.fdiv (IntKind.u64.wrap (IntKind.i64.wrap (s : Int))) (2 ^ (min (Int.toNat (1 : Int)) 64))) = ((s / 2 : Nat) : Int) := by
  rw [wr (n := (s : Int)) (by omega) (by omega)]
  have hu : IntKind.u64.wrap (s : Int) = (s : Int) := by
    simp only [IntKind.wrap, IntKind.bits, IntKind.signed]
    simp
    omega
  have hp : (2 : Int) ^ (min (Int.toNat (1 : Int)) 64) = 2 := by decide
  rw [hu, hp, Int.fdiv_eq_ediv_of_nonneg _ (by omega), wr (by omega) (by omega)]
  omega

theorem GP {P B S d : List α} {n k : Nat} (hd : d = P ++ B ++ S) (hn : n = P.length + k) (hk : k < B.length) : d.getD n default = B.getD k default := by
  subst hd; subst hn
  simp only [List.getD_eq_getElem?_getD]
  rw [List.append_assoc, List.getElem?_append_right (by omega), List.getElem?_append_left (by omega)]
  congr 2; omega

theorem GH {l : List α} {t : Nat} {y : α} (h : y ∈ l.take t) : ∃ i, i < t ∧ i < l.length ∧ y = l.getD i default := by
  obtain ⟨i, hi, rfl⟩ := List.mem_iff_getElem.1 h
  rw [List.length_take] at hi
  refine ⟨i, by omega, by omega, ?_⟩
  rw [List.getElem_take, List.getD_eq_getElem?_getD, List.getElem?_eq_getElem (by omega)]; rfl

theorem uM {l : List α} {t : Nat} {y : α} (h : y ∈ l.drop t) : ∃ i, t ≤ i ∧ i < l.length ∧ y = l.getD i default := by
  obtain ⟨i, hi, rfl⟩ := List.mem_iff_getElem.1 h
  rw [List.length_drop] at hi
  refine ⟨t + i, by omega, by omega, ?_⟩
  rw [List.getElem_drop, List.getD_eq_getElem?_getD, List.getElem?_eq_getElem (by omega)]; rfl

theorem dF {l : List α} {i : Nat} (h : i < l.length) : l.getD i default ∈ l := by
  rw [List.getD_eq_getElem?_getD, List.getElem?_eq_getElem h]; exact List.getElem_mem h

section sym
variable {ok : α → Prop} {le : α → α → Prop} {cmp : α → α → Option Int}
theorem Cmp.refl {β : Type} {ok : β → Prop} {le : β → β → Prop} {cmp : β → β → Option Int} (C : Cmp ok le cmp) {x : β} (h : ok x) : le x x := by rcases C.total x x h h with h | h <;> exact h

theorem tU (C : Cmp ok le cmp) {l : List α} (ho : Oks ok l) (hs : Srt le l) {i j : Nat} (hij : i ≤ j) (hj : j < l.length) : le (l.getD i default) (l.getD j default) := by
  rcases Nat.lt_or_eq_of_le hij with h | h
  · have := List.pairwise_iff_getElem.1 hs i j (by omega) hj h
    simpa [List.getD_eq_getElem?_getD, List.getElem?_eq_getElem hj, List.getElem?_eq_getElem (show i < l.length by omega)] using this
  · subst h; exact C.refl (ho _ (dF hj))

theorem SS {β : Type} {le : β → β → Prop} {l : List β} (h : Srt le l) (t : Nat) : Srt le (l.take t) := List.Pairwise.sublist (List.take_sublist t l) h

theorem SW {β : Type} {le : β → β → Prop} {l : List β} (h : Srt le l) (t : Nat) : Srt le (l.drop t) := List.Pairwise.sublist (List.drop_sublist t l) h

theorem SK {β : Type} {body : (List β × Int × Int) → Option ((List β × Int × Int) ⊕ (List β × Int))} {d : List β} {f : Nat → Prop} {lo hi : Nat}
    (hb : ∀ i j : Nat, lo ≤ i → i < j → j ≤ hi → ∃ t : Bool, (t = true ↔ f ((i + j) / 2)) ∧ body (d, (i : Int), (j : Int)) = some (.inl (if t then (d, (((i + j) / 2 + 1 : Nat) : Int), (j : Int)) else (d, (i : Int), (((i + j) / 2 : Nat) : Int)))))
    (he : ∀ i : Nat, body (d, (i : Int), (i : Int)) = some (.inr (d, (i : Int)))) :
    ∀ (n i j : Nat), j - i ≤ n → lo ≤ i → i ≤ j → j ≤ hi → (i = lo ∨ f (i - 1)) → (j = hi ∨ ¬ f j) → ∃ s, lo ≤ s ∧ s ≤ hi ∧ (s = lo ∨ f (s - 1)) ∧ (s = hi ∨ ¬ f s) ∧ lp body (d, (i : Int), (j : Int)) = some (d, ((s : Nat) : Int)) := by
  intro n
  induction n with
  | zero =>
    intro i j hn h1 h2 h3 h4 h5
    have : i = j := by omega
    subst this
    exact ⟨i, h1, h3, h4, h5, cQ (he i)⟩
  | succ n ih =>
    intro i j hn h1 h2 h3 h4 h5
    by_cases hij : i = j
    · subst hij; exact ⟨i, h1, h3, h4, h5, cQ (he i)⟩
    · obtain ⟨t, ht, hbt⟩ := hb i j h1 (by omega) h3
      cases t
      · obtain ⟨s, r1, r2, r3, r4, r5⟩ := ih i ((i + j) / 2) (by omega) h1 (by omega) (by omega) h4 (Or.inr (fun h => by have := ht.2 h; cases this))
        refine ⟨s, r1, r2, r3, r4, ?_⟩
        rw [eT hbt]; exact r5
      · obtain ⟨s, r1, r2, r3, r4, r5⟩ := ih ((i + j) / 2 + 1) j (by omega) (by omega) (by omega) h3 (Or.inr (by simpa using ht.1 rfl)) h5
        refine ⟨s, r1, r2, r3, r4, ?_⟩
        rw [eT hbt]; exact r5

def NJ (le : α → α → Prop) (P A B S r : List α) : Prop := ∃ D, D.Perm (A ++ B) ∧ Srt le D ∧ r = P ++ D ++ S

theorem aBY {cmp : α → α → Option Int} {rec : List α → Int → Int → Int → Option (List α)} {e : Int} {x : α} : ∀ (B Q R : List α) (k : Nat), k = Q.length → e = ((Q.length + B.length + 1 : Nat) : Int) → (Q ++ x :: B ++ R).length ≤ 1099511627776 →
    lp (fun s : List α × Int => nX cmp rec e s.1 s.2) (Q ++ x :: B ++ R, (k : Int)) = some (Q ++ B ++ x :: R)
  | [], Q, R, k, hk, he, hl => by
    simp only [List.length_append, List.length_cons, List.length_nil] at hl he
    refine cQ ?_
    show nX cmp rec e _ _ = _
    have : decide ((k : Int) < IntKind.i64.wrap (e - 1)) = false := by rw [wr (by omega) (by omega)]; simp; omega
    simp only [nX, this, cond_false]
    simp
  | y :: B, Q, R, k, hk, he, hl => by
    simp only [List.length_append, List.length_cons] at hl he
    have h1 : decide ((k : Int) < IntKind.i64.wrap (e - 1)) = true := by rw [wr (by omega) (by omega)]; simp; omega
    have hw : IntKind.i64.wrap ((k : Int) + 1) = ((k + 1 : Nat) : Int) := by rw [wr (by omega) (by omega)]; omega
    have b1 : 0 ≤ (k : Int) ∧ (k : Int) < ((List.length (Q ++ x :: y :: B ++ R) : Nat) : Int) := ⟨by omega, by simp only [List.length_append, List.length_cons]; omega⟩
    have b2 : 0 ≤ ((k + 1 : Nat) : Int) ∧ ((k + 1 : Nat) : Int) < ((List.length (Q ++ x :: y :: B ++ R) : Nat) : Int) := ⟨by omega, by simp only [List.length_append, List.length_cons]; omega⟩
    have hd : Q ++ x :: y :: B ++ R = Q ++ x :: ([] ++ y :: (B ++ R)) := by simp
    have g1 : (Q ++ x :: y :: B ++ R).getD k default = x := qN hd hk
    have g2 : (Q ++ x :: y :: B ++ R).getD (k + 1) default = y := qN (Q := Q ++ [x]) (R := B ++ R) (by simp) (by simp; omega)
    have hb : (fun s : List α × Int => nX cmp rec e s.1 s.2) (Q ++ x :: y :: B ++ R, (k : Int)) = some (.inl ((Q ++ [y]) ++ x :: B ++ R, ((k + 1 : Nat) : Int))) := by
      show nX cmp rec e _ _ = _
      simp only [nX, h1, cond_true, hw, bF b1, bF b2, Int.toNat_natCast, g1, g2]
      rw [UW (M := []) hd hk (by simp; omega)]
      simp
    rw [eT hb, aBY B (Q ++ [y]) R (k + 1) (by simp; omega) (by rw [he]; simp only [List.length_append, List.length_cons, List.length_nil]; congr 1; omega) (by simp only [List.length_append, List.length_cons, List.length_nil]; omega)]
    simp

theorem aCt {cmp : α → α → Option Int} {rec : List α → Int → Int → Int → Option (List α)} {e : Int} {x : α} {Q : List α} (he : e = (Q.length : Nat)) : ∀ (n : Nat) (A R : List α) (k : Nat), A.length = n → k = Q.length + A.length → (Q ++ A ++ x :: R).length ≤ 1099511627776 →
    lp (fun s : List α × Int => oF cmp rec e s.1 s.2) (Q ++ A ++ x :: R, (k : Int)) = some (Q ++ x :: A ++ R) := by
  intro n
  induction n with
  | zero =>
    intro A R k hn hk hl
    have hA : A = [] := List.length_eq_zero_iff.1 hn
    subst hA
    refine cQ ?_
    show oF cmp rec e _ _ = _
    have : decide (e < (k : Int)) = false := by simp only [List.length_nil] at hk; simp; omega
    simp only [oF, this, cond_false]
    simp
  | succ n ih =>
    intro A R k hn hk hl
    obtain ⟨A', y, rfl⟩ : ∃ A' y, A = A' ++ [y] := by
      rcases List.eq_nil_or_concat A with h | ⟨A', y, h⟩
      · rw [h] at hn; simp at hn
      · exact ⟨A', y, by simpa using h⟩
    simp only [List.length_append, List.length_cons, List.length_nil] at hl hk hn
    have h1 : decide (e < (k : Int)) = true := by simp; omega
    have hw : IntKind.i64.wrap ((k : Int) - 1) = ((Q.length + A'.length : Nat) : Int) := by rw [wr (by omega) (by omega)]; omega
    have b1 : 0 ≤ (k : Int) ∧ (k : Int) < ((List.length (Q ++ (A' ++ [y]) ++ x :: R) : Nat) : Int) := ⟨by omega, by simp only [List.length_append, List.length_cons, List.length_nil]; omega⟩
    have b2 : 0 ≤ ((Q.length + A'.length : Nat) : Int) ∧ ((Q.length + A'.length : Nat) : Int) < ((List.length (Q ++ (A' ++ [y]) ++ x :: R) : Nat) : Int) := ⟨by omega, by simp only [List.length_append, List.length_cons, List.length_nil]; omega⟩
    have g1 : (Q ++ (A' ++ [y]) ++ x :: R).getD k default = x := qN (Q := Q ++ (A' ++ [y])) rfl (by simp; omega)
    have g2 : (Q ++ (A' ++ [y]) ++ x :: R).getD (Q.length + A'.length) default = y := qN (Q := Q ++ A') (R := x :: R) (by simp) (by simp)
    have hb : (fun s : List α × Int => oF cmp rec e s.1 s.2) (Q ++ (A' ++ [y]) ++ x :: R, (k : Int)) = some (.inl (Q ++ A' ++ x :: (y :: R), ((Q.length + A'.length : Nat) : Int))) := by
      show oF cmp rec e _ _ = _
      simp only [oF, h1, cond_true, hw, bF b1, bF b2, Int.toNat_natCast, g1, g2]
      rw [EN (Q := Q ++ (A' ++ [y])) (x := x) (R := R) rfl (by simp; omega), EN (Q := Q ++ A') (x := y) (R := y :: R) (by simp) (by simp)]
    rw [eT hb, ih A' (y :: R) (Q.length + A'.length) (by omega) rfl (by simp only [List.length_append, List.length_cons]; omega)]
    simp

def XG (cmp : α → α → Option Int) (le : α → α → Prop) (P A B S : List α) (d : List α) (a m b : Int) : Prop :=
  (∃ r, NJ le P A B S r ∧ ∀ rec, eD cmp rec d a m b = some r) ∨
  (∃ A1 A2 B1 B2, A = A1 ++ A2 ∧ B = B1 ++ B2 ∧ 0 < A1.length + B1.length ∧ 0 < A2.length + B2.length ∧ (∀ x ∈ A1 ++ B1, ∀ y ∈ A2 ++ B2, le x y) ∧
    ∀ rec, eD cmp rec d a m b = (cond (decide (A1 ≠ [] ∧ B1 ≠ [])) (rec (P ++ A1 ++ B1 ++ A2 ++ B2 ++ S) a (a + (A1.length : Nat)) (a + ((A1.length + B1.length : Nat) : Int))) (some (P ++ A1 ++ B1 ++ A2 ++ B2 ++ S))).bind fun x =>
      cond (decide (A2 ≠ [] ∧ B2 ≠ [])) (rec x (a + ((A1.length + B1.length : Nat) : Int)) (a + ((A1.length + B1.length + A2.length : Nat) : Int)) b) (some x))

theorem aAg (C : Cmp ok le cmp) {P B S : List α} {x : α} {a m b : Int} (hx : ok x) (hB : Oks ok B) (hs : Srt le B) (ha : a = (P.length : Nat)) (hm : m = ((P.length + 1 : Nat) : Int)) (hb : b = ((P.length + 1 + B.length : Nat) : Int)) (hl : (P ++ x :: B ++ S).length ≤ 1099511627776) :
    ∃ r, NJ le P [x] B S r ∧ ∀ rec, eD cmp rec (P ++ x :: B ++ S) a m b = some r := by
  have hl' := hl
  simp only [List.length_append, List.length_cons] at hl'
  have hgx : (P ++ x :: B ++ S).getD P.length default = x := qN (Q := P) (R := B ++ S) (by simp) rfl
  have hgb : ∀ k, k < B.length → (P ++ x :: B ++ S).getD (P.length + 1 + k) default = B.getD k default := fun k hk => GP (P := P ++ [x]) (B := B) (S := S) (by simp) (by simp) hk
  have hbin : ∀ rec, ∃ s : Nat, P.length + 1 ≤ s ∧ s ≤ P.length + 1 + B.length ∧ (s = P.length + 1 ∨ ¬ le x (B.getD (s - 1 - (P.length + 1)) default)) ∧ (s = P.length + 1 + B.length ∨ ¬ ¬ le x (B.getD (s - (P.length + 1)) default)) ∧
      lp (fun s : List α × Int × Int => oC cmp rec a s.1 s.2.1 s.2.2) (P ++ x :: B ++ S, m, b) = some (P ++ x :: B ++ S, ((s : Nat) : Int)) := by
    intro rec
    rw [hm, hb]
    refine SK (lo := P.length + 1) (hi := P.length + 1 + B.length) (f := fun k => ¬ le x (B.getD (k - (P.length + 1)) default)) ?_ ?_ _ _ _ (Nat.le_refl _) (Nat.le_refl _) (by omega) (Nat.le_refl _) (Or.inl rfl) (Or.inl rfl)
    · intro i j h1 h2 h3
      have hh : (i + j) / 2 - (P.length + 1) < B.length := by omega
      have e1 : (P ++ x :: B ++ S).getD ((i + j) / 2) default = B.getD ((i + j) / 2 - (P.length + 1)) default := by
        have := hgb ((i + j) / 2 - (P.length + 1)) hh
        rwa [show P.length + 1 + ((i + j) / 2 - (P.length + 1)) = (i + j) / 2 by omega] at this
      obtain ⟨v, hc, hv⟩ := C.ans _ x (hB _ (dF hh)) hx
      refine ⟨decide (v < 0), by simpa using hv, ?_⟩
      show oC cmp rec a _ _ _ = _
      have hlt : decide ((i : Int) < (j : Int)) = true := by simpa using h2
      have hadd : ((i : Int) + (j : Int)) = ((i + j : Nat) : Int) := by omega
      have w1 : IntKind.i64.wrap ((((i + j) / 2 : Nat) : Int) + 1) = (((i + j) / 2 + 1 : Nat) : Int) := by rw [wr (by omega) (by omega)]; omega
      simp only [oC, hlt, cond_true, hadd, half (s := i + j) (by omega), Int.toNat_natCast, ha, e1, hgx, hc, Option.bind_some, w1]
      rw [bF (by omega), bF ⟨by omega, by simp only [List.length_append, List.length_cons]; omega⟩, bF ⟨by omega, by simp only [List.length_append, List.length_cons]; omega⟩]
      by_cases hneg : v < 0 <;> simp [hneg]
    · intro i
      show oC cmp rec a _ _ _ = _
      have hlt : decide ((i : Int) < (i : Int)) = false := by simp
      simp only [oC, hlt, cond_false]
  obtain ⟨s, s1, s2, s3, s4, s5⟩ := hbin (fun _ _ _ _ => none)
  obtain ⟨t, rfl⟩ : ∃ t, s = P.length + 1 + t := ⟨s - (P.length + 1), by omega⟩
  have ht : t ≤ B.length := by omega
  have hx1 : ∀ i, i < t → le (B.getD i default) x := fun i hi => by
    have h3 : ¬ le x (B.getD (t - 1) default) := by
      rcases s3 with h | h
      · omega
      · rwa [show P.length + 1 + t - 1 - (P.length + 1) = t - 1 by omega] at h
    have h4 : le (B.getD (t - 1) default) x := by
      rcases C.total x _ hx (hB _ (dF (show t - 1 < B.length by omega))) with h | h
      · exact absurd h h3
      · exact h
    exact C.trans _ _ _ (hB _ (dF (by omega))) (hB _ (dF (by omega))) hx (tU C hB hs (show i ≤ t - 1 by omega) (by omega)) h4
  have hx2 : ∀ j, t ≤ j → j < B.length → le x (B.getD j default) := fun j hj hj' => by
    have h3 : le x (B.getD t default) := by
      rcases s4 with h | h
      · omega
      · rw [show P.length + 1 + t - (P.length + 1) = t by omega] at h
        exact Classical.not_not.1 h
    exact C.trans _ _ _ hx (hB _ (dF (by omega))) (hB _ (dF hj')) h3 (tU C hB hs hj hj')
  have hBs : B.take t ++ B.drop t = B := List.take_append_drop t B
  have hlt : (B.take t).length = t := by rw [List.length_take]; omega
  refine ⟨P ++ (B.take t ++ x :: B.drop t) ++ S, ⟨_, ?_, ?_, rfl⟩, fun rec => ?_⟩
  · have := List.perm_middle (a := x) (l₁ := B.take t) (l₂ := B.drop t)
    rw [hBs] at this; exact this
  · simp only [Srt, List.pairwise_append, List.pairwise_cons]
    refine ⟨SS hs t, ⟨fun z hz => ?_, SW hs t⟩, fun y hy z hz => ?_⟩
    · obtain ⟨j, j1, j2, rfl⟩ := uM hz
      exact hx2 j j1 j2
    · obtain ⟨i, i1, i2, rfl⟩ := GH hy
      rcases List.mem_cons.1 hz with rfl | hz
      · exact hx1 i i1
      · obtain ⟨j, j1, j2, rfl⟩ := uM hz
        exact tU C hB hs (by omega) j2
  · have h1 : decide (IntKind.i64.wrap (m - a) = 1) = true := by rw [wr (by omega) (by omega)]; simp; omega
    have s5' : lp (fun s : List α × Int × Int => oC cmp rec a s.1 s.2.1 s.2.2) (P ++ x :: B ++ S, m, b) = some (P ++ x :: B ++ S, ((P.length + 1 + t : Nat) : Int)) := s5
    simp only [eD, h1, cond_true, EK, s5', Option.bind_some, EG, EA]
    have hmv := aBY (cmp := cmp) (rec := rec) (e := ((P.length + 1 + t : Nat) : Int)) (x := x) (B.take t) P (B.drop t ++ S) P.length rfl (by rw [hlt]; congr 1; omega) (by simp only [List.length_append, List.length_cons, List.length_drop]; omega)
    have hd : P ++ x :: B.take t ++ (B.drop t ++ S) = P ++ x :: B ++ S := by
      have : P ++ x :: B.take t ++ (B.drop t ++ S) = P ++ x :: (B.take t ++ B.drop t) ++ S := by simp only [List.append_assoc, List.cons_append]
      rw [this, hBs]
    rw [hd] at hmv
    rw [ha, hmv]
    simp [EP]

theorem aBf (C : Cmp ok le cmp) {P A S : List α} {x : α} {a m b : Int} (hx : ok x) (hA : Oks ok A) (hs : Srt le A) (hA1 : A.length ≠ 1) (ha : a = (P.length : Nat)) (hm : m = ((P.length + A.length : Nat) : Int)) (hb : b = ((P.length + A.length + 1 : Nat) : Int)) (hl : (P ++ A ++ x :: S).length ≤ 1099511627776) :
    ∃ r, NJ le P A [x] S r ∧ ∀ rec, eD cmp rec (P ++ A ++ x :: S) a m b = some r := by
  have hl' := hl
  simp only [List.length_append, List.length_cons] at hl'
  have hgx : (P ++ A ++ x :: S).getD (P.length + A.length) default = x := qN (Q := P ++ A) (R := S) rfl (by simp)
  have hga : ∀ k, k < A.length → (P ++ A ++ x :: S).getD (P.length + k) default = A.getD k default := fun k hk => GP (P := P) (B := A) (S := x :: S) rfl rfl hk
  have hbin : ∀ rec, ∃ s : Nat, P.length ≤ s ∧ s ≤ P.length + A.length ∧ (s = P.length ∨ le (A.getD (s - 1 - P.length) default) x) ∧ (s = P.length + A.length ∨ ¬ le (A.getD (s - P.length) default) x) ∧
      lp (fun s : List α × Int × Int => nW cmp rec m s.1 s.2.1 s.2.2) (P ++ A ++ x :: S, a, m) = some (P ++ A ++ x :: S, ((s : Nat) : Int)) := by
    intro rec
    rw [ha, hm]
    refine SK (lo := P.length) (hi := P.length + A.length) (f := fun k => le (A.getD (k - P.length) default) x) ?_ ?_ _ _ _ (Nat.le_refl _) (Nat.le_refl _) (by omega) (Nat.le_refl _) (Or.inl rfl) (Or.inl rfl)
    · intro i j h1 h2 h3
      have hh : (i + j) / 2 - P.length < A.length := by omega
      have e1 : (P ++ A ++ x :: S).getD ((i + j) / 2) default = A.getD ((i + j) / 2 - P.length) default := by
        have := hga ((i + j) / 2 - P.length) hh
        rwa [show P.length + ((i + j) / 2 - P.length) = (i + j) / 2 by omega] at this
      obtain ⟨v, hc, hv⟩ := C.ans x _ hx (hA _ (dF hh))
      refine ⟨!decide (v < 0), by simp only [Bool.not_eq_true', decide_eq_false_iff_not, hv, Classical.not_not], ?_⟩
      show nW cmp rec _ _ _ _ = _
      have hlt : decide ((i : Int) < (j : Int)) = true := by simpa using h2
      have hadd : ((i : Int) + (j : Int)) = ((i + j : Nat) : Int) := by omega
      have w1 : IntKind.i64.wrap ((((i + j) / 2 : Nat) : Int) + 1) = (((i + j) / 2 + 1 : Nat) : Int) := by rw [wr (by omega) (by omega)]; omega
      simp only [nW, hlt, cond_true, hadd, half (s := i + j) (by omega), Int.toNat_natCast, e1, hgx, hc, Option.bind_some, w1]
      rw [bF (by omega), bF ⟨by omega, by simp only [List.length_append, List.length_cons]; omega⟩, bF ⟨by omega, by simp only [List.length_append, List.length_cons]; omega⟩]
      by_cases hneg : v < 0 <;> simp [hneg]
    · intro i
      show nW cmp rec _ _ _ _ = _
      have hlt : decide ((i : Int) < (i : Int)) = false := by simp
      simp only [nW, hlt, cond_false]
  obtain ⟨s, s1, s2, s3, s4, s5⟩ := hbin (fun _ _ _ _ => none)
  obtain ⟨t, rfl⟩ : ∃ t, s = P.length + t := ⟨s - P.length, by omega⟩
  have ht : t ≤ A.length := by omega
  have hx1 : ∀ i, i < t → le (A.getD i default) x := fun i hi => by
    have h4 : le (A.getD (t - 1) default) x := by
      rcases s3 with h | h
      · omega
      · rwa [show P.length + t - 1 - P.length = t - 1 by omega] at h
    exact C.trans _ _ _ (hA _ (dF (by omega))) (hA _ (dF (by omega))) hx (tU C hA hs (show i ≤ t - 1 by omega) (by omega)) h4
  have hx2 : ∀ j, t ≤ j → j < A.length → le x (A.getD j default) := fun j hj hj' => by
    have h3 : le x (A.getD t default) := by
      rcases s4 with h | h
      · omega
      · rw [show P.length + t - P.length = t by omega] at h
        rcases C.total x _ hx (hA _ (dF (show t < A.length by omega))) with h' | h'
        · exact h'
        · exact absurd h' h
    exact C.trans _ _ _ hx (hA _ (dF (by omega))) (hA _ (dF hj')) h3 (tU C hA hs hj hj')
  have hAs : A.take t ++ A.drop t = A := List.take_append_drop t A
  have hlt : (A.take t).length = t := by rw [List.length_take]; omega
  refine ⟨P ++ (A.take t ++ x :: A.drop t) ++ S, ⟨_, ?_, ?_, rfl⟩, fun rec => ?_⟩
  · have := List.perm_middle (a := x) (l₁ := A.take t) (l₂ := A.drop t)
    rw [hAs] at this
    exact this.trans (by simpa using (List.perm_append_comm (l₁ := [x]) (l₂ := A)))
  · simp only [Srt, List.pairwise_append, List.pairwise_cons]
    refine ⟨SS hs t, ⟨fun z hz => ?_, SW hs t⟩, fun y hy z hz => ?_⟩
    · obtain ⟨j, j1, j2, rfl⟩ := uM hz
      exact hx2 j j1 j2
    · obtain ⟨i, i1, i2, rfl⟩ := GH hy
      rcases List.mem_cons.1 hz with rfl | hz
      · exact hx1 i i1
      · obtain ⟨j, j1, j2, rfl⟩ := uM hz
        exact tU C hA hs (by omega) j2
  · have h1 : decide (IntKind.i64.wrap (m - a) = 1) = false := by rw [wr (by omega) (by omega)]; simp; omega
    have h2 : decide (IntKind.i64.wrap (b - m) = 1) = true := by rw [wr (by omega) (by omega)]; simp; omega
    have s5' : lp (fun s : List α × Int × Int => nW cmp rec m s.1 s.2.1 s.2.2) (P ++ A ++ x :: S, a, m) = some (P ++ A ++ x :: S, ((P.length + t : Nat) : Int)) := s5
    simp only [eD, h1, cond_false, BB, h2, cond_true, EY, s5', Option.bind_some, HF, EM]
    have hmv := aCt (cmp := cmp) (rec := rec) (e := ((P.length + t : Nat) : Int)) (x := x) (Q := P ++ A.take t) (by simp [hlt]) (A.drop t).length (A.drop t) S (P.length + A.length) rfl (by simp only [List.length_append, List.length_drop, hlt]; omega) (by simp only [List.length_append, List.length_cons, List.length_drop, hlt]; omega)
    have hd : P ++ A.take t ++ A.drop t ++ x :: S = P ++ A ++ x :: S := by
      have : P ++ A.take t ++ A.drop t ++ x :: S = P ++ (A.take t ++ A.drop t) ++ x :: S := by simp only [List.append_assoc]
      rw [this, hAs]
    rw [hd] at hmv
    rw [hm, hmv]
    simp [HE]

theorem aCE (C : Cmp ok le cmp) {P A B S : List α} {a m b : Int} (hA : Oks ok A) (hB : Oks ok B) (hsA : Srt le A) (hsB : Srt le B) (hA2 : 2 ≤ A.length) (hB2 : 2 ≤ B.length)
    (ha : a = (P.length : Nat)) (hm : m = ((P.length + A.length : Nat) : Int)) (hb : b = ((P.length + A.length + B.length : Nat) : Int)) (hl : (P ++ A ++ B ++ S).length ≤ 1099511627776) :
    XG cmp le P A B S (P ++ A ++ B ++ S) a m b := by
  right
  have hl' := hl
  simp only [List.length_append] at hl'
  -- the middle
  obtain ⟨mid, hmid⟩ : ∃ mid : Nat, mid = (P.length + (P.length + A.length + B.length)) / 2 := ⟨_, rfl⟩
  have hga : ∀ k, P.length ≤ k → k < P.length + A.length → (P ++ A ++ B ++ S).getD k default = A.getD (k - P.length) default := fun k h1 h2 => GP (P := P) (B := A) (S := B ++ S) (by simp) (by omega) (by omega)
  have hgb : ∀ k, P.length + A.length ≤ k → k < P.length + A.length + B.length → (P ++ A ++ B ++ S).getD k default = B.getD (k - (P.length + A.length)) default := fun k h1 h2 => GP (P := P ++ A) (B := B) (S := S) (by simp) (by simp; omega) (by omega)
  -- the search
  obtain ⟨lo, hi, hlo, hhi, hbnd, hlohi, hrange, hinit⟩ : ∃ lo hi : Nat, (lo = P.length ∨ lo + (P.length + A.length + B.length) = mid + (P.length + A.length)) ∧ (hi = P.length + A.length ∨ hi = mid) ∧ (P.length ≤ lo ∧ mid + (P.length + A.length) ≤ lo + (P.length + A.length + B.length) ∧ hi ≤ P.length + A.length ∧ hi ≤ mid) ∧ lo ≤ hi ∧
      (∀ c, lo ≤ c → c < hi → P.length ≤ c ∧ c < P.length + A.length ∧ P.length + A.length ≤ mid + (P.length + A.length) - 1 - c ∧ mid + (P.length + A.length) - 1 - c < P.length + A.length + B.length) ∧
      (∀ rec, xI cmp rec (P ++ A ++ B ++ S) a m b = wX cmp rec (P ++ A ++ B ++ S) a m b (mid : Int) ((mid + (P.length + A.length) : Nat) : Int) (lo : Int) (hi : Int)) := by
    have hw0 : IntKind.i64.wrap (Int.fdiv (IntKind.u64.wrap (IntKind.i64.wrap (a + b))) (2 ^ (min (Int.toNat (1 : Int)) 64))) = ((mid : Nat) : Int) := by
      rw [show a + b = ((P.length + (P.length + A.length + B.length) : Nat) : Int) by omega, half (by omega), hmid]
    have hw1 : IntKind.i64.wrap ((mid : Int) + m) = ((mid + (P.length + A.length) : Nat) : Int) := by rw [wr (by omega) (by omega)]; omega
    by_cases hc : mid < P.length + A.length
    · refine ⟨mid + (P.length + A.length) - (P.length + A.length + B.length), mid, Or.inr (by omega), Or.inr (by omega), by omega, by omega, fun c h1 h2 => ⟨by omega, by omega, by omega, by omega⟩, fun rec => ?_⟩
      have hlt : decide ((mid : Int) < m) = true := by simp; omega
      simp only [xI, hw0, hlt, cond_true, hw1]
      rw [bF (by omega), show IntKind.i64.wrap (((mid + (P.length + A.length) : Nat) : Int) - b) = ((mid + (P.length + A.length) - (P.length + A.length + B.length) : Nat) : Int) by rw [wr (by omega) (by omega)]; omega]
    · refine ⟨P.length, P.length + A.length, Or.inl rfl, Or.inl rfl, by omega, by omega, fun c h1 h2 => ⟨by omega, by omega, by omega, by omega⟩, fun rec => ?_⟩
      have hlt : decide ((mid : Int) < m) = false := by simp; omega
      simp only [xI, hw0, hlt, cond_false, hw1]
      rw [bF (by omega)]
      rw [ha, hm]
  have hbin : ∀ rec, ∃ s : Nat, lo ≤ s ∧ s ≤ hi ∧ (s = lo ∨ le (A.getD (s - 1 - P.length) default) (B.getD (mid + (P.length + A.length) - 1 - (s - 1) - (P.length + A.length)) default)) ∧ (s = hi ∨ ¬ le (A.getD (s - P.length) default) (B.getD (mid + (P.length + A.length) - 1 - s - (P.length + A.length)) default)) ∧
      lp (fun s : List α × Int × Int => oW cmp rec a m b (mid : Int) ((mid + (P.length + A.length) : Nat) : Int) ((mid + (P.length + A.length) - 1 : Nat) : Int) s.1 s.2.1 s.2.2) (P ++ A ++ B ++ S, (lo : Int), (hi : Int)) = some (P ++ A ++ B ++ S, ((s : Nat) : Int)) := by
    intro rec
    refine SK (lo := lo) (hi := hi) (f := fun k => le (A.getD (k - P.length) default) (B.getD (mid + (P.length + A.length) - 1 - k - (P.length + A.length)) default)) ?_ ?_ _ _ _ (Nat.le_refl _) (Nat.le_refl _) hlohi (Nat.le_refl _) (Or.inl rfl) (Or.inl rfl)
    · intro i j h1 h2 h3
      obtain ⟨r1, r2, r3, r4⟩ := hrange ((i + j) / 2) (by omega) (by omega)
      have e1 := hga ((i + j) / 2) r1 r2
      have e2 := hgb (mid + (P.length + A.length) - 1 - (i + j) / 2) r3 r4
      obtain ⟨v, hc, hv⟩ := C.ans (B.getD (mid + (P.length + A.length) - 1 - (i + j) / 2 - (P.length + A.length)) default) (A.getD ((i + j) / 2 - P.length) default) (hB _ (dF (by omega))) (hA _ (dF (by omega)))
      refine ⟨!decide (v < 0), by simp only [Bool.not_eq_true', decide_eq_false_iff_not, hv, Classical.not_not], ?_⟩
      show oW cmp rec _ _ _ _ _ _ _ _ _ = _
      have hlt : decide ((i : Int) < (j : Int)) = true := by simpa using h2
      have hadd : ((i : Int) + (j : Int)) = ((i + j : Nat) : Int) := by omega
      have w1 : IntKind.i64.wrap ((((i + j) / 2 : Nat) : Int) + 1) = (((i + j) / 2 + 1 : Nat) : Int) := by rw [wr (by omega) (by omega)]; omega
      have w2 : IntKind.i64.wrap (((mid + (P.length + A.length) - 1 : Nat) : Int) - (((i + j) / 2 : Nat) : Int)) = ((mid + (P.length + A.length) - 1 - (i + j) / 2 : Nat) : Int) := by rw [wr (by omega) (by omega)]; omega
      simp only [oW, hlt, cond_true, hadd, half (s := i + j) (by omega), w1, w2, Int.toNat_natCast, e1, e2, hc, Option.bind_some]
      rw [bF (by omega), bF ⟨by omega, by simp only [List.length_append]; omega⟩, bF ⟨by omega, by simp only [List.length_append]; omega⟩]
      by_cases hneg : v < 0 <;> simp [hneg]
    · intro i
      show oW cmp rec _ _ _ _ _ _ _ _ _ = _
      have hlt : decide ((i : Int) < (i : Int)) = false := by simp
      simp only [oW, hlt, cond_false]
  obtain ⟨s, s1, s2, s3, s4, s5⟩ := hbin (fun _ _ _ _ => none)
  have hsA0 : P.length ≤ s ∧ s ≤ P.length + A.length := by
    omega
  have hsB0 : P.length + A.length ≤ mid + (P.length + A.length) - s ∧ mid + (P.length + A.length) - s ≤ P.length + A.length + B.length := by
    omega
  obtain ⟨t, rfl⟩ : ∃ t, s = P.length + t := ⟨s - P.length, by omega⟩
  obtain ⟨u, hu⟩ : ∃ u, mid + (P.length + A.length) - (P.length + t) = P.length + A.length + u := ⟨mid + (P.length + A.length) - (P.length + t) - (P.length + A.length), by omega⟩
  have htA : t ≤ A.length := by omega
  have huB : u ≤ B.length := by omega
  have hmtu : mid = P.length + t + u := by omega
  have hAs : A.take t ++ A.drop t = A := List.take_append_drop t A
  have hBs : B.take u ++ B.drop u = B := List.take_append_drop u B
  have hlA1 : (A.take t).length = t := by rw [List.length_take]; omega
  have hlA2 : (A.drop t).length = A.length - t := by rw [List.length_drop]
  have hlB1 : (B.take u).length = u := by rw [List.length_take]; omega
  have hlB2 : (B.drop u).length = B.length - u := by rw [List.length_drop]
  refine ⟨A.take t, A.drop t, B.take u, B.drop u, hAs.symm, hBs.symm, by rw [hlA1, hlB1]; omega, by rw [hlA2, hlB2]; omega, ?_, fun rec => ?_⟩
  · -- who stands ahead of whom
    intro x hx y hy
    rcases List.mem_append.1 hx with hx | hx
    · obtain ⟨i, i1, i2, rfl⟩ := GH hx
      rcases List.mem_append.1 hy with hy | hy
      · obtain ⟨j, j1, j2, rfl⟩ := uM hy
        exact tU C hA hsA (by omega) j2
      · obtain ⟨j, j1, j2, rfl⟩ := uM hy
        have h3 : le (A.getD (t - 1) default) (B.getD u default) := by
          rcases s3 with h | h
          · rcases hlo with h' | h' <;> omega
          · rwa [show P.length + t - 1 - P.length = t - 1 by omega, show mid + (P.length + A.length) - 1 - (P.length + t - 1) - (P.length + A.length) = u by omega] at h
        exact C.trans _ _ _ (hA _ (dF i2)) (hA _ (dF (by omega))) (hB _ (dF j2)) (tU C hA hsA (show i ≤ t - 1 by omega) (by omega))
          (C.trans _ _ _ (hA _ (dF (by omega))) (hB _ (dF (by omega))) (hB _ (dF j2)) h3 (tU C hB hsB j1 j2))
    · obtain ⟨i, i1, i2, rfl⟩ := GH hx
      rcases List.mem_append.1 hy with hy | hy
      · obtain ⟨j, j1, j2, rfl⟩ := uM hy
        have h3 : le (B.getD (u - 1) default) (A.getD t default) := by
          have h0 : ¬ le (A.getD t default) (B.getD (u - 1) default) := by
            rcases s4 with h | h
            · rcases hhi with h' | h' <;> omega
            · rwa [show P.length + t - P.length = t by omega, show mid + (P.length + A.length) - 1 - (P.length + t) - (P.length + A.length) = u - 1 by omega] at h
          rcases C.total _ _ (hA _ (dF (show t < A.length by omega))) (hB _ (dF (show u - 1 < B.length by omega))) with h | h
          · exact absurd h h0
          · exact h
        exact C.trans _ _ _ (hB _ (dF i2)) (hB _ (dF (by omega))) (hA _ (dF j2)) (tU C hB hsB (show i ≤ u - 1 by omega) (by omega))
          (C.trans _ _ _ (hB _ (dF (by omega))) (hA _ (dF (by omega))) (hA _ (dF j2)) h3 (tU C hA hsA j1 j2))
      · obtain ⟨j, j1, j2, rfl⟩ := uM hy
        exact tU C hB hsB (by omega) j2
  · have h1 : decide (IntKind.i64.wrap (m - a) = 1) = false := by rw [wr (by omega) (by omega)]; simp; omega
    have h2 : decide (IntKind.i64.wrap (b - m) = 1) = false := by rw [wr (by omega) (by omega)]; simp; omega
    have s5' : lp (fun s : List α × Int × Int => oW cmp rec a m b (mid : Int) ((mid + (P.length + A.length) : Nat) : Int) ((mid + (P.length + A.length) - 1 : Nat) : Int) s.1 s.2.1 s.2.2) (P ++ A ++ B ++ S, (lo : Int), (hi : Int)) = some (P ++ A ++ B ++ S, ((P.length + t : Nat) : Int)) := s5
    have hp : IntKind.i64.wrap (((mid + (P.length + A.length) : Nat) : Int) - 1) = ((mid + (P.length + A.length) - 1 : Nat) : Int) := by rw [wr (by omega) (by omega)]; omega
    have he : IntKind.i64.wrap (((mid + (P.length + A.length) : Nat) : Int) - ((P.length + t : Nat) : Int)) = ((P.length + A.length + u : Nat) : Int) := by rw [wr (by omega) (by omega)]; omega
    simp only [eD, h1, cond_false, BB, h2, hinit rec, wX, GW, hp, s5', Option.bind_some, HA, he]
    -- the turn
    have hd : P ++ A ++ B ++ S = (P ++ A.take t) ++ A.drop t ++ B.take u ++ (B.drop u ++ S) := by
      have : (P ++ A.take t) ++ A.drop t ++ B.take u ++ (B.drop u ++ S) = P ++ (A.take t ++ A.drop t) ++ (B.take u ++ B.drop u) ++ S := by simp only [List.append_assoc]
      rw [this, hAs, hBs]
    have hrot : cond (decide (((P.length + t : Nat) : Int) < m) && decide (m < ((P.length + A.length + u : Nat) : Int)))
        ((CW (P ++ A ++ B ++ S) ((P.length + t : Nat) : Int) m ((P.length + A.length + u : Nat) : Int) cmp).bind fun x10 => qU cmp rec x10 a b (mid : Int) ((P.length + t : Nat) : Int) ((P.length + A.length + u : Nat) : Int))
        (qU cmp rec (P ++ A ++ B ++ S) a b (mid : Int) ((P.length + t : Nat) : Int) ((P.length + A.length + u : Nat) : Int))
        = qU cmp rec (P ++ A.take t ++ B.take u ++ A.drop t ++ B.drop u ++ S) a b (mid : Int) ((P.length + t : Nat) : Int) ((P.length + A.length + u : Nat) : Int) := by
      by_cases hc : t < A.length ∧ 0 < u
      · have : (decide (((P.length + t : Nat) : Int) < m) && decide (m < ((P.length + A.length + u : Nat) : Int))) = true := by simp; omega
        rw [this, cond_true, aCQ (Q := P ++ A.take t) (X := A.drop t) (Y := B.take u) (R := B.drop u ++ S) hd (fun h => by rw [h] at hlA2; simp at hlA2; omega) (fun h => by rw [h] at hlB1; simp at hlB1; omega)
          (by simp only [List.length_append, hlA1]) (by simp only [List.length_append, hlA1, hlA2]; rw [hm]; congr 1; omega) (by simp only [List.length_append, hlA1, hlA2, hlB1]; congr 1; omega) hl]
        simp
      · have : (decide (((P.length + t : Nat) : Int) < m) && decide (m < ((P.length + A.length + u : Nat) : Int))) = false := by
          rw [Bool.eq_false_iff]; intro h; simp at h; apply hc; omega
        rw [this, cond_false, hd]
        congr 1
        by_cases h0 : t < A.length
        · have : u = 0 := by omega
          subst this; simp
        · have hz : A.drop t = [] := List.drop_eq_nil_of_le (by omega)
          simp only [hz, List.append_nil, List.append_assoc, List.nil_append]
    rw [hrot]
    have hne1 : decide (A.take t ≠ [] ∧ B.take u ≠ []) = (decide (a < ((P.length + t : Nat) : Int)) && decide (((P.length + t : Nat) : Int) < (mid : Int))) := by
      have q1 : A.take t ≠ [] ↔ 0 < t := by rw [← List.length_pos_iff, hlA1]
      have q2 : B.take u ≠ [] ↔ 0 < u := by rw [← List.length_pos_iff, hlB1]
      rw [Bool.eq_iff_iff]; simp [q1, q2]; omega
    have hne2 : decide (A.drop t ≠ [] ∧ B.drop u ≠ []) = (decide ((mid : Int) < ((P.length + A.length + u : Nat) : Int)) && decide (((P.length + A.length + u : Nat) : Int) < b)) := by
      have q1 : A.drop t ≠ [] ↔ t < A.length := by rw [← List.length_pos_iff, hlA2]; omega
      have q2 : B.drop u ≠ [] ↔ u < B.length := by rw [← List.length_pos_iff, hlB2]; omega
      rw [Bool.eq_iff_iff]; simp [q1, q2]; omega
    rw [hne1, hne2, hlA1, hlB1, hlA2]
    have f1 : a + ((t : Nat) : Int) = ((P.length + t : Nat) : Int) := by omega
    have f2 : a + ((t + u : Nat) : Int) = (mid : Int) := by omega
    have f3 : a + ((t + u + (A.length - t) : Nat) : Int) = ((P.length + A.length + u : Nat) : Int) := by omega
    rw [f1, f2, f3]
    simp only [qU, AV]
    cases (decide (a < ((P.length + t : Nat) : Int)) && decide (((P.length + t : Nat) : Int) < (mid : Int))) <;> simp only [cond_true, cond_false, Option.bind_some, Option.bind_fun_some]

end sym
end Go.Abs
namespace Go.Abs
open Go
variable {α : Type} [Inhabited α] {ok : α → Prop} {le : α → α → Prop} {cmp : α → α → Option Int}
theorem aCe (C : Cmp ok le cmp) {P A B S : List α} {a m b : Int} (hA : A ≠ []) (hB : B ≠ []) (oA : Oks ok A) (oB : Oks ok B) (sA : Srt le A) (sB : Srt le B)
    (ha : a = (P.length : Nat)) (hm : m = ((P.length + A.length : Nat) : Int)) (hb : b = ((P.length + A.length + B.length : Nat) : Int)) (hl : (P ++ A ++ B ++ S).length ≤ 1099511627776) : XG cmp le P A B S (P ++ A ++ B ++ S) a m b := by
  by_cases h1 : A.length = 1
  · obtain ⟨x, rfl⟩ := List.length_eq_one_iff.1 h1
    left
    obtain ⟨r, h, h'⟩ := aAg C (P := P) (S := S) (x := x) (oA x (by simp)) oB sB ha (by simpa using hm) (by simpa using hb) (by simpa using hl)
    exact ⟨r, h, fun rec => by have := h' rec; simpa using this⟩
  · by_cases h2 : B.length = 1
    · obtain ⟨x, rfl⟩ := List.length_eq_one_iff.1 h2
      left
      obtain ⟨r, h, h'⟩ := aBf C (P := P) (S := S) (x := x) (oB x (by simp)) oA sA h1 ha hm (by simpa using hb) (by simpa using hl)
      exact ⟨r, h, fun rec => by have := h' rec; simpa using this⟩
    · have p1 := List.length_pos_iff.2 hA
      have p2 := List.length_pos_iff.2 hB
      exact aCE C oA oB sA sB (by omega) (by omega) ha hm hb hl

theorem LF (C : Cmp ok le cmp) : ∀ (k : Nat) (P A B S : List α) (a m b : Int), A ≠ [] → B ≠ [] → Oks ok A → Oks ok B → Srt le A → Srt le B →
    a = (P.length : Nat) → m = ((P.length + A.length : Nat) : Int) → b = ((P.length + A.length + B.length : Nat) : Int) → (P ++ A ++ B ++ S).length ≤ 1099511627776 →
    (∀ r, eG cmp k (P ++ A ++ B ++ S) a m b = some r → NJ le P A B S r) ∧ (A.length + B.length ≤ k → ∃ r, eG cmp k (P ++ A ++ B ++ S) a m b = some r)
  | 0, P, A, B, S, a, m, b, hA, hB, oA, oB, sA, sB, ha, hm, hb, hl => by
    refine ⟨fun r h => by simp [eG] at h, fun h => ?_⟩
    exact absurd (List.length_eq_zero_iff.1 (by omega)) hA
  | k + 1, P, A, B, S, a, m, b, hA, hB, oA, oB, sA, sB, ha, hm, hb, hl => by
    have part : ∀ (P' A' B' S' : List α) (a' m' b' : Int), Oks ok A' → Oks ok B' → Srt le A' → Srt le B' → a' = (P'.length : Nat) → m' = ((P'.length + A'.length : Nat) : Int) → b' = ((P'.length + A'.length + B'.length : Nat) : Int) → (P' ++ A' ++ B' ++ S').length ≤ 1099511627776 →
        (∀ r, cond (decide (A' ≠ [] ∧ B' ≠ [])) (eG cmp k (P' ++ A' ++ B' ++ S') a' m' b') (some (P' ++ A' ++ B' ++ S')) = some r → NJ le P' A' B' S' r) ∧
        (A'.length + B'.length ≤ k → ∃ r, cond (decide (A' ≠ [] ∧ B' ≠ [])) (eG cmp k (P' ++ A' ++ B' ++ S') a' m' b') (some (P' ++ A' ++ B' ++ S')) = some r) := by
      intro P' A' B' S' a' m' b' oA' oB' sA' sB' ha' hm' hb' hl'
      by_cases h : A' ≠ [] ∧ B' ≠ []
      · rw [decide_eq_true h, cond_true]
        exact LF C k P' A' B' S' a' m' b' h.1 h.2 oA' oB' sA' sB' ha' hm' hb' hl'
      · rw [decide_eq_false h, cond_false]
        refine ⟨fun r hr => ?_, fun _ => ⟨_, rfl⟩⟩
        cases hr
        refine ⟨A' ++ B', List.Perm.refl _, ?_, by simp⟩
        by_cases h1 : A' = []
        · subst h1; simpa using sB'
        · have h2 : B' = [] := Classical.byContradiction fun h2 => h ⟨h1, h2⟩
          subst h2; simpa using sA'
    rcases aCe C hA hB oA oB sA sB ha hm hb hl with ⟨r, hr, hs⟩ | ⟨A1, A2, B1, B2, rfl, rfl, p1, p2, hcross, hs⟩
    · have e : eG cmp (k + 1) (P ++ A ++ B ++ S) a m b = some r := hs _
      exact ⟨fun r' h => by rw [e] at h; cases h; exact hr, fun _ => ⟨r, e⟩⟩
    · have e := hs (eG cmp k)
      rw [show eD cmp (eG cmp k) = eG cmp (k + 1) from rfl] at e
      have q1 := part P A1 B1 (A2 ++ B2 ++ S) a (a + (A1.length : Nat)) (a + ((A1.length + B1.length : Nat) : Int)) (fun x hx => oA x (by simp [hx])) (fun x hx => oB x (by simp [hx]))
        (List.pairwise_append.1 sA).1 (List.pairwise_append.1 sB).1 ha (by omega) (by omega) (by simp only [List.length_append] at hl ⊢; omega)
      have hd1 : P ++ A1 ++ B1 ++ A2 ++ B2 ++ S = P ++ A1 ++ B1 ++ (A2 ++ B2 ++ S) := by simp
      rw [hd1] at e
      have q2 : ∀ D1 : List α, D1.Perm (A1 ++ B1) → _ := fun D1 hD1 => part (P ++ D1) A2 B2 S (a + ((A1.length + B1.length : Nat) : Int)) (a + ((A1.length + B1.length + A2.length : Nat) : Int)) b (fun x hx => oA x (by simp [hx])) (fun x hx => oB x (by simp [hx]))
        (List.pairwise_append.1 sA).2.1 (List.pairwise_append.1 sB).2.1 (by have := hD1.length_eq; simp only [List.length_append] at this ⊢; omega) (by have := hD1.length_eq; simp only [List.length_append] at this ⊢; omega)
        (by have := hD1.length_eq; rw [hb]; simp only [List.length_append] at this ⊢; congr 1; omega) (by have := hD1.length_eq; simp only [List.length_append] at hl this ⊢; omega)
      refine ⟨fun r h => ?_, fun hk => ?_⟩
      · rw [e] at h
        obtain ⟨x, h1, h2⟩ := Option.bind_eq_some_iff.1 h
        obtain ⟨D1, d1, d2, rfl⟩ := q1.1 x h1
        have h2' : cond (decide (A2 ≠ [] ∧ B2 ≠ [])) (eG cmp k (P ++ D1 ++ A2 ++ B2 ++ S) (a + ((A1.length + B1.length : Nat) : Int)) (a + ((A1.length + B1.length + A2.length : Nat) : Int)) b) (some (P ++ D1 ++ A2 ++ B2 ++ S)) = some r := by
          have : P ++ D1 ++ (A2 ++ B2 ++ S) = P ++ D1 ++ A2 ++ B2 ++ S := by simp
          rw [this] at h2; exact h2
        obtain ⟨D2, f1, f2, rfl⟩ := (q2 D1 d1).1 r h2'
        refine ⟨D1 ++ D2, ?_, ?_, by simp⟩
        · refine (d1.append f1).trans ?_
          have : (B1 ++ (A2 ++ B2)).Perm (A2 ++ (B1 ++ B2)) := by
            have := (List.perm_append_comm (l₁ := B1) (l₂ := A2)).append_right B2
            simpa using this
          have := this.append_left A1
          simpa using this
        · rw [Srt, List.pairwise_append]
          exact ⟨d2, f2, fun x hx y hy => hcross x (d1.mem_iff.1 hx) y (f1.mem_iff.1 hy)⟩
      · simp only [List.length_append] at hk
        obtain ⟨x, hx⟩ := q1.2 (by omega)
        obtain ⟨D1, d1, d2, rfl⟩ := q1.1 x hx
        obtain ⟨r, hr⟩ := (q2 D1 d1).2 (by omega)
        refine ⟨r, ?_⟩
        rw [e, hx]
        have : P ++ D1 ++ (A2 ++ B2 ++ S) = P ++ D1 ++ A2 ++ B2 ++ S := by simp
        rw [this]; exact hr

theorem ZT {β : Type} {g : Nat → Option β} (h : ∃ k r, g k = some r) : ∃ r, LP g = some r := by
  unfold LP
  rw [dif_pos h]
  exact Classical.choose_spec h

theorem aAq (C : Cmp ok le cmp) {P A B S d : List α} {a m b : Int} (hd : d = P ++ A ++ B ++ S) (hA : A ≠ []) (hB : B ≠ []) (oA : Oks ok A) (oB : Oks ok B) (sA : Srt le A) (sB : Srt le B)
    (ha : a = (P.length : Nat)) (hm : m = ((P.length + A.length : Nat) : Int)) (hb : b = ((P.length + A.length + B.length : Nat) : Int)) (hl : d.length ≤ 1099511627776) :
    ∃ D, D.Perm (A ++ B) ∧ Srt le D ∧ pP d a m b cmp = some (P ++ D ++ S) := by
  subst hd
  unfold pP
  obtain ⟨r, hr⟩ := (LF C (A.length + B.length) P A B S a m b hA hB oA oB sA sB ha hm hb hl).2 (Nat.le_refl _)
  obtain ⟨r', hr'⟩ := ZT (g := fun k => eG cmp k (P ++ A ++ B ++ S) a m b) ⟨_, r, hr⟩
  obtain ⟨k, hk⟩ := IL hr'
  obtain ⟨D, d1, d2, rfl⟩ := (LF C k P A B S a m b hA hB oA oB sA sB ha hm hb hl).1 r' hk
  exact ⟨D, d1, d2, hr'⟩

inductive nS {β : Type} (le : β → β → Prop) (n : Nat) : List β → Prop
  | last {l : List β} : l.length ≤ n → Srt le l → nS le n l
  | cons {x l : List β} : x.length = n → Srt le x → nS le n l → nS le n (x ++ l)

theorem nS.srt {β : Type} {le : β → β → Prop} {n : Nat} {l : List β} (h : nS le n l) (hl : l.length ≤ n) : Srt le l := by
  cases h with
  | last _ h => exact h
  | cons hx hs hr =>
    rename_i x r
    have : r = [] := List.length_eq_zero_iff.1 (by simp only [List.length_append] at hl; omega)
    subst this; simpa using hs

theorem nS.split {β : Type} {le : β → β → Prop} {n : Nat} {l : List β} (h : nS le n l) (hl : n < l.length) : ∃ x r, l = x ++ r ∧ x.length = n ∧ Srt le x ∧ nS le n r := by
  cases h with
  | last h' _ => omega
  | cons hx hs hr => exact ⟨_, _, rfl, hx, hs, hr⟩

theorem nS.aDc {β : Type} {le : β → β → Prop} {n : Nat} {l : List β} (hn : 0 < n) (h : nS le n l) (hl : 2 * n ≤ l.length) : ∃ x y r, l = x ++ y ++ r ∧ x.length = n ∧ y.length = n ∧ Srt le x ∧ Srt le y ∧ nS le n r := by
  obtain ⟨x, r, rfl, h1, h2, h3⟩ := h.split (by omega)
  simp only [List.length_append] at hl
  by_cases he : r.length = n
  · exact ⟨x, r, [], by simp, h1, he, h2, h3.srt (by omega), nS.last (by simp) List.Pairwise.nil⟩
  · obtain ⟨y, r', rfl, e1, e2, e3⟩ := h3.split (by omega)
    exact ⟨x, y, r', by simp, h1, e1, h2, e2, e3⟩

theorem Oks.perm {β : Type} {ok : β → Prop} {l l' : List β} (h : Oks ok l) (hp : l'.Perm l) : Oks ok l' := fun x hx => h x (hp.mem_iff.1 hx)

theorem aCR (C : Cmp ok le cmp) {n1 : Int} : ∀ (n : Nat) (F G : List α), G.length ≤ n → Oks ok G → n1 = ((F.length + G.length : Nat) : Int) → (F ++ G).length ≤ 1099511627776 →
    ∃ G1 G2, (G1 ++ G2).Perm G ∧ G2.length < 20 ∧ (∀ H, H.length ≤ 20 → Srt le H → nS le 20 (G1 ++ H)) ∧
      lp (fun s : List α × Int × Int => mO cmp n1 20 s.1 s.2.1 s.2.2) (F ++ G, ((F.length : Nat) : Int), ((F.length + 20 : Nat) : Int)) = some (F ++ G1 ++ G2, ((F.length + G1.length : Nat) : Int)) := by
  intro n
  induction n with
  | zero =>
    intro F G hn hG h1 hl
    refine ⟨[], G, by simp, by omega, fun H h2 h3 => nS.last (by simpa using h2) (by simpa using h3), ?_⟩
    rw [cQ (r := (F ++ G, ((F.length : Nat) : Int)))]
    · simp
    · have : decide (((F.length + 20 : Nat) : Int) ≤ n1) = false := by subst h1; simp; omega
      simp only [mO, this, cond_false]
  | succ n ih =>
    intro F G hn hG h1 hl
    by_cases hg : G.length < 20
    · refine ⟨[], G, by simp, by omega, fun H h2 h3 => nS.last (by simpa using h2) (by simpa using h3), ?_⟩
      rw [cQ (r := (F ++ G, ((F.length : Nat) : Int)))]
      · simp
      · have : decide (((F.length + 20 : Nat) : Int) ≤ n1) = false := by subst h1; simp; omega
        simp only [mO, this, cond_false]
    · obtain ⟨X, R, rfl, hX⟩ : ∃ X R, G = X ++ R ∧ X.length = 20 := ⟨G.take 20, G.drop 20, (List.take_append_drop _ _).symm, by rw [List.length_take]; omega⟩
      simp only [List.length_append] at hn hl h1 hg
      obtain ⟨D, d1, d2, d3⟩ := aAU C (P := F) (A := X) (T := R) (a := ((F.length : Nat) : Int)) (b := ((F.length + 20 : Nat) : Int)) rfl (by rw [hX]) (fun x hx => hG x (by simp [hx])) (by simp only [List.length_append]; omega)
      have hD : D.length = 20 := by rw [d1.length_eq, hX]
      obtain ⟨G1, G2, g1, g2, g3, g4⟩ := ih (F ++ D) R (by omega) (fun x hx => hG x (by simp [hx])) (by rw [h1]; simp only [List.length_append]; congr 1; omega) (by simp only [List.length_append]; omega)
      refine ⟨D ++ G1, G2, ?_, g2, fun H h2 h3 => ?_, ?_⟩
      · have := d1.append g1
        simpa using this
      · rw [List.append_assoc]; exact nS.cons hD d2 (g3 H h2 h3)
      · have hb : (fun s : List α × Int × Int => mO cmp n1 20 s.1 s.2.1 s.2.2) (F ++ (X ++ R), ((F.length : Nat) : Int), ((F.length + 20 : Nat) : Int)) = some (.inl (F ++ D ++ R, (((F ++ D).length : Nat) : Int), (((F ++ D).length + 20 : Nat) : Int))) := by
          show mO cmp n1 20 _ _ _ = _
          have : decide (((F.length + 20 : Nat) : Int) ≤ n1) = true := by subst h1; simp; omega
          simp only [mO, this, cond_true]
          rw [show F ++ (X ++ R) = F ++ X ++ R by simp, d3]
          simp only [Option.bind_some, List.length_append, hD]
          rw [wr (by omega) (by omega)]
          congr 1
        rw [eT hb, g4]
        simp only [List.length_append, List.append_assoc]
        congr 2
        congr 1; omega

theorem aCV (C : Cmp ok le cmp) {n1 : Int} {bs : Nat} (hbs : 0 < bs) (hbs' : bs ≤ 1099511627776) : ∀ (n : Nat) (F G : List α), G.length ≤ n → Oks ok G → nS le bs G → n1 = ((F.length + G.length : Nat) : Int) → (F ++ G).length ≤ 1099511627776 →
    ∃ G1 G2, (G1 ++ G2).Perm G ∧ G2.length < 2 * bs ∧ nS le bs G2 ∧ (∀ H, H.length ≤ 2 * bs → Srt le H → nS le (2 * bs) (G1 ++ H)) ∧
      lp (fun s : List α × Int × Int => mQ cmp n1 (bs : Int) s.1 s.2.1 s.2.2) (F ++ G, ((F.length : Nat) : Int), ((F.length + 2 * bs : Nat) : Int)) = some (F ++ G1 ++ G2, ((F.length + G1.length : Nat) : Int)) := by
  have stop : ∀ (F G : List α), nS le bs G → G.length < 2 * bs → n1 = ((F.length + G.length : Nat) : Int) → ∃ G1 G2, (G1 ++ G2).Perm G ∧ G2.length < 2 * bs ∧ nS le bs G2 ∧ (∀ H, H.length ≤ 2 * bs → Srt le H → nS le (2 * bs) (G1 ++ H)) ∧
      lp (fun s : List α × Int × Int => mQ cmp n1 (bs : Int) s.1 s.2.1 s.2.2) (F ++ G, ((F.length : Nat) : Int), ((F.length + 2 * bs : Nat) : Int)) = some (F ++ G1 ++ G2, ((F.length + G1.length : Nat) : Int)) := by
    intro F G hG hg h1
    refine ⟨[], G, by simp, hg, hG, fun H h2 h3 => nS.last (by simpa using h2) (by simpa using h3), ?_⟩
    rw [cQ (r := (F ++ G, ((F.length : Nat) : Int)))]
    · simp
    · have : decide (((F.length + 2 * bs : Nat) : Int) ≤ n1) = false := by subst h1; simp; omega
      show mQ cmp n1 _ _ _ _ = _
      simp only [mQ, this, cond_false]
  intro n
  induction n with
  | zero => intro F G hn _ hB h1 _; exact stop F G hB (by omega) h1
  | succ n ih =>
    intro F G hn hG hB h1 hl
    by_cases hg : G.length < 2 * bs
    · exact stop F G hB hg h1
    · obtain ⟨x, y, R, rfl, x1, y1, sx, sy, hR⟩ := hB.aDc hbs (by omega)
      simp only [List.length_append] at hn hl h1 hg
      obtain ⟨D, d1, d2, d3⟩ := aAq C (P := F) (A := x) (B := y) (S := R) (d := F ++ (x ++ y ++ R)) (a := ((F.length : Nat) : Int)) (m := ((F.length + bs : Nat) : Int)) (b := ((F.length + 2 * bs : Nat) : Int)) (by simp) (fun h => by rw [h] at x1; simp at x1; omega) (fun h => by rw [h] at y1; simp at y1; omega)
        (fun z hz => hG z (by simp [hz])) (fun z hz => hG z (by simp [hz])) sx sy rfl (by rw [x1]) (by rw [x1, y1]; congr 1; omega) (by simp only [List.length_append]; omega)
      have hD : D.length = 2 * bs := by rw [d1.length_eq]; simp only [List.length_append]; omega
      obtain ⟨G1, G2, g1, g2, g3, g4, g5⟩ := ih (F ++ D) R (by omega) (fun z hz => hG z (by simp [hz])) hR (by rw [h1]; simp only [List.length_append]; congr 1; omega) (by simp only [List.length_append]; omega)
      refine ⟨D ++ G1, G2, ?_, g2, g3, fun H h2 h3 => ?_, ?_⟩
      · have := d1.append g1
        simpa using this
      · rw [List.append_assoc]; exact nS.cons hD d2 (g4 H h2 h3)
      · have hb : (fun s : List α × Int × Int => mQ cmp n1 (bs : Int) s.1 s.2.1 s.2.2) (F ++ (x ++ y ++ R), ((F.length : Nat) : Int), ((F.length + 2 * bs : Nat) : Int)) = some (.inl (F ++ D ++ R, (((F ++ D).length : Nat) : Int), (((F ++ D).length + 2 * bs : Nat) : Int))) := by
          show mQ cmp n1 _ _ _ _ = _
          have : decide (((F.length + 2 * bs : Nat) : Int) ≤ n1) = true := by subst h1; simp; omega
          have w1 : IntKind.i64.wrap (((F.length : Nat) : Int) + (bs : Int)) = ((F.length + bs : Nat) : Int) := by rw [wr (by omega) (by omega)]; omega
          have w2 : IntKind.i64.wrap (2 * (bs : Int)) = 2 * (bs : Int) := wr (by omega) (by omega)
          have w3 : IntKind.i64.wrap (((F.length + 2 * bs : Nat) : Int) + 2 * (bs : Int)) = ((F.length + 2 * bs + 2 * bs : Nat) : Int) := by rw [wr (by omega) (by omega)]; omega
          simp only [mQ, this, cond_true, w1, w2, w3, d3, Option.bind_some, List.length_append, hD]
        rw [eT hb, g5]
        simp only [List.length_append, List.append_assoc]
        congr 2
        congr 1; omega

end Go.Abs
