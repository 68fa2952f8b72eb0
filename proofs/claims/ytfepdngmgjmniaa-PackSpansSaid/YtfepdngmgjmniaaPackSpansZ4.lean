/- What the law PackSpans stands on: the framework, the given functions as plain functions, their walks, and the plain laws; part 4. -/
import Derived.Test.YtfepdngmgjmniaaPackSpansZ3
set_option linter.unusedSimpArgs false
set_option linter.unusedVariables false
namespace Go.Abs
open Go Go.RowKit Go.Proofs
theorem wL (lo0p : Nat) (aA : (List aB)) (n1 : Int) (cmp2_f : Nat) (cmp2_a cmp2_c : List V) (cmp2 : aB → aB → Option Int) (cmp2_h : ∀ a0 a1 r, cmp2 a0 a1 = some r → bW Try.prog cmp2_f (cmp2_a ++ [(aC a0), (aC a1)] ++ cmp2_c) (eI r)) (r : List aB) (h0 : fB aA n1 cmp2 = some r) : kV Try.prog 133 lo0p 2 (List.map aC aA) (List.map aC r) [(.msl 2 lo0p 0 (List.length aA)), (eI n1), (.fn (.func cmp2_f) cmp2_a cmp2_c)] (.tup []) := by
  intro H0 hl0
  refine cH Try.func133 ?_
  have hO := aM.pS hl0
  clear hl0
  obtain ⟨N0, hN0⟩ : ∃ n, n = List.length aA := ⟨_, rfl⟩
  have hN : List.length aA = N0 := hN0.symm
  unfold fB at h0
  refine aX aF 1 [] [(6, (eI (20 : Int)))] ?_
  refine aX aF 3 [] [(7, (eI (0 : Int))), (8, (eI (20 : Int)))] ?_
  refine cU (fun T H => ∃ aA : List aB, ∃ aO : Int, ∃ a7 : Int, Has T [(0, (.msl 2 lo0p 0 (List.length aA))), (1, (eI n1)), (2, (.fn (.func cmp2_f) cmp2_a cmp2_c)), (6, (eI aO)), (7, (eI a7))] ∧ aM ⟨H0, [lo0p], []⟩ H [(lo0p, 2, List.map aC aA)] ∧ List.length aA = N0 ∧ eY cmp2 aA n1 aO a7 = some r) ?_ ?_
  · clear hO hN h0
    rintro T H ⟨aA, aO, a7, hT, hO, hN, h0⟩
    refine bD hT ?_
    clear hT
    unfold eY at h0
    refine aP ?_
    refine aT aF 5 ?_
    refine bO 4 ?_
    obtain ⟨x1, hx2, h0⟩ := aY h0
    refine nY [(lo0p, 2, List.map aC x1)] 0 (mX lo0p aA a7 n1 cmp2_f cmp2_a cmp2_c cmp2 cmp2_h _ hx2) hO ?_
    intro H hO hl3
    simp only [List.length_map] at hl3
    replace hN := hl3.trans hN
    refine cJ ?_
    refine cN (l := [(0, (.msl 2 lo0p 0 (List.length x1))), (1, (eI n1)), (2, (.fn (.func cmp2_f) cmp2_a cmp2_c)), (6, (eI aO))]) ⟨[(0, (.msl 2 lo0p 0 (List.length aA))), (1, (eI n1)), (2, (.fn (.func cmp2_f) cmp2_a cmp2_c)), (6, (eI aO))], by kernel_rfl, rfl, ⟨aZ.eq (by simp [hl3]), aZ.refl _, aZ.refl _, aZ.refl _, trivial⟩⟩ ?_
    refine aH (aG (?_))
    refine bR 2 ?_
    refine cR [(0, (.msl 2 lo0p 0 (List.length x1))), (1, (eI n1)), (2, (.fn (.func cmp2_f) cmp2_a cmp2_c)), (6, (eI aO))] ?_
    refine cK (fun T H => ∃ aA : List aB, ∃ aO : Int, Has T [(0, (.msl 2 lo0p 0 (List.length aA))), (1, (eI n1)), (2, (.fn (.func cmp2_f) cmp2_a cmp2_c)), (6, (eI aO))] ∧ aM ⟨H0, [lo0p], []⟩ H [(lo0p, 2, List.map aC aA)] ∧ List.length aA = N0 ∧ iE cmp2 aA n1 aO = some r) ?_ ⟨x1, aO, .eq (by kernel_rfl), hO, hN, h0⟩
    clear hO hN h0
    rintro T H ⟨aA, aO, hT, hO, hN, h0⟩
    refine bD hT ?_
    clear hT
    unfold iE at h0
    obtain ⟨rr0, hl0, h0⟩ := aY h0
    refine cB (by kernel_rfl) (fun (s : List aB × Int) T H => Has T [(0, (.msl 2 lo0p 0 (List.length s.1))), (1, (eI n1)), (2, (.fn (.func cmp2_f) cmp2_a cmp2_c)), (6, (eI s.2))] ∧ aM ⟨H0, [lo0p], []⟩ H [(lo0p, 2, List.map aC s.1)] ∧ List.length s.1 = N0) hl0 ⟨.eq (by kernel_rfl), hO, hN⟩ ?_
    clear hO hN
    rintro k0 s out1 T H ⟨hT, hO, hN⟩ h1 ho0
    obtain ⟨aA, aO⟩ := s
    replace h1 : iG cmp2 n1 aA aO = some out1 := h1
    try dsimp only at hT
    refine bD hT ?_
    clear hT
    unfold iG at h1
    refine aP ?_
    refine aX aF 3 [] [(30, (aJ (decide (aO < n1))))] ?_
    refine bN h1 (fun h1 => ?_) (fun h1 => ?_)
    · refine bP ?_
      refine bG [(0, (.msl 2 lo0p 0 (List.length aA))), (1, (eI n1)), (2, (.fn (.func cmp2_f) cmp2_a cmp2_c)), (6, (eI aO))] ?_
      refine bR 3 ?_
      refine aX aF 4 [] [(7, (eI (0 : Int))), (8, (eI (wR ((2 : Int) * aO))))] ?_
      refine cU (fun T H => ∃ aA : List aB, ∃ a7 : Int, Has T [(0, (.msl 2 lo0p 0 (List.length aA))), (1, (eI n1)), (2, (.fn (.func cmp2_f) cmp2_a cmp2_c)), (6, (eI aO)), (7, (eI a7))] ∧ aM ⟨H0, [lo0p], []⟩ H [(lo0p, 2, List.map aC aA)] ∧ List.length aA = N0 ∧ eV cmp2 aA n1 aO a7 = some out1) ?_ ?_
      · clear hO hN h1
        rintro T H ⟨aA, a7, hT, hO, hN, h1⟩
        refine bD hT ?_
        clear hT
        unfold eV at h1
        refine cU (fun T H => ∃ aA : List aB, Has T [(0, (.msl 2 lo0p 0 (List.length aA))), (1, (eI n1)), (2, (.fn (.func cmp2_f) cmp2_a cmp2_c)), (6, (eI aO))] ∧ aM ⟨H0, [lo0p], []⟩ H [(lo0p, 2, List.map aC aA)] ∧ List.length aA = N0 ∧ gW cmp2 aA n1 aO = some out1) ?_ ?_
        · clear hO hN h1
          rintro T H ⟨aA, hT, hO, hN, h1⟩
          refine bD hT ?_
          clear hT
          unfold gW at h1
          refine aT aF 3 ?_
          refine bF ?_
          exact aH (aV (aG (⟨rfl, _, (oI h1).symm, .eq (by kernel_rfl), hO, hN⟩)))
        refine aX aF 4 [] [(9, (eI (wR (a7 + aO))))] ?_
        refine aX aF 3 [] [(54, (aJ (decide ((wR (a7 + aO)) < n1))))] ?_
        refine bN h1 (fun h1 => ?_) (fun h1 => ?_)
        · refine aT aF 6 ?_
          refine bO 5 ?_
          obtain ⟨x6, hx7, h1⟩ := aY h1
          refine nY [(lo0p, 2, List.map aC x6)] 0 (oG lo0p aA a7 (wR (a7 + aO)) n1 cmp2_f cmp2_a cmp2_c cmp2 cmp2_h _ hx7) hO ?_
          intro H hO hl8
          simp only [List.length_map] at hl8
          replace hN := hl8.trans hN
          refine cJ ?_
          refine cN (l := [(0, (.msl 2 lo0p 0 (List.length x6))), (1, (eI n1)), (2, (.fn (.func cmp2_f) cmp2_a cmp2_c)), (6, (eI aO))]) ⟨[(0, (.msl 2 lo0p 0 (List.length aA))), (1, (eI n1)), (2, (.fn (.func cmp2_f) cmp2_a cmp2_c)), (6, (eI aO))], by kernel_rfl, rfl, ⟨aZ.eq (by simp [hl8]), aZ.refl _, aZ.refl _, aZ.refl _, trivial⟩⟩ ?_
          exact aH (aG (⟨rfl, _, .eq (by kernel_rfl), hO, hN, h1⟩))
        refine bP ?_
        exact aH (aG (⟨rfl, _, .eq (by kernel_rfl), hO, hN, h1⟩))
      refine bR 4 ?_
      refine cR [(0, (.msl 2 lo0p 0 (List.length aA))), (1, (eI n1)), (2, (.fn (.func cmp2_f) cmp2_a cmp2_c)), (6, (eI aO)), (7, (eI (0 : Int))), (8, (eI (wR ((2 : Int) * aO))))] ?_
      refine cK (fun T H => ∃ aA : List aB, ∃ a7 : Int, ∃ b8 : Int, Has T [(0, (.msl 2 lo0p 0 (List.length aA))), (1, (eI n1)), (2, (.fn (.func cmp2_f) cmp2_a cmp2_c)), (6, (eI aO)), (7, (eI a7)), (8, (eI b8))] ∧ aM ⟨H0, [lo0p], []⟩ H [(lo0p, 2, List.map aC aA)] ∧ List.length aA = N0 ∧ iA cmp2 aA n1 aO a7 b8 = some out1) ?_ ⟨aA, (0 : Int), wR ((2 : Int) * aO), .eq (by kernel_rfl), hO, hN, h1⟩
      clear hO hN h1
      rintro T H ⟨aA, a7, b8, hT, hO, hN, h1⟩
      refine bD hT ?_
      clear hT
      unfold iA at h1
      obtain ⟨rr1, hl1, h1⟩ := aY h1
      refine cB (by kernel_rfl) (fun (s : List aB × Int × Int) T H => Has T [(0, (.msl 2 lo0p 0 (List.length s.1))), (1, (eI n1)), (2, (.fn (.func cmp2_f) cmp2_a cmp2_c)), (6, (eI aO)), (7, (eI s.2.1)), (8, (eI s.2.2))] ∧ aM ⟨H0, [lo0p], []⟩ H [(lo0p, 2, List.map aC s.1)] ∧ List.length s.1 = N0) hl1 ⟨.eq (by kernel_rfl), hO, hN⟩ ?_
      clear hO hN
      rintro k1 s out2 T H ⟨hT, hO, hN⟩ h2 ho1
      obtain ⟨aA, a7, b8⟩ := s
      replace h2 : gR cmp2 n1 aO aA a7 b8 = some out2 := h2
      try dsimp only at hT
      refine bD hT ?_
      clear hT
      unfold gR at h2
      refine aP ?_
      refine aX aF 3 [] [(35, (aJ (decide (b8 ≤ n1))))] ?_
      refine bN h2 (fun h2 => ?_) (fun h2 => ?_)
      · refine bP ?_
        refine bG [(0, (.msl 2 lo0p 0 (List.length aA))), (1, (eI n1)), (2, (.fn (.func cmp2_f) cmp2_a cmp2_c)), (6, (eI aO)), (7, (eI a7)), (8, (eI b8))] ?_
        refine bR 5 ?_
        refine aP ?_
        refine aT aF 8 ?_
        refine bO 7 ?_
        obtain ⟨x10, hx11, h2⟩ := aY h2
        refine nY [(lo0p, 2, List.map aC x10)] 0 (oG lo0p aA a7 (wR (a7 + aO)) b8 cmp2_f cmp2_a cmp2_c cmp2 cmp2_h _ hx11) hO ?_
        intro H hO hl12
        simp only [List.length_map] at hl12
        replace hN := hl12.trans hN
        refine cJ ?_
        refine cN (l := [(0, (.msl 2 lo0p 0 (List.length x10))), (1, (eI n1)), (2, (.fn (.func cmp2_f) cmp2_a cmp2_c)), (6, (eI aO)), (8, (eI b8))]) ⟨[(0, (.msl 2 lo0p 0 (List.length aA))), (1, (eI n1)), (2, (.fn (.func cmp2_f) cmp2_a cmp2_c)), (6, (eI aO)), (8, (eI b8))], by kernel_rfl, rfl, ⟨aZ.eq (by simp [hl12]), aZ.refl _, aZ.refl _, aZ.refl _, aZ.refl _, trivial⟩⟩ ?_
        refine aH (aG (?_))
        refine aX aF 2 [] [(7, (eI b8))] ?_
        refine aT aF 5 ?_
        refine bF ?_
        exact aH (aV (aG (⟨rfl, _, (oI h2).symm, .eq (by kernel_rfl), hO, hN⟩)))
      refine dJ 4 ?_
      obtain rfl := oI h2
      obtain rfl : _ = rr1 := ho1
      replace h1 : eV cmp2 aA n1 aO a7 = some out1 := h1
      exact aH (aU (aU (bQ (aG (⟨rfl, _, _, .eq (by kernel_rfl), hO, hN, h1⟩)))))
    refine dJ 2 ?_
    obtain rfl := oI h1
    obtain rfl : _ = rr0 := ho0
    replace h0 : some aA = some r := h0
    obtain rfl := oI h0
    exact aH (aU (aU (bQ (qB (x := (.tup [])) (by kernel_rfl) (aZ.refl _) ⟨rfl, hO.ext, hO.at 0 (by kernel_rfl), by simp only [List.length_map]; exact hN.trans hN0⟩))))
  refine bR 0 ?_
  refine cR [(0, (.msl 2 lo0p 0 (List.length aA))), (1, (eI n1)), (2, (.fn (.func cmp2_f) cmp2_a cmp2_c)), (6, (eI (20 : Int))), (7, (eI (0 : Int))), (8, (eI (20 : Int)))] ?_
  refine cK (fun T H => ∃ aA : List aB, ∃ aO : Int, ∃ a7 : Int, ∃ b8 : Int, Has T [(0, (.msl 2 lo0p 0 (List.length aA))), (1, (eI n1)), (2, (.fn (.func cmp2_f) cmp2_a cmp2_c)), (6, (eI aO)), (7, (eI a7)), (8, (eI b8))] ∧ aM ⟨H0, [lo0p], []⟩ H [(lo0p, 2, List.map aC aA)] ∧ List.length aA = N0 ∧ iH cmp2 aA n1 aO a7 b8 = some r) ?_ ⟨aA, (20 : Int), (0 : Int), (20 : Int), .eq (by kernel_rfl), hO, hN, h0⟩
  clear hO hN h0
  rintro T H ⟨aA, aO, a7, b8, hT, hO, hN, h0⟩
  refine bD hT ?_
  clear hT
  unfold iH at h0
  obtain ⟨rr0, hl0, h0⟩ := aY h0
  refine cB (by kernel_rfl) (fun (s : List aB × Int × Int) T H => Has T [(0, (.msl 2 lo0p 0 (List.length s.1))), (1, (eI n1)), (2, (.fn (.func cmp2_f) cmp2_a cmp2_c)), (6, (eI aO)), (7, (eI s.2.1)), (8, (eI s.2.2))] ∧ aM ⟨H0, [lo0p], []⟩ H [(lo0p, 2, List.map aC s.1)] ∧ List.length s.1 = N0) hl0 ⟨.eq (by kernel_rfl), hO, hN⟩ ?_
  clear hO hN
  rintro k0 s out1 T H ⟨hT, hO, hN⟩ h1 ho0
  obtain ⟨aA, a7, b8⟩ := s
  replace h1 : gQ cmp2 n1 aO aA a7 b8 = some out1 := h1
  try dsimp only at hT
  refine bD hT ?_
  clear hT
  unfold gQ at h1
  refine aP ?_
  refine aX aF 3 [] [(13, (aJ (decide (b8 ≤ n1))))] ?_
  refine bN h1 (fun h1 => ?_) (fun h1 => ?_)
  · refine bP ?_
    refine bG [(0, (.msl 2 lo0p 0 (List.length aA))), (1, (eI n1)), (2, (.fn (.func cmp2_f) cmp2_a cmp2_c)), (6, (eI aO)), (7, (eI a7)), (8, (eI b8))] ?_
    refine bR 1 ?_
    refine aP ?_
    refine aT aF 5 ?_
    refine bO 4 ?_
    obtain ⟨x14, hx15, h1⟩ := aY h1
    refine nY [(lo0p, 2, List.map aC x14)] 0 (mX lo0p aA a7 b8 cmp2_f cmp2_a cmp2_c cmp2 cmp2_h _ hx15) hO ?_
    intro H hO hl16
    simp only [List.length_map] at hl16
    replace hN := hl16.trans hN
    refine cJ ?_
    refine cN (l := [(0, (.msl 2 lo0p 0 (List.length x14))), (1, (eI n1)), (2, (.fn (.func cmp2_f) cmp2_a cmp2_c)), (6, (eI aO)), (8, (eI b8))]) ⟨[(0, (.msl 2 lo0p 0 (List.length aA))), (1, (eI n1)), (2, (.fn (.func cmp2_f) cmp2_a cmp2_c)), (6, (eI aO)), (8, (eI b8))], by kernel_rfl, rfl, ⟨aZ.eq (by simp [hl16]), aZ.refl _, aZ.refl _, aZ.refl _, aZ.refl _, trivial⟩⟩ ?_
    refine aH (aG (?_))
    refine aX aF 2 [] [(7, (eI b8))] ?_
    refine aT aF 4 ?_
    refine bF ?_
    exact aH (aV (aG (⟨rfl, _, (oI h1).symm, .eq (by kernel_rfl), hO, hN⟩)))
  refine dJ 0 ?_
  obtain rfl := oI h1
  obtain rfl : _ = rr0 := ho0
  replace h0 : eY cmp2 aA n1 aO a7 = some r := h0
  exact aH (aU (aU (bQ (aG (⟨rfl, _, _, _, .eq (by kernel_rfl), hO, hN, h0⟩)))))

theorem qZ (lo0p : Nat) (x0 : (List aB)) (cmp1_f : Nat) (cmp1_a cmp1_c : List V) (cmp1 : aB → aB → Option Int) (cmp1_h : ∀ a0 a1 r, cmp1 a0 a1 = some r → bW Try.prog cmp1_f (cmp1_a ++ [(aC a0), (aC a1)] ++ cmp1_c) (eI r)) (r : List aB) (h0 : dA x0 cmp1 = some r) : kV Try.prog 112 lo0p 2 (List.map aC x0) (List.map aC r) [(.msl 2 lo0p 0 (List.length x0)), (.fn (.func cmp1_f) cmp1_a cmp1_c)] (.tup []) := by
  intro H0 hl0
  refine cH Try.func112 ?_
  have hO := aM.pS hl0
  clear hl0
  obtain ⟨N0, hN0⟩ : ∃ n, n = List.length x0 := ⟨_, rfl⟩
  have hN : List.length x0 = N0 := hN0.symm
  unfold dA at h0
  refine aT aF 5 ?_
  refine bO 4 ?_
  obtain ⟨x1, hx2, h0⟩ := aY h0
  refine nY [(lo0p, 2, List.map aC x1)] 0 (wL lo0p x0 (lN x0) cmp1_f cmp1_a cmp1_c cmp1 cmp1_h _ hx2) hO ?_
  intro H hO hl3
  simp only [List.length_map] at hl3
  replace hN := hl3.trans hN
  refine cJ ?_
  refine cN (l := [(0, (.msl 2 lo0p 0 (List.length x1)))]) ⟨[(0, (.msl 2 lo0p 0 (List.length x0)))], by kernel_rfl, rfl, ⟨aZ.eq (by simp [hl3]), trivial⟩⟩ ?_
  obtain rfl := oI h0
  exact aH (qB (x := (.tup [])) (by kernel_rfl) (aZ.refl _) ⟨rfl, hO.ext, hO.at 0 (by kernel_rfl), by simp only [List.length_map]; exact hN.trans hN0⟩)

theorem MA (a0 : aB) (b1 : aB) (r : Int) (h0 : mQ a0 b1 = some r) : bW Try.prog 113 [(aC a0), (aC b1)] (eI r) := by
  intro H0
  refine cH Try.func113 ?_
  have hO := aM.start H0
  unfold mQ at h0
  refine aP ?_
  refine aT aF 3 ?_
  refine gP 2 (aC a0) (by kernel_rfl) (by kernel_rfl) ?_
  refine gP 2 (aC b1) (by kernel_rfl) (by kernel_rfl) ?_
  refine bF ?_
  refine bG [(2, (.rp (aC a0))), (3, (.rp (aC b1)))] ?_
  refine aP ?_
  refine aT aF 6 ?_
  refine bO 4 ?_
  obtain ⟨x1, hx2, h0⟩ := aY h0
  refine cI (uO a0.At b1.At _ hx2) hO ?_
  intro H hO
  refine bF ?_
  refine bG [(4, (eI x1))] ?_
  refine bM ?_
  obtain rfl := oI h0
  exact aH (Q_r hO)

theorem wP (f0 : (List aB)) (r : Bool) (h0 : nL f0 = some r) : bW Try.prog 68 [(eL aC f0)] (aJ r) := by
  intro H0
  refine cH Try.func68 ?_
  have hO := aM.start H0
  unfold nL at h0
  refine aX aF 1 [] [] ?_
  refine aP ?_
  refine aX aF 3 [] [(8, (aJ (decide ((1024 : Int) < (lN f0)))))] ?_
  refine bN h0 (fun h0 => ?_) (fun h0 => ?_)
  · refine bV aF 1 [(2, (aJ false))] ?_
    refine bM ?_
    obtain rfl := oI h0
    exact aH (bB (Q_r hO))
  refine bP ?_
  refine bG [(0, (eL aC f0))] ?_
  refine aX aF 1 [] [(3, (eI (-2 : Int)))] ?_
  refine cU (fun T H => Has T [] ∧ aM ⟨H0, [], []⟩ H [] ∧ vB  = some r) ?_ ?_
  · clear hO h0
    rintro T H ⟨hT, hO, h0⟩
    refine bD hT ?_
    clear hT
    unfold vB at h0
    refine bV aF 1 [(2, (aJ true))] ?_
    refine bM ?_
    obtain rfl := oI h0
    exact aH (Q_r hO)
  refine aX aF 3 [0] [(9, (eL aC f0)), (10, (eI (lN f0))), (11, (eI (0 : Int)))] ?_
  refine bR 0 ?_
  refine cR [(3, (eI (-2 : Int))), (9, (eL aC f0)), (10, (eI (lN f0))), (11, (eI (0 : Int)))] ?_
  refine cK (fun T H => ∃ pZ : Int, ∃ t9 : (List aB), ∃ t10 : Int, ∃ t11 : Int, Has T [(3, (eI pZ)), (9, (eL aC t9)), (10, (eI t10)), (11, (eI t11))] ∧ aM ⟨H0, [], []⟩ H [] ∧ xV pZ t9 t10 t11 = some r) ?_ ⟨(-2 : Int), f0, (lN f0), (0 : Int), .eq (by kernel_rfl), hO, h0⟩
  clear hO h0
  rintro T H ⟨pZ, t9, t10, t11, hT, hO, h0⟩
  refine bD hT ?_
  clear hT
  unfold xV at h0
  obtain ⟨rr0, hl0, h0⟩ := aY h0
  refine cB (by kernel_rfl) (fun (s : Int × Int) T H => Has T [(3, (eI s.1)), (9, (eL aC t9)), (10, (eI t10)), (11, (eI s.2))] ∧ aM ⟨H0, [], []⟩ H []) hl0 ⟨.eq (by kernel_rfl), hO⟩ ?_
  clear hO
  rintro k0 s out1 T H ⟨hT, hO⟩ h1 ho0
  obtain ⟨pZ, t11⟩ := s
  replace h1 : mD t9 t10 pZ t11 = some out1 := h1
  try dsimp only at hT
  refine bD hT ?_
  clear hT
  unfold mD at h1
  refine aX aF 1 [] [(12, (aJ (decide (t11 < t10))))] ?_
  refine aP ?_
  refine bN h1 (fun h1 => ?_) (fun h1 => ?_)
  · refine bP ?_
    refine bG [(3, (eI pZ)), (9, (eL aC t9)), (10, (eI t10)), (11, (eI t11))] ?_
    refine aP ?_
    refine bR 1 ?_
    refine aP ?_
    refine aT aF 4 ?_
    obtain ⟨c3, h1⟩ := bK h1
    refine oS 2 [0 ≤ t11 ∧ t11 < (lN t9)] ⟨c3, trivial⟩ ?_
    refine mG 2 (aC (aB.mk 0 0)) (by kernel_rfl) (by kernel_rfl) hO ?_
    intro lo4 H hO
    refine iY 0 lo4 2 0 (aC (aB.mk 0 0)) (aC (gD t9 t11)) [(aC (aB.mk 0 0))] [(lo4, 2, [(aC (gD t9 t11))])] hO rfl (by kernel_rfl) ?_
    intro H hO
    refine cJ ?_
    refine bS [] [(5, (.lp lo4 0 0))] ?_
    refine aP ?_
    refine aP ?_
    refine aT aF 20 ?_
    refine bO 1 ?_
    refine kC 0 lo4 2 0 (aC (gD t9 t11)) (eI ((gD t9 t11).At)) [(aC (gD t9 t11))] hO rfl ?_
    refine bO 6 ?_
    refine xO [(19, false)] 0 lo4 2 0 (aC (gD t9 t11)) (eI ((gD t9 t11).At)) [(aC (gD t9 t11))] (by kernel_rfl) (by kernel_rfl) hO (by kernel_rfl) (!(decide (((gD t9 t11).At) ≤ pZ))) (by kernel_rfl) (fun hb5 => rfl) ?_
    refine bO 11 ?_
    refine xO [(24, false)] 0 lo4 2 0 (aC (gD t9 t11)) (eI ((gD t9 t11).Net)) [(aC (gD t9 t11))] (by kernel_rfl) (by kernel_rfl) hO (by kernel_rfl) (!((decide (((gD t9 t11).At) ≤ pZ)) || (decide ((1125899906842624 : Int) ≤ ((gD t9 t11).At))))) (by kernel_rfl) (fun hb6 => rfl) ?_
    refine bO 16 ?_
    refine xO [(29, false)] 0 lo4 2 0 (aC (gD t9 t11)) (eI ((gD t9 t11).Net)) [(aC (gD t9 t11))] (by kernel_rfl) (by kernel_rfl) hO (by kernel_rfl) (!(((decide (((gD t9 t11).At) ≤ pZ)) || (decide ((1125899906842624 : Int) ≤ ((gD t9 t11).At)))) || (decide (((gD t9 t11).Net) = (0 : Int))))) (by kernel_rfl) (fun hb7 => rfl) ?_
    obtain ⟨x8, hx9, h1⟩ := aY h1
    refine iZ [(29, false)] 109 [(eI ((gD t9 t11).Net))] (aJ x8) (!(((decide (((gD t9 t11).At) ≤ pZ)) || (decide ((1125899906842624 : Int) ≤ ((gD t9 t11).At)))) || (decide (((gD t9 t11).Net) = (0 : Int))))) (by kernel_rfl) (by kernel_rfl) (by kernel_rfl) (fun hb10 => (GH ((gD t9 t11).Net) _ (lE hx9 hb10))) hO ?_
    intro H hO
    refine bF ?_
    refine bS [3] [(34, (aJ ((((decide (((gD t9 t11).At) ≤ pZ)) || (decide ((1125899906842624 : Int) ≤ ((gD t9 t11).At)))) || (decide (((gD t9 t11).Net) = (0 : Int)))) || (!x8))))] ?_
    refine bN h1 (fun h1 => ?_) (fun h1 => ?_)
    · refine aP ?_
      refine aT aF 1 ?_
      refine bF ?_
      refine cX [(2, (aJ false))] ?_
      replace hO := hO.pick (L' := []) [] (by decide) (by kernel_rfl)
      refine aH (aG (?_))
      refine bM ?_
      obtain rfl := oI h1
      obtain rfl : _ = rr0 := ho0
      replace h0 : some false = some r := h0
      obtain rfl := oI h0
      exact aH (bB (bU (bB (bB (bU (bB (Q_r hO)))))))
    refine bP ?_
    refine bG [(5, (.lp lo4 0 0)), (9, (eL aC t9)), (10, (eI t10)), (11, (eI t11))] ?_
    refine aT aF 3 ?_
    refine bO 1 ?_
    refine kC 0 lo4 2 0 (aC (gD t9 t11)) (eI ((gD t9 t11).At)) [(aC (gD t9 t11))] hO rfl ?_
    refine bF ?_
    refine cX [(3, (eI ((gD t9 t11).At))), (9, (eL aC t9)), (10, (eI t10)), (11, (eI t11))] ?_
    replace hO := hO.pick (L' := []) [] (by decide) (by kernel_rfl)
    refine aH (aV (aG (?_)))
    refine aT aF 2 ?_
    refine bF ?_
    exact aH (aG (⟨rfl, _, (oI h1).symm, .eq (by kernel_rfl), hO⟩))
  refine dJ 0 ?_
  obtain rfl := oI h1
  obtain rfl : _ = rr0 := ho0
  replace h0 : vB  = some r := h0
  exact aH (aU (aU (bQ (aG (⟨rfl, .eq (by kernel_rfl), hO, h0⟩)))))

theorem QI (f0 : (List aB)) (r : ((List aB) × Int)) (h0 : sO f0 = some r) : bW Try.prog 114 [(eL aC f0)] (.tup [(eL aC r.1), (eI r.2)]) := by
  intro H0
  refine cH Try.func114 ?_
  have hO := aM.start H0
  unfold sO at h0
  refine aX aF 2 [] [] ?_
  refine aP ?_
  refine aP ?_
  refine aT aF 3 ?_
  refine bO 1 ?_
  obtain ⟨x1, hx2, h0⟩ := aY h0
  refine cI (wP f0 _ hx2) hO ?_
  intro H hO
  refine bF ?_
  refine bS [] [(6, (aJ (!x1)))] ?_
  refine bN h0 (fun h0 => ?_) (fun h0 => ?_)
  · refine bV aF 2 [(2, (.sl true 0 (fun _ => .bad))), (3, (eI (7 : Int)))] ?_
    refine bM ?_
    refine cN (l := [(2, (eL aC ([]))), (3, (eI (7 : Int)))]) ⟨[(2, (.sl true 0 (fun _ => .bad))), (3, (eI (7 : Int)))], by kernel_rfl, rfl, ⟨eF, aZ.refl _, trivial⟩⟩ ?_
    obtain rfl := oI h0
    exact aH (bB (Q_r hO))
  refine bP ?_
  refine bG [(0, (eL aC f0))] ?_
  refine bV aF 3 [(2, (eL aC f0)), (3, (eI (0 : Int)))] ?_
  refine bM ?_
  obtain rfl := oI h0
  exact aH (Q_r hO)

theorem QL (l0 : (List aB)) (r : ((List aB) × Int)) (h0 : vA l0 = some r) : bW Try.prog 67 [(eL aC l0)] (.tup [(eL aC r.1), (eI r.2)]) := by
  intro H0
  refine cH Try.func67 ?_
  have hO := aM.start H0
  unfold vA at h0
  refine aX aF 2 [] [] ?_
  refine aP ?_
  refine aP ?_
  refine aT aF 2 ?_
  refine bO 1 ?_
  obtain ⟨x1, hx2, h0⟩ := aY h0
  refine cI (mN l0 108 [] [] (fun y0 => sH y0) (fun y0 r h => MK y0 r h) _ hx2) hO ?_
  intro H hO
  refine cJ ?_
  refine bS [] [(9, (aJ x1))] ?_
  refine bN h0 (fun h0 => ?_) (fun h0 => ?_)
  · refine bV aF 2 [(2, (.sl true 0 (fun _ => .bad))), (3, (eI (2 : Int)))] ?_
    refine bM ?_
    refine cN (l := [(2, (eL aC ([]))), (3, (eI (2 : Int)))]) ⟨[(2, (.sl true 0 (fun _ => .bad))), (3, (eI (2 : Int)))], by kernel_rfl, rfl, ⟨eF, aZ.refl _, trivial⟩⟩ ?_
    obtain rfl := oI h0
    exact aH (bB (Q_r hO))
  refine bP ?_
  refine bG [(0, (eL aC l0))] ?_
  refine aP ?_
  refine aP ?_
  refine aT aF 2 ?_
  refine bO 1 ?_
  obtain ⟨x5, hx6, h0⟩ := aY h0
  refine cI (mN l0 110 [] [] (fun y0 => rX y0) (fun y0 r h => MD y0 r h) _ hx6) hO ?_
  intro H hO
  refine cJ ?_
  refine bS [] [(11, (aJ x5))] ?_
  refine bN h0 (fun h0 => ?_) (fun h0 => ?_)
  · refine bV aF 2 [(2, (.sl true 0 (fun _ => .bad))), (3, (eI (13 : Int)))] ?_
    refine bM ?_
    refine cN (l := [(2, (eL aC ([]))), (3, (eI (13 : Int)))]) ⟨[(2, (.sl true 0 (fun _ => .bad))), (3, (eI (13 : Int)))], by kernel_rfl, rfl, ⟨eF, aZ.refl _, trivial⟩⟩ ?_
    obtain rfl := oI h0
    exact aH (bB (Q_r hO))
  refine bP ?_
  refine bG [(0, (eL aC l0))] ?_
  refine aP ?_
  refine aT aF 3 ?_
  refine bO 1 ?_
  obtain ⟨x9, hx10, h0⟩ := aY h0
  refine SG (L' := fun lo11 => [(lo11, 2, List.map aC x9)]) 2 (List.map aC x9) 111 [(eL aC l0)] (fun lo11 => (.msl 2 lo11 0 (List.length x9))) (by kernel_rfl) (by kernel_rfl) (wC l0 _ hx10) hO (fun _ => by kernel_rfl) ?_
  intro lo11 H hO
  refine bF ?_
  refine bG [(4, (.msl 2 lo11 0 (List.length x9)))] ?_
  refine aP ?_
  refine aT aF 2 ?_
  refine bO 1 ?_
  obtain ⟨x12, hx13, h0⟩ := aY h0
  refine nY [(lo11, 2, List.map aC x12)] 0 (qZ lo11 x9 113 [] [] (fun y0 y1 => mQ y0 y1) (fun y0 y1 r h => MA y0 y1 r h) _ hx13) hO ?_
  intro H hO hl14
  simp only [List.length_map] at hl14
  refine cJ ?_
  refine cN (l := [(4, (.msl 2 lo11 0 (List.length x12)))]) ⟨[(4, (.msl 2 lo11 0 (List.length x9)))], by kernel_rfl, rfl, ⟨aZ.eq (by simp [hl14]), trivial⟩⟩ ?_
  refine aH (aG (?_))
  refine aP ?_
  refine aT aF 2 ?_
  refine pL (xs := []) (k := 2) (by kernel_rfl) (by kernel_rfl) ?_
  refine bF ?_
  refine bS [] [(5, (.sl true 0 (fun _ => .bad)))] ?_
  refine cU (fun T H => ∃ out5 : List aB, ∃ lo15 : Nat, Has T [(5, (.msl 2 lo15 0 (List.length out5)))] ∧ aM ⟨H0, [], []⟩ H [(lo15, 2, List.map aC out5)] ∧ tB out5 = some r) ?_ ?_
  · clear hO h0
    rintro T H ⟨out5, lo15, hT, hO, h0⟩
    refine bD hT ?_
    clear hT
    unfold tB at h0
    refine aP ?_
    refine aT aF 6 ?_
    refine AY (e := aC) out5 0 5 2 lo15 (List.length out5) [] (by kernel_rfl) hO (by kernel_rfl) (by kernel_rfl) (by kernel_rfl) (by kernel_rfl) ?_
    intro H hO
    refine bO 1 ?_
    obtain ⟨x16, hx17, h0⟩ := aY h0
    refine cI (QI out5 _ hx17) hO ?_
    intro H hO
    refine bF ?_
    refine bG [(2, (eL aC x16.1)), (3, (eI x16.2))] ?_
    refine bM ?_
    obtain rfl := oI h0
    exact aH (Q_r hO)
  refine aX aF 1 [] [(6, (eI (0 : Int)))] ?_
  refine bR 0 ?_
  refine cR [(4, (.msl 2 lo11 0 (List.length x12))), (5, (.sl true 0 (fun _ => .bad))), (6, (eI (0 : Int)))] ?_
  refine EN (el := (fun _ => .bad)) 1 5 2 hO (by kernel_rfl) ?_
  intro lo40 H41 hO
  refine cK (fun T H => ∃ all4 : List aB, ∃ out5 : List aB, ∃ i6 : Int, ∃ lo21 : Nat, ∃ lo22 : Nat, Has T [(4, (.msl 2 lo21 0 (List.length all4))), (5, (.msl 2 lo22 0 (List.length out5))), (6, (eI i6))] ∧ aM ⟨H0, [], []⟩ H [(lo21, 2, List.map aC all4), (lo22, 2, List.map aC out5)] ∧ wY all4 out5 i6 = some r) ?_ ⟨x12, ([] : List aB), (0 : Int), lo11, lo40, .eq (by kernel_rfl), hO, h0⟩
  clear hO h0
  rintro T H ⟨all4, out5, i6, lo21, lo22, hT, hO, h0⟩
  refine bD hT ?_
  clear hT
  unfold wY at h0
  obtain ⟨rr0, hl0, h0⟩ := aY h0
  refine cB (by kernel_rfl) (fun (s : List aB × List aB × Int) T H => ∃ lo21 : Nat, ∃ lo22 : Nat, Has T [(4, (.msl 2 lo21 0 (List.length s.1))), (5, (.msl 2 lo22 0 (List.length s.2.1))), (6, (eI s.2.2))] ∧ aM ⟨H0, [], []⟩ H [(lo21, 2, List.map aC s.1), (lo22, 2, List.map aC s.2.1)]) hl0 ⟨lo21, lo22, .eq (by kernel_rfl), hO⟩ ?_
  clear hO
  rintro k0 s out1 T H ⟨lo21, lo22, hT, hO⟩ h1 ho0
  obtain ⟨all4, out5, i6⟩ := s
  replace h1 : lA all4 out5 i6 = some out1 := h1
  try dsimp only at hT
  refine bD hT ?_
  clear hT
  unfold lA at h1
  refine aP ?_
  refine aX aF 4 [] [(20, (aJ (decide (i6 < (lN all4)))))] ?_
  refine bN h1 (fun h1 => ?_) (fun h1 => ?_)
  · refine bP ?_
    refine bG [(4, (.msl 2 lo21 0 (List.length all4))), (5, (.msl 2 lo22 0 (List.length out5))), (6, (eI i6))] ?_
    refine bR 1 ?_
    refine aP ?_
    refine aT aF 8 ?_
    obtain ⟨c24, h1⟩ := bK h1
    refine oS 4 [0 ≤ i6 ∧ i6 < (lN all4)] ⟨c24, trivial⟩ ?_
    refine kC 0 lo21 2 (0 + Int.toNat i6) (aC (gD all4 i6)) (eI ((gD all4 i6).At)) (List.map aC all4) hO (cQ c24) ?_
    refine bO 6 ?_
    refine mG 2 (aC (aB.mk 0 0)) (by kernel_rfl) (by kernel_rfl) hO ?_
    intro lo25 H hO
    refine iY 2 lo25 2 0 (aC (aB.mk 0 0)) (aC (aB.mk ((gD all4 i6).At) 0)) [(aC (aB.mk 0 0))] [(lo21, 2, List.map aC all4), (lo22, 2, List.map aC out5), (lo25, 2, [(aC (aB.mk ((gD all4 i6).At) 0))])] hO rfl (by kernel_rfl) ?_
    intro H hO
    refine cJ ?_
    refine bS [] [(7, (.lp lo25 0 0))] ?_
    refine cU (fun T H => ∃ all4 : List aB, ∃ out5 : List aB, ∃ i6 : Int, ∃ j7 : aB, ∃ lo26 : Nat, ∃ lo27 : Nat, Has T [(4, (.msl 2 lo26 0 (List.length all4))), (5, (.msl 2 lo27 0 (List.length out5))), (6, (eI i6)), (7, (.lp lo25 0 0))] ∧ aM ⟨H0, [], []⟩ H [(lo26, 2, List.map aC all4), (lo27, 2, List.map aC out5), (lo25, 2, [(aC j7)])] ∧ tM all4 out5 i6 j7 = some out1) ?_ ?_
    · clear hO h1
      rintro T H ⟨all4, out5, i6, j7, lo26, lo27, hT, hO, h1⟩
      refine bD hT ?_
      clear hT
      unfold tM at h1
      refine aP ?_
      refine aT aF 8 ?_
      refine bO 1 ?_
      refine kC 2 lo25 2 0 (aC j7) (eI j7.Net) [(aC j7)] hO rfl ?_
      refine bO 5 ?_
      refine xO [(55, true)] 2 lo25 2 0 (aC j7) (eI j7.At) [(aC j7)] (by kernel_rfl) (by kernel_rfl) hO (by kernel_rfl) (!decide (j7.Net = (0 : Int))) (by kernel_rfl) (fun hb28 => rfl) ?_
      refine bF ?_
      refine bS [] [(59, (aJ ((!decide (j7.Net = (0 : Int))) && (decide (j7.At < (1125899906842624 : Int))))))] ?_
      refine bN h1 (fun h1 => ?_) (fun h1 => ?_)
      · refine aT aF 5 ?_
        refine bO 1 ?_
        refine kC 2 lo25 2 0 (aC j7) (aC j7) [(aC j7)] hO rfl ?_
        refine pL (xs := [(aC j7)]) (k := 2) (by kernel_rfl) (by kernel_rfl) ?_
        obtain ⟨c31, h1⟩ := bK h1
        refine xM (e := aC) out5 ([j7]) 1 lo27 2 16 (dY [(aC j7)]) (fun lo30 => [(lo26, 2, List.map aC all4), (lo30, 2, List.map aC (out5 ++ ([j7]))), (lo25, 2, [(aC j7)])]) (by kernel_rfl) (by kernel_rfl) hO (by kernel_rfl) (by kernel_rfl) c31 (fun _ => by kernel_rfl) ?_
        intro lo30 H hO
        refine bF ?_
        replace hO := hO.pick (L' := [(lo26, 2, List.map aC all4), (lo30, 2, List.map aC (out5 ++ ([j7])))]) [0, 1] (by decide) (by kernel_rfl)
        exact aH (aV (aG (⟨rfl, _, (oI h1).symm, _, _, .eq (by kernel_rfl), hO⟩)))
      refine bP ?_
      replace hO := hO.pick (L' := [(lo26, 2, List.map aC all4), (lo27, 2, List.map aC out5)]) [0, 1] (by decide) (by kernel_rfl)
      exact aH (aV (aG (⟨rfl, _, (oI h1).symm, _, _, .eq (by kernel_rfl), hO⟩)))
    refine bR 2 ?_
    refine cR [(4, (.msl 2 lo21 0 (List.length all4))), (5, (.msl 2 lo22 0 (List.length out5))), (6, (eI i6)), (7, (.lp lo25 0 0))] ?_
    refine cK (fun T H => ∃ all4 : List aB, ∃ out5 : List aB, ∃ i6 : Int, ∃ j7 : aB, ∃ lo34 : Nat, ∃ lo35 : Nat, Has T [(4, (.msl 2 lo34 0 (List.length all4))), (5, (.msl 2 lo35 0 (List.length out5))), (6, (eI i6)), (7, (.lp lo25 0 0))] ∧ aM ⟨H0, [], []⟩ H [(lo34, 2, List.map aC all4), (lo35, 2, List.map aC out5), (lo25, 2, [(aC j7)])] ∧ xG all4 out5 i6 j7 = some out1) ?_ ⟨all4, out5, i6, aB.mk ((gD all4 i6).At) 0, lo21, lo22, .eq (by kernel_rfl), hO, h1⟩
    clear hO h1
    rintro T H ⟨all4, out5, i6, j7, lo34, lo35, hT, hO, h1⟩
    refine bD hT ?_
    clear hT
    unfold xG at h1
    obtain ⟨rr1, hl1, h1⟩ := aY h1
    refine cB (by kernel_rfl) (fun (s : List aB × List aB × Int × aB) T H => ∃ lo34 : Nat, ∃ lo35 : Nat, Has T [(4, (.msl 2 lo34 0 (List.length s.1))), (5, (.msl 2 lo35 0 (List.length s.2.1))), (6, (eI s.2.2.1)), (7, (.lp lo25 0 0))] ∧ aM ⟨H0, [], []⟩ H [(lo34, 2, List.map aC s.1), (lo35, 2, List.map aC s.2.1), (lo25, 2, [(aC s.2.2.2)])]) hl1 ⟨lo34, lo35, .eq (by kernel_rfl), hO⟩ ?_
    clear hO
    rintro k1 s out2 T H ⟨lo34, lo35, hT, hO⟩ h2 ho1
    obtain ⟨all4, out5, i6, j7⟩ := s
    replace h2 : jA all4 out5 i6 j7 = some out2 := h2
    try dsimp only at hT
    refine bD hT ?_
    clear hT
    unfold jA at h2
    refine aP ?_
    refine aP ?_
    obtain ⟨c36, h2⟩ := bK h2
    refine jF (jG []) aF 14 ?_
    refine BY (K := fun T H => Has (lift T) [(4, (.msl 2 lo34 0 (List.length all4))), (5, (.msl 2 lo35 0 (List.length out5))), (6, (eI i6)), (7, (.lp lo25 0 0)), (40, (aJ ((decide (i6 < (lN all4))) && (decide (((gD all4 i6).At) = j7.At)))))] ∧ aM ⟨H0, [], []⟩ H [(lo34, 2, List.map aC all4), (lo35, 2, List.map aC out5), (lo25, 2, [(aC j7)])]) ?_ ?_
    · refine tJ 5 ?_
      refine BU (t := 31) (e := decide (i6 < (lN all4))) (by kernel_rfl) (fun hg37 => ?_) (fun hg37 => ?_)
      · refine dN 9 [0 ≤ i6 ∧ i6 < (lN all4)] ⟨(c36 hg37), trivial⟩ ?_
        refine zP 0 lo34 2 (0 + Int.toNat i6) (aC (gD all4 i6)) (eI ((gD all4 i6).At)) (List.map aC all4) (by kernel_rfl) (by kernel_rfl) (by kernel_rfl) hO (by kernel_rfl) (cQ (c36 hg37)) ?_
        refine tJ 11 ?_
        refine zP 2 lo25 2 0 (aC j7) (eI j7.At) [(aC j7)] (by kernel_rfl) (by kernel_rfl) (by kernel_rfl) hO (by kernel_rfl) rfl ?_
        refine pV ?_
        exact ⟨⟨[(4, (.msl 2 lo34 0 (List.length all4))), (5, (.msl 2 lo35 0 (List.length out5))), (6, (eI i6)), (7, (.lp lo25 0 0)), (40, (aJ (decide (((gD all4 i6).At) = j7.At))))], by kernel_rfl, rfl, ⟨aZ.refl _, aZ.refl _, aZ.refl _, aZ.refl _, aZ.eq (congrArg aJ (AR hg37 rfl).symm), trivial⟩⟩, hO⟩
      refine pV ?_
      exact ⟨⟨[(4, (.msl 2 lo34 0 (List.length all4))), (5, (.msl 2 lo35 0 (List.length out5))), (6, (eI i6)), (7, (.lp lo25 0 0)), (40, (aJ false))], by kernel_rfl, rfl, ⟨aZ.refl _, aZ.refl _, aZ.refl _, aZ.refl _, aZ.eq (congrArg aJ (AR hg37 rfl).symm), trivial⟩⟩, hO⟩
    · rintro T H ⟨hT, hO⟩
      refine cN hT ?_
      clear hT
      refine aH (aG ?_)
      refine bN h2 (fun h2 => ?_) (fun h2 => ?_)
      · refine bP ?_
        refine bG [(4, (.msl 2 lo34 0 (List.length all4))), (5, (.msl 2 lo35 0 (List.length out5))), (6, (eI i6)), (7, (.lp lo25 0 0))] ?_
        refine aP ?_
        refine bR 3 ?_
        refine jF (jG []) aF 10 ?_
        refine tJ 1 ?_
        refine kP 2 lo25 2 0 (aC j7) (eI j7.Net) [(aC j7)] hO rfl ?_
        obtain ⟨c39, h2⟩ := bK h2
        refine dN 6 [0 ≤ i6 ∧ i6 < (lN all4)] ⟨c39, trivial⟩ ?_
        refine kP 0 lo34 2 (0 + Int.toNat i6) (aC (gD all4 i6)) (eI ((gD all4 i6).Net)) (List.map aC all4) hO (cQ c39) ?_
        refine tJ 9 ?_
        refine rF 2 lo25 2 0 (aC j7) (aC (aB.mk j7.At (wR (j7.Net + ((gD all4 i6).Net))))) [(aC j7)] [(lo34, 2, List.map aC all4), (lo35, 2, List.map aC out5), (lo25, 2, [(aC (aB.mk j7.At (wR (j7.Net + ((gD all4 i6).Net)))))])] hO rfl (by kernel_rfl) ?_
        intro H hO
        refine wT (by kernel_rfl) ?_
        refine cX [(4, (.msl 2 lo34 0 (List.length all4))), (5, (.msl 2 lo35 0 (List.length out5))), (6, (eI i6)), (7, (.lp lo25 0 0))] ?_
        refine aH (aV (aG (?_)))
        refine aT aF 3 ?_
        refine bF ?_
        exact aH (aG (⟨rfl, _, (oI h2).symm, _, _, .eq (by kernel_rfl), hO⟩))
      refine dJ 2 ?_
      obtain rfl := oI h2
      obtain rfl : _ = rr1 := ho1
      replace h1 : tM all4 out5 i6 j7 = some out1 := h1
      exact aH (aU (aU (bQ (aG (⟨rfl, _, _, _, _, _, _, .eq (by kernel_rfl), hO, h1⟩)))))
  refine dJ 0 ?_
  replace hO := hO.pick (L' := [(lo22, 2, List.map aC out5)]) [1] (by decide) (by kernel_rfl)
  obtain rfl := oI h1
  obtain rfl : _ = rr0 := ho0
  replace h0 : tB out5 = some r := h0
  exact aH (aU (aU (bQ (aG (⟨rfl, _, _, .eq (by kernel_rfl), hO, h0⟩)))))

theorem MN (f0 : (List aB)) (r : ((List aB) × Int)) (h0 : rL f0 = some r) : bW Try.prog 66 [(eL aC f0)] (.tup [(eL aC r.1), (eI r.2)]) := by
  intro H0
  refine cH Try.func66 ?_
  have hO := aM.start H0
  unfold rL at h0
  refine aX aF 2 [] [] ?_
  refine aP ?_
  refine aT aF 6 ?_
  refine bO 1 ?_
  obtain ⟨x1, hx2, h0⟩ := aY h0
  refine cI (QL f0 _ hx2) hO ?_
  intro H hO
  refine bF ?_
  refine bG [(2, (eL aC x1.1)), (3, (eI x1.2))] ?_
  refine bM ?_
  obtain rfl := oI h0
  exact aH (Q_r hO)

theorem RB (l0 : (List aD)) (r : ((List aD) × Int)) (h0 : vC l0 = some r) : bW Try.prog 28 [(eL aE l0)] (.tup [(eL aE r.1), (eI r.2)]) := by
  intro H0
  refine cH Try.func28 ?_
  have hO := aM.start H0
  unfold vC at h0
  refine aX aF 2 [] [] ?_
  refine aP ?_
  refine aP ?_
  refine aT aF 2 ?_
  refine bO 1 ?_
  obtain ⟨x1, hx2, h0⟩ := aY h0
  refine cI (mP l0 56 [] [] (fun y0 => rM y0) (fun y0 r h => MP y0 r h) _ hx2) hO ?_
  intro H hO
  refine cJ ?_
  refine bS [] [(6, (aJ x1))] ?_
  refine bN h0 (fun h0 => ?_) (fun h0 => ?_)
  · refine bV aF 2 [(2, (.sl true 0 (fun _ => .bad))), (3, (eI (2 : Int)))] ?_
    refine bM ?_
    refine cN (l := [(2, (eL aE ([]))), (3, (eI (2 : Int)))]) ⟨[(2, (.sl true 0 (fun _ => .bad))), (3, (eI (2 : Int)))], by kernel_rfl, rfl, ⟨eF, aZ.refl _, trivial⟩⟩ ?_
    obtain rfl := oI h0
    exact aH (bB (Q_r hO))
  refine bP ?_
  refine bG [(0, (eL aE l0))] ?_
  refine aP ?_
  refine aP ?_
  refine aT aF 2 ?_
  refine bO 1 ?_
  obtain ⟨x5, hx6, h0⟩ := aY h0
  refine cI (mP l0 58 [] [] (fun y0 => rQ y0) (fun y0 r h => ME y0 r h) _ hx6) hO ?_
  intro H hO
  refine cJ ?_
  refine bS [] [(8, (aJ x5))] ?_
  refine bN h0 (fun h0 => ?_) (fun h0 => ?_)
  · refine bV aF 2 [(2, (.sl true 0 (fun _ => .bad))), (3, (eI (13 : Int)))] ?_
    refine bM ?_
    refine cN (l := [(2, (eL aE ([]))), (3, (eI (13 : Int)))]) ⟨[(2, (.sl true 0 (fun _ => .bad))), (3, (eI (13 : Int)))], by kernel_rfl, rfl, ⟨eF, aZ.refl _, trivial⟩⟩ ?_
    obtain rfl := oI h0
    exact aH (bB (Q_r hO))
  refine bP ?_
  refine bG [(0, (eL aE l0))] ?_
  refine aP ?_
  refine aT aF 3 ?_
  refine bO 1 ?_
  obtain ⟨x9, hx10, h0⟩ := aY h0
  refine SG (L' := fun lo11 => [(lo11, 3, List.map aE x9)]) 3 (List.map aE x9) 59 [(eL aE l0)] (fun lo11 => (.msl 3 lo11 0 (List.length x9))) (by kernel_rfl) (by kernel_rfl) (wD l0 _ hx10) hO (fun _ => by kernel_rfl) ?_
  intro lo11 H hO
  refine bF ?_
  refine bG [(4, (.msl 3 lo11 0 (List.length x9)))] ?_
  refine aP ?_
  refine aT aF 2 ?_
  refine bO 1 ?_
  obtain ⟨x12, hx13, h0⟩ := aY h0
  refine nY [(lo11, 3, List.map aE x12)] 0 (qY lo11 x9 61 [] [] (fun y0 y1 => mU y0 y1) (fun y0 y1 r h => MO y0 y1 r h) _ hx13) hO ?_
  intro H hO hl14
  simp only [List.length_map] at hl14
  refine cJ ?_
  refine cN (l := [(4, (.msl 3 lo11 0 (List.length x12)))]) ⟨[(4, (.msl 3 lo11 0 (List.length x9)))], by kernel_rfl, rfl, ⟨aZ.eq (by simp [hl14]), trivial⟩⟩ ?_
  refine aH (aG (?_))
  refine aP ?_
  refine aT aF 6 ?_
  refine AY (e := aE) x12 0 4 3 lo11 (List.length x12) [] (by kernel_rfl) hO (by kernel_rfl) (by kernel_rfl) (by kernel_rfl) (by kernel_rfl) ?_
  intro H hO
  refine bO 1 ?_
  obtain ⟨x15, hx16, h0⟩ := aY h0
  refine cI (MF x12 66 [] [] (fun y0 => rL y0) (fun y0 r h => MN y0 r h) _ hx16) hO ?_
  intro H hO
  refine bF ?_
  refine bG [(2, (eL aE x15.1)), (3, (eI x15.2))] ?_
  refine bM ?_
  obtain rfl := oI h0
  exact aH (Q_r hO)

theorem OR (l0 : (List aR)) (r : ((List aD) × Int)) (h0 : tT l0 = some r) : bW Try.prog 33 [(eL aK l0)] (.tup [(eL aE r.1), (eI r.2)]) := by
  intro H0
  refine cH Try.func33 ?_
  have hO := aM.start H0
  unfold tT at h0
  refine aX aF 2 [] [] ?_
  refine aP ?_
  refine aP ?_
  refine aT aF 2 ?_
  refine bO 1 ?_
  obtain ⟨x1, hx2, h0⟩ := aY h0
  refine cI (qX l0 75 [] [] (fun y0 => qJ y0) (fun y0 r h => KK y0 r h) _ hx2) hO ?_
  intro H hO
  refine cJ ?_
  refine bS [] [(8, (aJ x1))] ?_
  refine bN h0 (fun h0 => ?_) (fun h0 => ?_)
  · refine bV aF 2 [(2, (.sl true 0 (fun _ => .bad))), (3, (eI (2 : Int)))] ?_
    refine bM ?_
    refine cN (l := [(2, (eL aE ([]))), (3, (eI (2 : Int)))]) ⟨[(2, (.sl true 0 (fun _ => .bad))), (3, (eI (2 : Int)))], by kernel_rfl, rfl, ⟨eF, aZ.refl _, trivial⟩⟩ ?_
    obtain rfl := oI h0
    exact aH (bB (Q_r hO))
  refine bP ?_
  refine bG [(0, (eL aK l0))] ?_
  refine aP ?_
  refine aX aF 3 [] [(11, (aJ (decide ((4096 : Int) < (lN l0)))))] ?_
  refine bN h0 (fun h0 => ?_) (fun h0 => ?_)
  · refine bV aF 2 [(2, (.sl true 0 (fun _ => .bad))), (3, (eI (7 : Int)))] ?_
    refine bM ?_
    refine cN (l := [(2, (eL aE ([]))), (3, (eI (7 : Int)))]) ⟨[(2, (.sl true 0 (fun _ => .bad))), (3, (eI (7 : Int)))], by kernel_rfl, rfl, ⟨eF, aZ.refl _, trivial⟩⟩ ?_
    obtain rfl := oI h0
    exact aH (bB (Q_r hO))
  refine bP ?_
  refine bG [(0, (eL aK l0))] ?_
  refine aP ?_
  refine aT aF 5 ?_
  refine bO 3 ?_
  obtain ⟨c6, h0⟩ := bK h0
  refine FO 3 40 (wR ((2 : Int) * (lN l0))) (by kernel_rfl) (by kernel_rfl) c6 hO ?_
  intro lo7 H hO
  refine bF ?_
  refine bS [] [(4, (.msl 3 lo7 0 (List.length ([] : List aD))))] ?_
  refine cU (fun T H => ∃ out4 : List aD, ∃ lo8 : Nat, Has T [(4, (.msl 3 lo8 0 (List.length out4)))] ∧ aM ⟨H0, [], []⟩ H [(lo8, 3, List.map aE out4)] ∧ rZ out4 = some r) ?_ ?_
  · clear hO h0
    rintro T H ⟨out4, lo8, hT, hO, h0⟩
    refine bD hT ?_
    clear hT
    unfold rZ at h0
    refine aP ?_
    refine aT aF 6 ?_
    refine AY (e := aE) out4 0 4 3 lo8 (List.length out4) [] (by kernel_rfl) hO (by kernel_rfl) (by kernel_rfl) (by kernel_rfl) (by kernel_rfl) ?_
    intro H hO
    refine bO 1 ?_
    obtain ⟨x9, hx10, h0⟩ := aY h0
    refine cI (RB out4 _ hx10) hO ?_
    intro H hO
    refine bF ?_
    refine bG [(2, (eL aE x9.1)), (3, (eI x9.2))] ?_
    refine bM ?_
    obtain rfl := oI h0
    exact aH (Q_r hO)
  refine aX aF 3 [0] [(16, (eL aK l0)), (17, (eI (lN l0))), (18, (eI (0 : Int)))] ?_
  refine bR 0 ?_
  refine cR [(4, (.msl 3 lo7 0 (List.length ([] : List aD)))), (16, (eL aK l0)), (17, (eI (lN l0))), (18, (eI (0 : Int)))] ?_
  refine cK (fun T H => ∃ out4 : List aD, ∃ t16 : (List aR), ∃ t17 : Int, ∃ t18 : Int, ∃ lo13 : Nat, Has T [(4, (.msl 3 lo13 0 (List.length out4))), (16, (eL aK t16)), (17, (eI t17)), (18, (eI t18))] ∧ aM ⟨H0, [], []⟩ H [(lo13, 3, List.map aE out4)] ∧ vR out4 t16 t17 t18 = some r) ?_ ⟨([] : List aD), l0, (lN l0), (0 : Int), lo7, .eq (by kernel_rfl), hO, h0⟩
  clear hO h0
  rintro T H ⟨out4, t16, t17, t18, lo13, hT, hO, h0⟩
  refine bD hT ?_
  clear hT
  unfold vR at h0
  obtain ⟨rr0, hl0, h0⟩ := aY h0
  refine cB (by kernel_rfl) (fun (s : List aD × Int) T H => ∃ lo13 : Nat, Has T [(4, (.msl 3 lo13 0 (List.length s.1))), (16, (eL aK t16)), (17, (eI t17)), (18, (eI s.2))] ∧ aM ⟨H0, [], []⟩ H [(lo13, 3, List.map aE s.1)]) hl0 ⟨lo13, .eq (by kernel_rfl), hO⟩ ?_
  clear hO
  rintro k0 s out1 T H ⟨lo13, hT, hO⟩ h1 ho0
  obtain ⟨out4, t18⟩ := s
  replace h1 : mT t16 t17 out4 t18 = some out1 := h1
  try dsimp only at hT
  refine bD hT ?_
  clear hT
  unfold mT at h1
  refine aX aF 1 [] [(19, (aJ (decide (t18 < t17))))] ?_
  refine aP ?_
  refine bN h1 (fun h1 => ?_) (fun h1 => ?_)
  · refine bP ?_
    refine bG [(4, (.msl 3 lo13 0 (List.length out4))), (16, (eL aK t16)), (17, (eI t17)), (18, (eI t18))] ?_
    refine aP ?_
    refine bR 1 ?_
    refine aP ?_
    refine aT aF 4 ?_
    obtain ⟨c15, h1⟩ := bK h1
    refine oS 2 [0 ≤ t18 ∧ t18 < (lN t16)] ⟨c15, trivial⟩ ?_
    refine rI 3 (.agg [(.sl true 0 (fun _ => .bad)), (eI 0), (eI 0)]) (aK (aR.mk ([]) (aQ.mk 0 0))) (by kernel_rfl) (by kernel_rfl) (by kernel_rfl) (FE (xs := [(.sl true 0 (fun _ => .bad)), (eI 0), (eI 0)]) (ys := [(eL aL ([])), (eI 0), (eI 0)]) ⟨eF, aZ.refl _, aZ.refl _, trivial⟩) (by kernel_rfl) (by kernel_rfl) hO ?_
    intro lo16 H hO
    refine iY 1 lo16 3 0 (aK (aR.mk ([]) (aQ.mk 0 0))) (aK (gD t16 t18)) [(aK (aR.mk ([]) (aQ.mk 0 0)))] [(lo13, 3, List.map aE out4), (lo16, 3, [(aK (gD t16 t18))])] hO rfl (by kernel_rfl) ?_
    intro H hO
    refine cJ ?_
    refine bS [] [(6, (.lp lo16 0 0))] ?_
    refine aT aF 16 ?_
    refine bO 2 ?_
    refine kC 1 lo16 3 0 (aK (gD t16 t18)) (eL aL ((gD t16 t18).Row)) [(aK (gD t16 t18))] hO rfl ?_
    refine bO 5 ?_
    refine kC 1 lo16 3 0 (aK (gD t16 t18)) (eI (((gD t16 t18).Span).From)) [(aK (gD t16 t18))] hO rfl ?_
    refine bO 8 ?_
    refine kC 1 lo16 3 0 (aK (gD t16 t18)) (eL aL ((gD t16 t18).Row)) [(aK (gD t16 t18))] hO rfl ?_
    refine bO 11 ?_
    refine kC 1 lo16 3 0 (aK (gD t16 t18)) (eI (((gD t16 t18).Span).To)) [(aK (gD t16 t18))] hO rfl ?_
    refine bO 13 ?_
    refine pL (xs := [(aE (aD.mk ((gD t16 t18).Row) (((gD t16 t18).Span).From) (1 : Int))), (aE (aD.mk ((gD t16 t18).Row) (((gD t16 t18).Span).To) (-1 : Int)))]) (k := 3) (by kernel_rfl) (by kernel_rfl) ?_
    obtain ⟨c18, h1⟩ := bK h1
    refine xM (e := aE) out4 ([aD.mk ((gD t16 t18).Row) (((gD t16 t18).Span).From) (1 : Int), aD.mk ((gD t16 t18).Row) (((gD t16 t18).Span).To) (-1 : Int)]) 0 lo13 3 40 (dY [(aE (aD.mk ((gD t16 t18).Row) (((gD t16 t18).Span).From) (1 : Int))), (aE (aD.mk ((gD t16 t18).Row) (((gD t16 t18).Span).To) (-1 : Int)))]) (fun lo17 => [(lo17, 3, List.map aE (out4 ++ ([aD.mk ((gD t16 t18).Row) (((gD t16 t18).Span).From) (1 : Int), aD.mk ((gD t16 t18).Row) (((gD t16 t18).Span).To) (-1 : Int)]))), (lo16, 3, [(aK (gD t16 t18))])]) (by kernel_rfl) (by kernel_rfl) hO (by kernel_rfl) (by kernel_rfl) c18 (fun _ => by kernel_rfl) ?_
    intro lo17 H hO
    refine bF ?_
    refine cX [(4, (.msl 3 lo17 0 (List.length (out4 ++ ([aD.mk ((gD t16 t18).Row) (((gD t16 t18).Span).From) (1 : Int), aD.mk ((gD t16 t18).Row) (((gD t16 t18).Span).To) (-1 : Int)]))))), (16, (eL aK t16)), (17, (eI t17)), (18, (eI t18))] ?_
    replace hO := hO.pick (L' := [(lo17, 3, List.map aE (out4 ++ ([aD.mk ((gD t16 t18).Row) (((gD t16 t18).Span).From) (1 : Int), aD.mk ((gD t16 t18).Row) (((gD t16 t18).Span).To) (-1 : Int)])))]) [0] (by decide) (by kernel_rfl)
    refine aH (aV (aG (?_)))
    refine aT aF 2 ?_
    refine bF ?_
    exact aH (aG (⟨rfl, _, (oI h1).symm, _, .eq (by kernel_rfl), hO⟩))
  refine dJ 0 ?_
  obtain rfl := oI h1
  obtain rfl : _ = rr0 := ho0
  replace h0 : rZ out4 = some r := h0
  exact aH (aU (aU (bQ (aG (⟨rfl, _, _, .eq (by kernel_rfl), hO, h0⟩)))))

theorem GG (l0 : (List aD)) (holds1_f : Nat) (holds1_a holds1_c : List V) (tV : (List aB) → Option Bool) (holds1_h : ∀ a0 r, tV a0 = some r → bW Try.prog holds1_f (holds1_a ++ [(eL aC a0)] ++ holds1_c) (aJ r)) (r : Bool) (h0 : sK l0 tV = some r) : bW Try.prog 88 [(eL aE l0), (.fn (.func holds1_f) holds1_a holds1_c)] (aJ r) := by
  intro H0
  refine BV aF Try.func88 (by kernel_rfl) (by kernel_rfl) (by kernel_rfl) ?_
  have hO := aM.start H0
  unfold sK at h0
  refine aP ?_
  refine aT aF 2 ?_
  refine gP 1 (.fn (.func holds1_f) holds1_a holds1_c) (by kernel_rfl) (by kernel_rfl) ?_
  refine mG 1 (aJ false) (by kernel_rfl) (by kernel_rfl) hO ?_
  intro lo1 H hO
  refine cJ ?_
  refine bS [1] [(3, (.rp (.fn (.func holds1_f) holds1_a holds1_c))), (4, (.lp lo1 0 0))] ?_
  refine aP ?_
  refine aX aF 3 [] [(11, (aJ (decide ((4096 : Int) < (lN l0)))))] ?_
  refine bN h0 (fun h0 => ?_) (fun h0 => ?_)
  · refine aP ?_
    refine aT aF 1 ?_
    refine iY 0 lo1 1 0 (aJ false) (aJ false) [(aJ false)] [(lo1, 1, [(aJ false)])] hO rfl (by kernel_rfl) ?_
    intro H hO
    refine cJ ?_
    refine bG [(4, (.lp lo1 0 0))] ?_
    refine bM ?_
    obtain rfl := oI h0
    exact aH (bB (QM0 (.inr rfl) (rs := [.cell 4 4]) (xs := [(aJ false)]) (x := (aJ false)) (by kernel_rfl) (wE (lo := lo1) (k := 1) (y := (aJ false)) (x := (aJ false)) 0 hO (by kernel_rfl) (by kernel_rfl) (by kernel_rfl) (by kernel_rfl) qO) (by kernel_rfl) ⟨rfl, hO.out⟩))
  refine bP ?_
  refine bG [(0, (eL aE l0)), (3, (.rp (.fn (.func holds1_f) holds1_a holds1_c))), (4, (.lp lo1 0 0))] ?_
  refine aP ?_
  refine aT aF 1 ?_
  refine rI 1 (.sl true 0 (fun _ => .bad)) (eL aL ([])) (by kernel_rfl) (by kernel_rfl) (by kernel_rfl) (eF) (by kernel_rfl) (by kernel_rfl) hO ?_
  intro lo3 H hO
  refine cJ ?_
  refine bS [] [(5, (.lp lo3 0 0))] ?_
  refine aP ?_
  refine aT aF 2 ?_
  refine mG 1 (aJ false) (by kernel_rfl) (by kernel_rfl) hO ?_
  intro lo4 H hO
  refine iY 2 lo4 1 0 (aJ false) (aJ false) [(aJ false)] [(lo1, 1, [(aJ false)]), (lo3, 1, [(eL aL ([]))]), (lo4, 1, [(aJ false)])] hO rfl (by kernel_rfl) ?_
  intro H hO
  refine cJ ?_
  refine bS [] [(6, (.lp lo4 0 0))] ?_
  refine aP ?_
  refine aP ?_
  refine aT aF 2 ?_
  refine bO 1 ?_
  obtain ⟨x5, hx6, h0⟩ := aY h0
  refine cI (BM l0 _ hx6) hO ?_
  intro H hO
  refine cJ ?_
  refine bS [0] [(13, (.fn (.func 131) [] [(.rp (eL aE x5))]))] ?_
  refine bR 0 ?_
  refine cR [(3, (.rp (.fn (.func holds1_f) holds1_a holds1_c))), (4, (.lp lo1 0 0)), (5, (.lp lo3 0 0)), (6, (.lp lo4 0 0)), (13, (.fn (.func 131) [] [(.rp (eL aE x5))]))] ?_
  refine cK (fun T H => ∃ t4 : Bool, ∃ nZ : (List aI), ∃ iW : Bool, ∃ kA : (List aD), Has T [(3, (.rp (.fn (.func holds1_f) holds1_a holds1_c))), (4, (.lp lo1 0 0)), (5, (.lp lo3 0 0)), (6, (.lp lo4 0 0)), (13, (.fn (.func 131) [] [(.rp (eL aE kA))]))] ∧ aM ⟨H0, [], []⟩ H [(lo1, 1, [(aJ t4)]), (lo3, 1, [(eL aL nZ)]), (lo4, 1, [(aJ iW)])] ∧ xC tV t4 nZ iW kA = some r) ?_ ⟨false, [], false, x5, .eq (by kernel_rfl), hO, h0⟩
  clear hO h0
  rintro T H ⟨t4, nZ, iW, kA, hT, hO, h0⟩
  refine bD (l := [(3, (.rp (.fn (.func holds1_f) holds1_a holds1_c))), (4, (.lp lo1 0 0)), (5, (.lp lo3 0 0)), (6, (.lp lo4 0 0)), (13, (.fn (.func 131) [] [(.rp (eL aE kA))]))]) hT ?_
  clear hT
  unfold xC at h0
  obtain ⟨o0, hl0, h0⟩ := aY h0
  refine AD (fid := 131) (ys := []) (cs := [(.rp (eL aE kA))]) #[14, 15] (fun (A : xU) (b lL : Nat) (st : (Bool × (List aI) × Bool) ⊕ (Bool × (List aI) × Bool)) (G' : Gs) => Sum.elim (fun (s : Bool × (List aI) × Bool) => G' = (lL, .raw (jM b A .ready none)) :: (up [(lo1, 1, [(aJ s.1)]), (lo3, 1, [(eL aL s.2.1)]), (lo4, 1, [(aJ s.2.2)])] ++ [])) (fun (s : Bool × (List aI) × Bool) => G' = (lL, .raw (jM b A .done (some .ret))) :: (up [(lo1, 1, [(aJ s.1)]), (lo3, 1, [(eL aL s.2.1)]), (lo4, 1, [(aJ s.2.2)])] ++ [])) st) (.inl (t4, nZ, iW)) o0 (.tup []) (by kernel_rfl) (by kernel_rfl) (by kernel_rfl) hO (fun _ _ => rfl) ?_ ?_
  · intro b lL
    clear hO h0
    refine xA _ b (fun st t14 t15 => rnd (fun (s : Bool × (List aI) × Bool) => oT tV kA s.1 s.2.1 s.2.2 t14 t15) st) ?_ kA _ _ hl0
    intro st t14 t15 out1 rr hr
    obtain ⟨s, rfl, h1, rfl⟩ := PM hr
    clear hr
    intro Hr Gr hi hg
    obtain ⟨t4, nZ, iW⟩ := s
    dsimp only [Sum.elim_inl] at hi
    obtain rfl := hi
    replace h1 : oT tV kA t4 nZ iW t14 t15 = some out1 := h1
    unfold oT at h1
    obtain ⟨E1, hE, hO⟩ := uV hg
    refine uU (AJ (hO.gm 0 _ rfl).2 (by kernel_rfl) (by kernel_rfl) ?_)
    refine cR [(3, (.rp (.fn (.func holds1_f) holds1_a holds1_c))), (4, (.lp lo1 0 0)), (5, (.lp lo3 0 0)), (6, (.lp lo4 0 0)), (13, (.fn (.func 131) [] [(.rp (eL aE kA))])), (14, (eL aL t14)), (15, (eL aC t15))] ?_
    refine aX aF 1 [13, 14] [(7, (eL aL t14))] ?_
    refine aT aF 1 ?_
    refine bF ?_
    refine cX [(3, (.rp (.fn (.func holds1_f) holds1_a holds1_c))), (4, (.lp lo1 0 0)), (5, (.lp lo3 0 0)), (6, (.lp lo4 0 0)), (7, (eL aL t14)), (8, (eL aC t15))] ?_
    refine aH (⟨rfl, rfl, (hO.gm 0 _ rfl).2, ?_⟩)
    intro o1 ho1
    replace hO := hO.uP o1
    refine bR 1 ?_
    refine aP ?_
    refine aP ?_
    refine aT aF 18 ?_
    refine bO 1 ?_
    obtain ⟨x7, hx8, h1⟩ := aY h1
    refine cI (yM t14 _ hx8) hO ?_
    intro H hO
    refine bO 4 ?_
    refine xO [(19, false)] 2 lo4 1 0 (aJ iW) (aJ iW) [(aJ iW)] (by kernel_rfl) (by kernel_rfl) hO (by kernel_rfl) (!(!x7)) (by kernel_rfl) (fun hb10 => rfl) ?_
    refine bO 6 ?_
    refine xO [(21, true), (19, false)] 1 lo3 1 0 (eL aL nZ) (eL aL nZ) [(eL aL nZ)] (by kernel_rfl) (by kernel_rfl) hO (by kernel_rfl) (iW && (!(!x7))) (by kernel_rfl) (fun hb11 => rfl) ?_
    refine bO 8 ?_
    obtain ⟨x12, hx13, h1⟩ := aY h1
    refine iZ [(21, true), (19, false)] 63 [(eL aL nZ), (eL aL t14)] (eI x12) (iW && (!(!x7))) (by kernel_rfl) (by kernel_rfl) (by kernel_rfl) (fun hb14 => (DX nZ t14 _ (lE hx13 hb14))) hO ?_
    intro H hO
    refine bO 15 ?_
    obtain ⟨x15, hx16, h1⟩ := aY h1
    refine iZ [(28, false)] holds1_f (holds1_a ++ [(eL aC t15)] ++ holds1_c) (aJ x15) (!((!x7) || (iW && (decide ((0 : Int) ≤ x12))))) (by kernel_rfl) (by kernel_rfl) (by kernel_rfl) (fun hb17 => (holds1_h t15 _ (lE hx16 hb17))) hO ?_
    intro H hO
    refine bF ?_
    refine bS [3, 8] [(33, (aJ (((!x7) || (iW && (decide ((0 : Int) ≤ x12)))) || (!x15))))] ?_
    refine bN h1 (fun h1 => ?_) (fun h1 => ?_)
    · refine aP ?_
      refine aT aF 1 ?_
      refine iY 0 lo1 1 0 (aJ t4) (aJ false) [(aJ t4)] [(lo1, 1, [(aJ false)]), (lo3, 1, [(eL aL nZ)]), (lo4, 1, [(aJ iW)])] hO rfl (by kernel_rfl) ?_
      intro H hO
      refine cJ ?_
      refine bS [7, 33] [] ?_
      refine bM ?_
      refine cX [(4, (.lp lo1 0 0)), (5, (.lp lo3 0 0)), (6, (.lp lo4 0 0))] ?_
      obtain rfl := oI h1
      exact aH (bB (bU (⟨(fS hO hE ho1 .dead).1, rfl, _, rfl, (fS hO hE ho1 _).2⟩)))
    refine bP ?_
    refine bG [(4, (.lp lo1 0 0)), (5, (.lp lo3 0 0)), (6, (.lp lo4 0 0)), (7, (eL aL t14))] ?_
    refine aT aF 3 ?_
    refine bO 1 ?_
    refine iY 1 lo3 1 0 (eL aL nZ) (eL aL t14) [(eL aL nZ)] [(lo1, 1, [(aJ t4)]), (lo3, 1, [(eL aL t14)]), (lo4, 1, [(aJ iW)])] hO rfl (by kernel_rfl) ?_
    intro H hO
    refine iY 2 lo4 1 0 (aJ iW) (aJ true) [(aJ iW)] [(lo1, 1, [(aJ t4)]), (lo3, 1, [(eL aL t14)]), (lo4, 1, [(aJ true)])] hO rfl (by kernel_rfl) ?_
    intro H hO
    refine cJ ?_
    refine cX [(4, (.lp lo1 0 0)), (5, (.lp lo3 0 0)), (6, (.lp lo4 0 0))] ?_
    obtain rfl := oI h1
    exact aH (aV (⟨(fS hO hE ho1 .dead).1, rfl, _, rfl, (fS hO hE ho1 _).2⟩))
  · intro b lD19 lL H' G' hi hO
    rcases o0 with s | s
    · dsimp only [Sum.elim_inl] at hi
      obtain rfl := hi
      replace h0 : (some true) = some r := h0
      obtain ⟨hlL, hO⟩ := pN hO
      refine ⟨_, _, hlL, (by intro e; cases e), ?_⟩
      refine cX [(4, (.lp lo1 0 0))] ?_
      replace hO := hO.pick (L' := [(lo1, 1, [(aJ s.1)])]) [0] (by decide) (by kernel_rfl)
      refine aH (aV (aG (?_)))
      refine aP ?_
      refine aT aF 1 ?_
      refine iY 0 lo1 1 0 (aJ s.1) (aJ true) [(aJ s.1)] [(lo1, 1, [(aJ true)])] hO rfl (by kernel_rfl) ?_
      intro H hO
      refine cJ ?_
      refine bG [(4, (.lp lo1 0 0))] ?_
      refine bM ?_
      obtain rfl := oI h0
      have hD := (hO.gm 0 _ rfl).2
      replace hO := (hO.uP .dead).uC
      exact aH (QM1 (.inr rfl) hD (rs := [.cell 4 4]) (xs := [(aJ true)]) (x := (aJ true)) (by kernel_rfl) (wE (lo := lo1) (k := 1) (y := (aJ true)) (x := (aJ true)) 0 hO (by kernel_rfl) (by kernel_rfl) (by kernel_rfl) (by kernel_rfl) qO) (by kernel_rfl) ⟨rfl, hO.out⟩)
    · dsimp only [Sum.elim_inr] at hi
      obtain rfl := hi
      replace h0 : (some s.1) = some r := h0
      obtain ⟨hlL, hO⟩ := pN hO
      refine ⟨_, _, hlL, (by intro e; cases e), ?_⟩
      refine bM ?_
      replace hO := hO.pick (L' := [(lo1, 1, [(aJ s.1)])]) [0] (by decide) (by kernel_rfl)
      obtain rfl := oI h0
      have hD := (hO.gm 0 _ rfl).2
      replace hO := (hO.uP .dead).uC
      exact aH (bU (bB (QM1 (.inr rfl) hD (rs := [.cell 4 4]) (xs := [(aJ s.1)]) (x := (aJ s.1)) (by kernel_rfl) (wE (lo := lo1) (k := 1) (y := (aJ s.1)) (x := (aJ s.1)) 0 hO (by kernel_rfl) (by kernel_rfl) (by kernel_rfl) (by kernel_rfl) qO) (by kernel_rfl) ⟨rfl, hO.out⟩)))

theorem JF (l0 : (List aD)) (r : Bool) (h0 : uB l0 = some r) : bW Try.prog 49 [(eL aE l0)] (aJ r) := by
  intro H0
  refine cH Try.func49 ?_
  have hO := aM.start H0
  unfold uB at h0
  refine aX aF 1 [] [] ?_
  refine aP ?_
  refine aT aF 3 ?_
  refine bO 1 ?_
  obtain ⟨x1, hx2, h0⟩ := aY h0
  refine cI (GG l0 68 [] [] (fun y0 => nL y0) (fun y0 r h => wP y0 r h) _ hx2) hO ?_
  intro H hO
  refine bF ?_
  refine bG [(2, (aJ x1))] ?_
  refine bM ?_
  obtain rfl := oI h0
  exact aH (Q_r hO)

theorem FI (f0 : (List aB)) (r : Int) (h0 : qD f0 = some r) : bW Try.prog 69 [(eL aC f0)] (eI r) := by
  intro H0
  refine cH Try.func69 ?_
  have hO := aM.start H0
  unfold qD at h0
  refine aX aF 1 [] [] ?_
  refine aP ?_
  refine aP ?_
  refine aT aF 8 ?_
  refine bO 1 ?_
  obtain ⟨x1, hx2, h0⟩ := aY h0
  refine cI (wP f0 _ hx2) hO ?_
  intro H hO
  refine bF ?_
  refine bS [] [(14, (aJ ((!x1) || (decide ((lN f0) = (0 : Int))))))] ?_
  refine bN h0 (fun h0 => ?_) (fun h0 => ?_)
  · refine bV aF 1 [(2, (eI (0 : Int)))] ?_
    refine bM ?_
    obtain rfl := oI h0
    exact aH (bB (Q_r hO))
  refine bP ?_
  refine bG [(0, (eL aC f0))] ?_
  refine aX aF 2 [] [(3, (eI (0 : Int))), (4, (eI (0 : Int)))] ?_
  refine cU (fun T H => ∃ v3 : Int, ∃ fD : Int, Has T [(0, (eL aC f0)), (3, (eI v3)), (4, (eI fD))] ∧ aM ⟨H0, [], []⟩ H [] ∧ pI f0 v3 fD = some r) ?_ ?_
  · clear hO h0
    rintro T H ⟨v3, fD, hT, hO, h0⟩
    refine bD hT ?_
    clear hT
    unfold pI at h0
    refine cU (fun T H => ∃ fD : Int, Has T [(4, (eI fD))] ∧ aM ⟨H0, [], []⟩ H [] ∧ rY fD = some r) ?_ ?_
    · clear hO h0
      rintro T H ⟨fD, hT, hO, h0⟩
      refine bD hT ?_
      clear hT
      unfold rY at h0
      refine bV aF 2 [(2, (eI fD))] ?_
      refine bM ?_
      obtain rfl := oI h0
      exact aH (Q_r hO)
    refine aX aF 3 [0] [(24, (eL aC f0)), (25, (eI (lN f0))), (26, (eI (0 : Int)))] ?_
    refine bR 0 ?_
    refine cR [(3, (eI v3)), (4, (eI fD)), (24, (eL aC f0)), (25, (eI (lN f0))), (26, (eI (0 : Int)))] ?_
    refine cK (fun T H => ∃ v3 : Int, ∃ fD : Int, ∃ t24 : (List aB), ∃ t25 : Int, ∃ t26 : Int, Has T [(3, (eI v3)), (4, (eI fD)), (24, (eL aC t24)), (25, (eI t25)), (26, (eI t26))] ∧ aM ⟨H0, [], []⟩ H [] ∧ rN v3 fD t24 t25 t26 = some r) ?_ ⟨v3, fD, f0, (lN f0), (0 : Int), .eq (by kernel_rfl), hO, h0⟩
    clear hO h0
    rintro T H ⟨v3, fD, t24, t25, t26, hT, hO, h0⟩
    refine bD hT ?_
    clear hT
    unfold rN at h0
    obtain ⟨rr0, hl0, h0⟩ := aY h0
    refine cB (by kernel_rfl) (fun (s : Int × Int × Int) T H => Has T [(3, (eI s.1)), (4, (eI s.2.1)), (24, (eL aC t24)), (25, (eI t25)), (26, (eI s.2.2))] ∧ aM ⟨H0, [], []⟩ H []) hl0 ⟨.eq (by kernel_rfl), hO⟩ ?_
    clear hO
    rintro k0 s out1 T H ⟨hT, hO⟩ h1 ho0
    obtain ⟨v3, fD, t26⟩ := s
    replace h1 : mS t24 t25 v3 fD t26 = some out1 := h1
    try dsimp only at hT
    refine bD hT ?_
    clear hT
    unfold mS at h1
    refine aX aF 1 [] [(27, (aJ (decide (t26 < t25))))] ?_
    refine aP ?_
    refine bN h1 (fun h1 => ?_) (fun h1 => ?_)
    · refine bP ?_
      refine bG [(3, (eI v3)), (4, (eI fD)), (24, (eL aC t24)), (25, (eI t25)), (26, (eI t26))] ?_
      refine aP ?_
      refine bR 1 ?_
      refine aP ?_
      refine aT aF 4 ?_
      obtain ⟨c6, h1⟩ := bK h1
      refine oS 2 [0 ≤ t26 ∧ t26 < (lN t24)] ⟨c6, trivial⟩ ?_
      refine mG 2 (aC (aB.mk 0 0)) (by kernel_rfl) (by kernel_rfl) hO ?_
      intro lo7 H hO
      refine iY 0 lo7 2 0 (aC (aB.mk 0 0)) (aC (gD t24 t26)) [(aC (aB.mk 0 0))] [(lo7, 2, [(aC (gD t24 t26))])] hO rfl (by kernel_rfl) ?_
      intro H hO
      refine cJ ?_
      refine bS [] [(6, (.lp lo7 0 0))] ?_
      refine aP ?_
      refine aT aF 5 ?_
      refine bO 2 ?_
      refine kC 0 lo7 2 0 (aC (gD t24 t26)) (eI ((gD t24 t26).Net)) [(aC (gD t24 t26))] hO rfl ?_
      refine bF ?_
      replace hO := hO.pick (L' := []) [] (by decide) (by kernel_rfl)
      refine bS [3, 6] [(3, (eI (wR (v3 + ((gD t24 t26).Net)))))] ?_
      refine aT aF 4 ?_
      refine bF ?_
      refine cX [(3, (eI (wR (v3 + ((gD t24 t26).Net))))), (4, (eI (if (wR (v3 + ((gD t24 t26).Net))) < fD then (wR (v3 + ((gD t24 t26).Net))) else fD))), (24, (eL aC t24)), (25, (eI t25)), (26, (eI t26))] ?_
      refine aH (aV (aG (?_)))
      refine aT aF 2 ?_
      refine bF ?_
      exact aH (aG (⟨rfl, _, (oI h1).symm, .eq (by kernel_rfl), hO⟩))
    refine dJ 0 ?_
    obtain rfl := oI h1
    obtain rfl : _ = rr0 := ho0
    replace h0 : rY fD = some r := h0
    exact aH (aU (aU (bQ (aG (⟨rfl, _, .eq (by kernel_rfl), hO, h0⟩)))))
  refine aP ?_
  refine aT aF 5 ?_
  obtain ⟨c8, h0⟩ := bK h0
  refine rG [0 ≤ (0 : Int) ∧ (0 : Int) < (lN f0)] ⟨c8, trivial⟩ ?_
  refine bS [] [(19, (aJ (decide (((gD f0 (0 : Int)).At) = (-1 : Int)))))] ?_
  refine bN h0 (fun h0 => ?_) (fun h0 => ?_)
  · refine aT aF 5 ?_
    obtain ⟨c10, h0⟩ := bK h0
    refine rG [0 ≤ (0 : Int) ∧ (0 : Int) < (lN f0)] ⟨c10, trivial⟩ ?_
    exact aH (aG (⟨rfl, _, _, .eq (by kernel_rfl), hO, h0⟩))
  refine bP ?_
  exact aH (aG (⟨rfl, _, _, .eq (by kernel_rfl), hO, h0⟩))

theorem KM (f0 : (List aB)) (r : Bool) (h0 : qE f0 = some r) : bW Try.prog 119 [(eL aC f0)] (aJ r) := by
  intro H0
  refine cH Try.func119 ?_
  have hO := aM.start H0
  unfold qE at h0
  refine aX aF 1 [] [] ?_
  refine aP ?_
  refine aT aF 8 ?_
  refine bO 1 ?_
  obtain ⟨x1, hx2, h0⟩ := aY h0
  refine cI (wP f0 _ hx2) hO ?_
  intro H hO
  refine bO 4 ?_
  obtain ⟨x4, hx5, h0⟩ := aY h0
  refine iZ [(5, true)] 69 [(eL aC f0)] (eI x4) x1 (by kernel_rfl) (by kernel_rfl) (by kernel_rfl) (fun hb6 => (FI f0 _ (lE hx5 hb6))) hO ?_
  intro H hO
  refine bF ?_
  refine bG [(2, (aJ (x1 && (decide ((0 : Int) ≤ x4)))))] ?_
  refine bM ?_
  obtain rfl := oI h0
  exact aH (Q_r hO)

theorem OK (l0 : (List aD)) (r : Bool) (h0 : tO l0 = some r) : bW Try.prog 86 [(eL aE l0)] (aJ r) := by
  intro H0
  refine cH Try.func86 ?_
  have hO := aM.start H0
  unfold tO at h0
  refine aX aF 1 [] [] ?_
  refine aP ?_
  refine aT aF 3 ?_
  refine bO 1 ?_
  obtain ⟨x1, hx2, h0⟩ := aY h0
  refine cI (GG l0 119 [] [] (fun y0 => qE y0) (fun y0 r h => KM y0 r h) _ hx2) hO ?_
  intro H hO
  refine bF ?_
  refine bG [(2, (aJ x1))] ?_
  refine bM ?_
  obtain rfl := oI h0
  exact aH (Q_r hO)

theorem DW (l0 : (List aD)) (r : (List aD)) (h0 : pG l0 = some r) : bW Try.prog 77 [(eL aE l0)] (.fn (.func 117) [] [(.rp (eL aE r))]) := by
  intro H0
  refine cH Try.func77 ?_
  have hO := aM.start H0
  unfold pG at h0
  refine aP ?_
  refine aT aF 2 ?_
  refine gP 1 (eL aE l0) (by kernel_rfl) (by kernel_rfl) ?_
  refine bF ?_
  refine bG [(1, (.rp (eL aE l0)))] ?_
  refine bV aF 2 [(2, (.fn (.func 117) [] [(.rp (eL aE l0))]))] ?_
  refine bM ?_
  obtain rfl := oI h0
  exact aH (pQ (x := (.fn (.func 117) [] [(.rp (eL aE l0))])) (by kernel_rfl) (aZ.refl _) ⟨rfl, hO.out⟩)

theorem zC {σ : Type} (I : σ → Gs → Prop) (yield0_b : Nat) (eJ : σ → (List aI) → (List aB) → Option (σ × Bool)) (yield0_h : ∀ st a0 a1 st2 r, eJ st a0 a1 = some (st2, r) → FQ Try.prog (yv yield0_b) I st [(eL aL a0), (eL aC a1)] st2 (aJ r)) (t1 : (List aD)) (sg0 : σ) (r : σ) (h0 : mK eJ t1 sg0 = some r) : zF Try.prog 117 I sg0 [(yv yield0_b), (.rp (eL aE t1))] r (.tup []) := by
  intro H0 G0 hI hg
  refine BV aF Try.func117 (by kernel_rfl) (by kernel_rfl) (by kernel_rfl) ?_
  obtain ⟨G, hO, hI⟩ : ∃ G, aM ⟨H0, List.map (fun p : Nat × cV => p.1) G0, G⟩ H0 [] ∧ I sg0 G := ⟨G0, aM.IE hg, hI⟩
  clear hg
  unfold mK at h0
  refine aP ?_
  refine aT aF 1 ?_
  refine gP 1 (yv yield0_b) (by kernel_rfl) (by kernel_rfl) ?_
  refine cJ ?_
  refine bS [0] [(2, (.rp (yv yield0_b)))] ?_
  refine aP ?_
  refine aP ?_
  refine aT aF 3 ?_
  refine bO 1 ?_
  obtain ⟨x1, hx2, h0⟩ := aY h0
  refine cI (JF t1 _ hx2) hO ?_
  intro H hO
  refine bF ?_
  refine bS [] [(7, (aJ (!x1)))] ?_
  refine bN h0 (fun h0 => ?_) (fun h0 => ?_)
  · refine bM ?_
    obtain rfl := oI h0
    exact aH (bB (QM0 (.inr rfl) (rs := []) (xs := []) (x := (.tup [])) (by kernel_rfl) qO (by kernel_rfl) ⟨rfl, G, hI, hO.FH⟩))
  refine bP ?_
  refine bG [(1, (.rp (eL aE t1))), (2, (.rp (yv yield0_b)))] ?_
  refine aP ?_
  refine aT aF 2 ?_
  refine bO 1 ?_
  obtain ⟨x5, hx6, h0⟩ := aY h0
  refine cI (BM t1 _ hx6) hO ?_
  intro H hO
  refine cJ ?_
  refine bS [1] [(9, (.fn (.func 131) [] [(.rp (eL aE x5))]))] ?_
  refine bR 0 ?_
  refine cR [(2, (.rp (yv yield0_b))), (9, (.fn (.func 131) [] [(.rp (eL aE x5))]))] ?_
  refine cK (fun T H => ∃ sg : σ, ∃ t9c0 : (List aD), ∃ G : Gs, Has T [(2, (.rp (yv yield0_b))), (9, (.fn (.func 131) [] [(.rp (eL aE t9c0))]))] ∧ aM ⟨H0, List.map (fun p : Nat × cV => p.1) G0, G⟩ H [] ∧ I sg G ∧ pO eJ sg t9c0 = some r) ?_ ⟨sg0, x5, G, .eq (by kernel_rfl), hO, hI, h0⟩
  clear hO hI h0
  rintro T H ⟨sg, t9c0, G, hT, hO, hI, h0⟩
  refine bD (l := [(2, (.rp (yv yield0_b))), (9, (.fn (.func 131) [] [(.rp (eL aE t9c0))]))]) hT ?_
  clear hT
  unfold pO at h0
  obtain ⟨o0, hl0, h0⟩ := aY h0
  refine AD (fid := 131) (ys := []) (cs := [(.rp (eL aE t9c0))]) #[10, 11] (fun (A : xU) (b lL : Nat) (st : (σ) ⊕ (σ)) (G' : Gs) => Sum.elim (fun (s : σ) => ∃ G : Gs, I s G ∧ G' = (lL, .raw (jM b A .ready none)) :: (up [] ++ G)) (fun (s : σ) => ∃ G : Gs, I s G ∧ G' = (lL, .raw (jM b A .done (some .ret))) :: (up [] ++ G)) st) (.inl sg) o0 (.tup []) (by kernel_rfl) (by kernel_rfl) (by kernel_rfl) hO (fun _ _ => ⟨G, hI, rfl⟩) ?_ ?_
  · intro b lL
    clear hO hI h0
    refine xA _ b (fun st t10 t11 => rnd (fun (s : σ) => jH eJ t9c0 s t10 t11) st) ?_ t9c0 _ _ hl0
    intro st t10 t11 out1 rr hr
    obtain ⟨s, rfl, h1, rfl⟩ := PM hr
    clear hr
    intro Hr Gr hi hg
    obtain ⟨sg, rfl⟩ : ∃ x, x = s := ⟨_, rfl⟩
    dsimp only [Sum.elim_inl] at hi
    obtain ⟨G, hI, rfl⟩ := hi
    replace h1 : jH eJ t9c0 sg t10 t11 = some out1 := h1
    unfold jH at h1
    obtain ⟨E1, hE, hO⟩ := uV hg
    refine uU (AJ (hO.gm 0 _ rfl).2 (by kernel_rfl) (by kernel_rfl) ?_)
    refine cR [(2, (.rp (yv yield0_b))), (9, (.fn (.func 131) [] [(.rp (eL aE t9c0))])), (10, (eL aL t10)), (11, (eL aC t11))] ?_
    refine aX aF 1 [9, 10] [(3, (eL aL t10))] ?_
    refine aT aF 1 ?_
    refine bF ?_
    refine cX [(2, (.rp (yv yield0_b))), (3, (eL aL t10)), (4, (eL aC t11))] ?_
    refine aH (⟨rfl, rfl, (hO.gm 0 _ rfl).2, ?_⟩)
    intro o1 ho1
    replace hO := hO.uP o1
    refine bR 1 ?_
    refine aP ?_
    refine aT aF 5 ?_
    refine bO 3 ?_
    obtain ⟨x7, hx8, h1⟩ := aY h1
    refine YK (I := I) (yv yield0_b) [(eL aL t10), (eL aC t11)] (aJ x7.2) (by kernel_rfl) (by kernel_rfl) (yield0_h _ t10 t11 x7.1 x7.2 hx8) hO hI ?_
    intro G H hO hI
    refine bF ?_
    refine bG [(16, (aJ (!x7.2)))] ?_
    refine bN h1 (fun h1 => ?_) (fun h1 => ?_)
    · refine bM ?_
      refine cX [] ?_
      obtain rfl := oI h1
      exact aH (bU (⟨(fS hO hE ho1 .dead).1, rfl, _, ⟨G, hI, rfl⟩, (fS hO hE ho1 _).2⟩))
    refine bP ?_
    refine cX [] ?_
    obtain rfl := oI h1
    exact aH (aV (⟨(fS hO hE ho1 .dead).1, rfl, _, ⟨G, hI, rfl⟩, (fS hO hE ho1 _).2⟩))
  · intro b lD10 lL H' G' hi hO
    rcases o0 with s | s
    · dsimp only [Sum.elim_inl] at hi
      obtain ⟨G, hI, rfl⟩ := hi
      replace h0 : (some s) = some r := h0
      obtain ⟨hlL, hO⟩ := pN hO
      refine ⟨_, _, hlL, (by intro e; cases e), ?_⟩
      obtain rfl := oI h0
      have hD := (hO.gm 0 _ rfl).2
      replace hO := (hO.uP .dead).uC
      exact aH (aV (QM1 (.inl rfl) hD (rs := []) (xs := []) (x := (.tup [])) (by kernel_rfl) qO (by kernel_rfl) ⟨rfl, G, hI, hO.FH⟩))
    · dsimp only [Sum.elim_inr] at hi
      obtain ⟨G, hI, rfl⟩ := hi
      replace h0 : (some s) = some r := h0
      obtain ⟨hlL, hO⟩ := pN hO
      refine ⟨_, _, hlL, (by intro e; cases e), ?_⟩
      refine bM ?_
      obtain rfl := oI h0
      have hD := (hO.gm 0 _ rfl).2
      replace hO := (hO.uP .dead).uC
      exact aH (bU (QM1 (.inr rfl) hD (rs := []) (xs := []) (x := (.tup [])) (by kernel_rfl) qO (by kernel_rfl) ⟨rfl, G, hI, hO.FH⟩))

theorem BD (f0 : (List aB)) (r : Int) (h0 : oF f0 = some r) : bW Try.prog 70 [(eL aC f0)] (eI r) := by
  intro H0
  refine cH Try.func70 ?_
  have hO := aM.start H0
  unfold oF at h0
  refine aX aF 1 [] [] ?_
  refine aX aF 1 [] [(3, (eI (0 : Int)))] ?_
  refine cU (fun T H => ∃ n3 : Int, Has T [(3, (eI n3))] ∧ aM ⟨H0, [], []⟩ H [] ∧ tQ n3 = some r) ?_ ?_
  · clear hO h0
    rintro T H ⟨n3, hT, hO, h0⟩
    refine bD hT ?_
    clear hT
    unfold tQ at h0
    refine bV aF 2 [(2, (eI n3))] ?_
    refine bM ?_
    obtain rfl := oI h0
    exact aH (Q_r hO)
  refine aX aF 3 [0] [(6, (eL aC f0)), (7, (eI (lN f0))), (8, (eI (0 : Int)))] ?_
  refine bR 0 ?_
  refine cR [(3, (eI (0 : Int))), (6, (eL aC f0)), (7, (eI (lN f0))), (8, (eI (0 : Int)))] ?_
  refine cK (fun T H => ∃ n3 : Int, ∃ t6 : (List aB), ∃ t7 : Int, ∃ t8 : Int, Has T [(3, (eI n3)), (6, (eL aC t6)), (7, (eI t7)), (8, (eI t8))] ∧ aM ⟨H0, [], []⟩ H [] ∧ wQ n3 t6 t7 t8 = some r) ?_ ⟨(0 : Int), f0, (lN f0), (0 : Int), .eq (by kernel_rfl), hO, h0⟩
  clear hO h0
  rintro T H ⟨n3, t6, t7, t8, hT, hO, h0⟩
  refine bD hT ?_
  clear hT
  unfold wQ at h0
  obtain ⟨rr0, hl0, h0⟩ := aY h0
  refine cB (by kernel_rfl) (fun (s : Int × Int) T H => Has T [(3, (eI s.1)), (6, (eL aC t6)), (7, (eI t7)), (8, (eI s.2))] ∧ aM ⟨H0, [], []⟩ H []) hl0 ⟨.eq (by kernel_rfl), hO⟩ ?_
  clear hO
  rintro k0 s out1 T H ⟨hT, hO⟩ h1 ho0
  obtain ⟨n3, t8⟩ := s
  replace h1 : nM t6 t7 n3 t8 = some out1 := h1
  try dsimp only at hT
  refine bD hT ?_
  clear hT
  unfold nM at h1
  refine aX aF 1 [] [(9, (aJ (decide (t8 < t7))))] ?_
  refine aP ?_
  refine bN h1 (fun h1 => ?_) (fun h1 => ?_)
  · refine bP ?_
    refine bG [(3, (eI n3)), (6, (eL aC t6)), (7, (eI t7)), (8, (eI t8))] ?_
    refine aP ?_
    refine bR 1 ?_
    refine aP ?_
    refine aT aF 4 ?_
    obtain ⟨c2, h1⟩ := bK h1
    refine oS 2 [0 ≤ t8 ∧ t8 < (lN t6)] ⟨c2, trivial⟩ ?_
    refine mG 2 (aC (aB.mk 0 0)) (by kernel_rfl) (by kernel_rfl) hO ?_
    intro lo3 H hO
    refine iY 0 lo3 2 0 (aC (aB.mk 0 0)) (aC (gD t6 t8)) [(aC (aB.mk 0 0))] [(lo3, 2, [(aC (gD t6 t8))])] hO rfl (by kernel_rfl) ?_
    intro H hO
    refine cJ ?_
    refine bS [] [(5, (.lp lo3 0 0))] ?_
    refine aT aF 6 ?_
    refine bO 2 ?_
    refine kC 0 lo3 2 0 (aC (gD t6 t8)) (eI ((gD t6 t8).Net)) [(aC (gD t6 t8))] hO rfl ?_
    refine bF ?_
    refine cX [(3, (eI (wR (n3 + (if (0 : Int) > ((gD t6 t8).Net) then (0 : Int) else ((gD t6 t8).Net)))))), (6, (eL aC t6)), (7, (eI t7)), (8, (eI t8))] ?_
    replace hO := hO.pick (L' := []) [] (by decide) (by kernel_rfl)
    refine aH (aV (aG (?_)))
    refine aT aF 2 ?_
    refine bF ?_
    exact aH (aG (⟨rfl, _, (oI h1).symm, .eq (by kernel_rfl), hO⟩))
  refine dJ 0 ?_
  obtain rfl := oI h1
  obtain rfl : _ = rr0 := ho0
  replace h0 : tQ n3 = some r := h0
  exact aH (aU (aU (bQ (aG (⟨rfl, _, .eq (by kernel_rfl), hO, h0⟩)))))

theorem yP (t0 : Int) (lo1p : Nat) (lo1q : Nat) (t1 : (List aQ)) (lo2p : Nat) (t2 : Int) (r : ((List aQ) × Int)) (h0 : lP t0 t1 t2 = some r) : HU Try.prog 115 [(eI t0), (.lp lo1p 0 0), (.lp lo2p 0 0)] [(lo1p, 1, [(.msl 2 lo1q 0 (List.length t1))]), (lo1q, 2, List.map aW t1), (lo2p, 1, [(eI t2)])] (fun x L => ∃ lo1n : Nat, x = (.tup []) ∧ L = [(lo1p, 1, [(.msl 2 lo1n 0 (List.length r.1))]), (lo1n, 2, List.map aW r.1), (lo2p, 1, [(eI r.2)])]) := by
  intro F H0 hO
  obtain ⟨Fh, Fe, Fg⟩ := F
  refine cH Try.func115 ?_
  unfold lP at h0
  refine aP ?_
  refine aT aF 6 ?_
  refine kC 0 lo1p 1 0 (.msl 2 lo1q 0 (List.length t1)) (.msl 2 lo1q 0 (List.length t1)) [(.msl 2 lo1q 0 (List.length t1))] hO rfl ?_
  refine kC 2 lo2p 1 0 (eI t2) (eI t2) [(eI t2)] hO rfl ?_
  obtain ⟨c1, h0⟩ := bK h0
  refine oS 5 [0 ≤ t2 ∧ t2 < (lN t1)] ⟨c1, trivial⟩ ?_
  refine iY 1 lo1q 2 (0 + Int.toNat t2) (aW (gD t1 t2)) (aW (aQ.mk (gD t1 t2).From t0)) (List.map aW t1) [(lo1p, 1, [(.msl 2 lo1q 0 (List.length t1))]), (lo1q, 2, List.map aW (List.set t1 (Int.toNat t2) (aQ.mk (gD t1 t2).From t0))), (lo2p, 1, [(eI t2)])] hO (cQ c1) (by simp only [List.set, nN]) ?_
  intro H hO
  refine cJ ?_
  replace hO : aM ⟨Fh, Fe, Fg⟩ H [(lo1p, 1, [(.msl 2 lo1q 0 (List.length (List.set t1 (Int.toNat t2) (aQ.mk (gD t1 t2).From t0))))]), (lo1q, 2, List.map aW (List.set t1 (Int.toNat t2) (aQ.mk (gD t1 t2).From t0))), (lo2p, 1, [(eI t2)])] := by simpa only [List.length_set] using hO
  refine bS [0] [] ?_
  refine aT aF 3 ?_
  refine kC 2 lo2p 1 0 (eI t2) (eI t2) [(eI t2)] hO rfl ?_
  refine bO 2 ?_
  refine iY 2 lo2p 1 0 (eI t2) (eI (wR (t2 + (1 : Int)))) [(eI t2)] [(lo1p, 1, [(.msl 2 lo1q 0 (List.length (List.set t1 (Int.toNat t2) (aQ.mk (gD t1 t2).From t0))))]), (lo1q, 2, List.map aW (List.set t1 (Int.toNat t2) (aQ.mk (gD t1 t2).From t0))), (lo2p, 1, [(eI (wR (t2 + (1 : Int))))])] hO rfl (by kernel_rfl) ?_
  intro H hO
  refine cJ ?_
  obtain rfl := oI h0
  exact aH (aBa hO ⟨lo1q, rfl, rfl⟩)

theorem EY (f0 : (List aB)) (r : (List aQ)) (h0 : qL f0 = some r) : bW Try.prog 71 [(eL aC f0)] (eL aW r) := by
  intro H0
  refine cH Try.func71 ?_
  have hO := aM.start H0
  unfold qL at h0
  refine aX aF 1 [] [] ?_
  refine aP ?_
  refine aT aF 5 ?_
  refine bO 1 ?_
  obtain ⟨x1, hx2, h0⟩ := aY h0
  refine cI (BD f0 _ hx2) hO ?_
  intro H hO
  obtain ⟨c4, h0⟩ := bK h0
  refine FO 2 16 x1 (by kernel_rfl) (by kernel_rfl) c4 hO ?_
  intro lo5 H hO
  refine rI 1 (.sl true 0 (fun _ => .bad)) (eL aW ([])) (by kernel_rfl) (by kernel_rfl) (by kernel_rfl) (eF) (by kernel_rfl) (by kernel_rfl) hO ?_
  intro lo6 H hO
  refine iY 1 lo6 1 0 (eL aW ([])) (.msl 2 lo5 0 (List.length ([] : List aQ))) [(eL aW ([]))] [(lo5, 2, List.map aW ([] : List aQ)), (lo6, 1, [(.msl 2 lo5 0 (List.length ([] : List aQ)))])] hO rfl (by kernel_rfl) ?_
  intro H hO
  refine cJ ?_
  replace hO := hO.pick (L' := [(lo6, 1, [(.msl 2 lo5 0 (List.length ([] : List aQ)))]), (lo5, 2, List.map aW ([] : List aQ))]) [1, 0] (by decide) (by kernel_rfl)
  refine bS [] [(3, (.lp lo6 0 0))] ?_
  refine aP ?_
  refine aT aF 2 ?_
  refine mG 1 (eI 0) (by kernel_rfl) (by kernel_rfl) hO ?_
  intro lo7 H hO
  refine iY 2 lo7 1 0 (eI 0) (eI (0 : Int)) [(eI 0)] [(lo6, 1, [(.msl 2 lo5 0 (List.length ([] : List aQ)))]), (lo5, 2, List.map aW ([] : List aQ)), (lo7, 1, [(eI (0 : Int))])] hO rfl (by kernel_rfl) ?_
  intro H hO
  refine cJ ?_
  refine bS [] [(4, (.lp lo7 0 0))] ?_
  refine aX aF 2 [] [(5, (.fn (.func 115) [] [(.lp lo6 0 0), (.lp lo7 0 0)]))] ?_
  refine cU (fun T H => ∃ out3 : List aQ, ∃ cC : Int, ∃ lo8 : Nat, Has T [(3, (.lp lo6 0 0)), (4, (.lp lo7 0 0)), (5, (.fn (.func 115) [] [(.lp lo6 0 0), (.lp lo7 0 0)]))] ∧ aM ⟨H0, [], []⟩ H [(lo6, 1, [(.msl 2 lo8 0 (List.length out3))]), (lo8, 2, List.map aW out3), (lo7, 1, [(eI cC)])] ∧ rV out3 cC = some r) ?_ ?_
  · clear hO h0
    rintro T H ⟨out3, cC, lo8, hT, hO, h0⟩
    refine bD hT ?_
    clear hT
    unfold rV at h0
    refine cU (fun T H => ∃ out3 : List aQ, ∃ lo9 : Nat, Has T [(3, (.lp lo6 0 0))] ∧ aM ⟨H0, [], []⟩ H [(lo6, 1, [(.msl 2 lo9 0 (List.length out3))]), (lo9, 2, List.map aW out3)] ∧ vL out3 = some r) ?_ ?_
    · clear hO h0
      rintro T H ⟨out3, lo9, hT, hO, h0⟩
      refine bD hT ?_
      clear hT
      unfold vL at h0
      refine aP ?_
      refine aT aF 2 ?_
      refine kC 0 lo6 1 0 (.msl 2 lo9 0 (List.length out3)) (.msl 2 lo9 0 (List.length out3)) [(.msl 2 lo9 0 (List.length out3))] hO rfl ?_
      refine bF ?_
      refine cX [(2, (.msl 2 lo9 0 (List.length out3)))] ?_
      replace hO := hO.pick (L' := [(lo9, 2, List.map aW out3)]) [1] (by decide) (by kernel_rfl)
      refine aH (aG (?_))
      refine bM ?_
      refine cX [(2, (.msl 2 lo9 0 (List.length out3)))] ?_
      refine AV (en := aW) out3 0 0 2 2 lo9 (List.length out3) hO (by kernel_rfl) (by kernel_rfl) (by kernel_rfl) (L' := []) (by kernel_rfl) ?_
      intro H10 hO
      obtain rfl := oI h0
      exact aH (Q_r hO)
    refine bR 6 ?_
    refine cR [(3, (.lp lo6 0 0)), (4, (.lp lo7 0 0)), (5, (.fn (.func 115) [] [(.lp lo6 0 0), (.lp lo7 0 0)]))] ?_
    refine cK (fun T H => ∃ out3 : List aQ, ∃ cC : Int, ∃ lo12 : Nat, Has T [(3, (.lp lo6 0 0)), (4, (.lp lo7 0 0)), (5, (.fn (.func 115) [] [(.lp lo6 0 0), (.lp lo7 0 0)]))] ∧ aM ⟨H0, [], []⟩ H [(lo6, 1, [(.msl 2 lo12 0 (List.length out3))]), (lo12, 2, List.map aW out3), (lo7, 1, [(eI cC)])] ∧ vQ out3 cC = some r) ?_ ⟨out3, cC, lo8, .eq (by kernel_rfl), hO, h0⟩
    clear hO h0
    rintro T H ⟨out3, cC, lo12, hT, hO, h0⟩
    refine bD hT ?_
    clear hT
    unfold vQ at h0
    obtain ⟨rr0, hl0, h0⟩ := aY h0
    refine cB (by kernel_rfl) (fun (s : List aQ × Int) T H => ∃ lo12 : Nat, Has T [(3, (.lp lo6 0 0)), (4, (.lp lo7 0 0)), (5, (.fn (.func 115) [] [(.lp lo6 0 0), (.lp lo7 0 0)]))] ∧ aM ⟨H0, [], []⟩ H [(lo6, 1, [(.msl 2 lo12 0 (List.length s.1))]), (lo12, 2, List.map aW s.1), (lo7, 1, [(eI s.2)])]) hl0 ⟨lo12, .eq (by kernel_rfl), hO⟩ ?_
    clear hO
    rintro k0 s out1 T H ⟨lo12, hT, hO⟩ h1 ho0
    obtain ⟨out3, cC⟩ := s
    replace h1 : lG out3 cC = some out1 := h1
    try dsimp only at hT
    refine bD hT ?_
    clear hT
    unfold lG at h1
    refine aP ?_
    refine aP ?_
    refine aT aF 4 ?_
    refine kC 2 lo7 1 0 (eI cC) (eI cC) [(eI cC)] hO rfl ?_
    refine kC 0 lo6 1 0 (.msl 2 lo12 0 (List.length out3)) (.msl 2 lo12 0 (List.length out3)) [(.msl 2 lo12 0 (List.length out3))] hO rfl ?_
    refine bF ?_
    refine bS [] [(43, (aJ (decide (cC < (lN out3)))))] ?_
    refine bN h1 (fun h1 => ?_) (fun h1 => ?_)
    · refine bP ?_
      refine bG [(3, (.lp lo6 0 0)), (4, (.lp lo7 0 0)), (5, (.fn (.func 115) [] [(.lp lo6 0 0), (.lp lo7 0 0)]))] ?_
      refine bR 7 ?_
      refine aT aF 2 ?_
      refine bO 1 ?_
      obtain ⟨x14, hx15, h1⟩ := aY h1
      refine aAv [] [0, 1, 2] (yP (1125899906842624 : Int) lo6 lo12 out3 lo7 cC _ hx15) hO ?_
      intro r17 L18 H hP19 hO
      obtain ⟨lo16, rfl, rfl⟩ := hP19
      replace hO : aM ⟨H0, [], []⟩ H [(lo6, 1, [(.msl 2 lo16 0 (List.length x14.1))]), (lo16, 2, List.map aW x14.1), (lo7, 1, [(eI x14.2)])] := hO
      refine cJ ?_
      exact aH (aV (aG (⟨rfl, _, (oI h1).symm, _, .eq (by kernel_rfl), hO⟩)))
    refine dJ 6 ?_
    replace hO := hO.pick (L' := [(lo6, 1, [(.msl 2 lo12 0 (List.length out3))]), (lo12, 2, List.map aW out3)]) [0, 1] (by decide) (by kernel_rfl)
    obtain rfl := oI h1
    obtain rfl : _ = rr0 := ho0
    replace h0 : vL out3 = some r := h0
    exact aH (aU (aU (bQ (aG (⟨rfl, _, _, .eq (by kernel_rfl), hO, h0⟩)))))
  refine bV aF 3 [(3, (.lp lo6 0 0)), (4, (.lp lo7 0 0)), (5, (.fn (.func 115) [] [(.lp lo6 0 0), (.lp lo7 0 0)])), (12, (eL aC f0)), (13, (eI (lN f0))), (14, (eI (0 : Int)))] ?_
  refine bR 0 ?_
  refine cR [(3, (.lp lo6 0 0)), (4, (.lp lo7 0 0)), (5, (.fn (.func 115) [] [(.lp lo6 0 0), (.lp lo7 0 0)])), (12, (eL aC f0)), (13, (eI (lN f0))), (14, (eI (0 : Int)))] ?_
  refine cK (fun T H => ∃ out3 : List aQ, ∃ cC : Int, ∃ t12 : (List aB), ∃ t13 : Int, ∃ t14 : Int, ∃ lo21 : Nat, Has T [(3, (.lp lo6 0 0)), (4, (.lp lo7 0 0)), (5, (.fn (.func 115) [] [(.lp lo6 0 0), (.lp lo7 0 0)])), (12, (eL aC t12)), (13, (eI t13)), (14, (eI t14))] ∧ aM ⟨H0, [], []⟩ H [(lo6, 1, [(.msl 2 lo21 0 (List.length out3))]), (lo21, 2, List.map aW out3), (lo7, 1, [(eI cC)])] ∧ vK out3 cC t12 t13 t14 = some r) ?_ ⟨([] : List aQ), (0 : Int), f0, (lN f0), (0 : Int), lo5, .eq (by kernel_rfl), hO, h0⟩
  clear hO h0
  rintro T H ⟨out3, cC, t12, t13, t14, lo21, hT, hO, h0⟩
  refine bD hT ?_
  clear hT
  unfold vK at h0
  obtain ⟨rr0, hl0, h0⟩ := aY h0
  refine cB (by kernel_rfl) (fun (s : List aQ × Int × Int) T H => ∃ lo21 : Nat, Has T [(3, (.lp lo6 0 0)), (4, (.lp lo7 0 0)), (5, (.fn (.func 115) [] [(.lp lo6 0 0), (.lp lo7 0 0)])), (12, (eL aC t12)), (13, (eI t13)), (14, (eI s.2.2))] ∧ aM ⟨H0, [], []⟩ H [(lo6, 1, [(.msl 2 lo21 0 (List.length s.1))]), (lo21, 2, List.map aW s.1), (lo7, 1, [(eI s.2.1)])]) hl0 ⟨lo21, .eq (by kernel_rfl), hO⟩ ?_
  clear hO
  rintro k0 s out1 T H ⟨lo21, hT, hO⟩ h1 ho0
  obtain ⟨out3, cC, t14⟩ := s
  replace h1 : mO t12 t13 out3 cC t14 = some out1 := h1
  try dsimp only at hT
  refine bD hT ?_
  clear hT
  unfold mO at h1
  refine aX aF 1 [] [(15, (aJ (decide (t14 < t13))))] ?_
  refine aP ?_
  refine bN h1 (fun h1 => ?_) (fun h1 => ?_)
  · refine bP ?_
    refine bG [(3, (.lp lo6 0 0)), (4, (.lp lo7 0 0)), (5, (.fn (.func 115) [] [(.lp lo6 0 0), (.lp lo7 0 0)])), (12, (eL aC t12)), (13, (eI t13)), (14, (eI t14))] ?_
    refine cU (fun T H => ∃ out3 : List aQ, ∃ cC : Int, ∃ lo23 : Nat, Has T [(3, (.lp lo6 0 0)), (4, (.lp lo7 0 0)), (5, (.fn (.func 115) [] [(.lp lo6 0 0), (.lp lo7 0 0)])), (12, (eL aC t12)), (13, (eI t13)), (14, (eI t14))] ∧ aM ⟨H0, [], []⟩ H [(lo6, 1, [(.msl 2 lo23 0 (List.length out3))]), (lo23, 2, List.map aW out3), (lo7, 1, [(eI cC)])] ∧ sD out3 cC t12 t13 t14 = some out1) ?_ ?_
    · clear hO h1
      rintro T H ⟨out3, cC, lo23, hT, hO, h1⟩
      refine bD hT ?_
      clear hT
      unfold sD at h1
      refine aT aF 2 ?_
      refine bF ?_
      exact aH (aG (⟨rfl, _, (oI h1).symm, _, .eq (by kernel_rfl), hO⟩))
    refine bR 1 ?_
    refine aP ?_
    refine aT aF 4 ?_
    obtain ⟨c24, h1⟩ := bK h1
    refine oS 2 [0 ≤ t14 ∧ t14 < (lN t12)] ⟨c24, trivial⟩ ?_
    refine mG 2 (aC (aB.mk 0 0)) (by kernel_rfl) (by kernel_rfl) hO ?_
    intro lo25 H hO
    refine iY 3 lo25 2 0 (aC (aB.mk 0 0)) (aC (gD t12 t14)) [(aC (aB.mk 0 0))] [(lo6, 1, [(.msl 2 lo21 0 (List.length out3))]), (lo21, 2, List.map aW out3), (lo7, 1, [(eI cC)]), (lo25, 2, [(aC (gD t12 t14))])] hO rfl (by kernel_rfl) ?_
    intro H hO
    refine cJ ?_
    refine bS [] [(7, (.lp lo25 0 0))] ?_
    refine cU (fun T H => ∃ out3 : List aQ, ∃ cC : Int, ∃ j7 : aB, ∃ lo26 : Nat, Has T [(3, (.lp lo6 0 0)), (4, (.lp lo7 0 0)), (5, (.fn (.func 115) [] [(.lp lo6 0 0), (.lp lo7 0 0)])), (7, (.lp lo25 0 0)), (12, (eL aC t12)), (13, (eI t13)), (14, (eI t14))] ∧ aM ⟨H0, [], []⟩ H [(lo6, 1, [(.msl 2 lo26 0 (List.length out3))]), (lo26, 2, List.map aW out3), (lo7, 1, [(eI cC)]), (lo25, 2, [(aC j7)])] ∧ rO out3 cC j7 t12 t13 t14 = some out1) ?_ ?_
    · clear hO h1
      rintro T H ⟨out3, cC, j7, lo26, hT, hO, h1⟩
      refine bD hT ?_
      clear hT
      unfold rO at h1
      refine aP ?_
      refine aT aF 4 ?_
      refine bO 1 ?_
      refine kC 3 lo25 2 0 (aC j7) (eI j7.Net) [(aC j7)] hO rfl ?_
      refine bF ?_
      refine bS [] [(31, (eI (wR (0 - j7.Net)))), (32, (eI (0 : Int)))] ?_
      refine bR 4 ?_
      refine cR [(3, (.lp lo6 0 0)), (4, (.lp lo7 0 0)), (5, (.fn (.func 115) [] [(.lp lo6 0 0), (.lp lo7 0 0)])), (7, (.lp lo25 0 0)), (12, (eL aC t12)), (13, (eI t13)), (14, (eI t14)), (31, (eI (wR (0 - j7.Net)))), (32, (eI (0 : Int)))] ?_
      refine cK (fun T H => ∃ out3 : List aQ, ∃ cC : Int, ∃ j7 : aB, ∃ t31 : Int, ∃ t32 : Int, ∃ lo28 : Nat, Has T [(3, (.lp lo6 0 0)), (4, (.lp lo7 0 0)), (5, (.fn (.func 115) [] [(.lp lo6 0 0), (.lp lo7 0 0)])), (7, (.lp lo25 0 0)), (12, (eL aC t12)), (13, (eI t13)), (14, (eI t14)), (31, (eI t31)), (32, (eI t32))] ∧ aM ⟨H0, [], []⟩ H [(lo6, 1, [(.msl 2 lo28 0 (List.length out3))]), (lo28, 2, List.map aW out3), (lo7, 1, [(eI cC)]), (lo25, 2, [(aC j7)])] ∧ vJ out3 cC j7 t12 t13 t14 t31 t32 = some out1) ?_ ⟨out3, cC, j7, wR (0 - j7.Net), (0 : Int), lo26, .eq (by kernel_rfl), hO, h1⟩
      clear hO h1
      rintro T H ⟨out3, cC, j7, t31, t32, lo28, hT, hO, h1⟩
      refine bD hT ?_
      clear hT
      unfold vJ at h1
      obtain ⟨rr1, hl1, h1⟩ := aY h1
      refine cB (by kernel_rfl) (fun (s : List aQ × Int × aB × Int) T H => ∃ lo28 : Nat, Has T [(3, (.lp lo6 0 0)), (4, (.lp lo7 0 0)), (5, (.fn (.func 115) [] [(.lp lo6 0 0), (.lp lo7 0 0)])), (7, (.lp lo25 0 0)), (12, (eL aC t12)), (13, (eI t13)), (14, (eI t14)), (31, (eI t31)), (32, (eI s.2.2.2))] ∧ aM ⟨H0, [], []⟩ H [(lo6, 1, [(.msl 2 lo28 0 (List.length s.1))]), (lo28, 2, List.map aW s.1), (lo7, 1, [(eI s.2.1)]), (lo25, 2, [(aC s.2.2.1)])]) hl1 ⟨lo28, .eq (by kernel_rfl), hO⟩ ?_
      clear hO
      rintro k1 s out2 T H ⟨lo28, hT, hO⟩ h2 ho1
      obtain ⟨out3, cC, j7, t32⟩ := s
      replace h2 : lH t12 t13 t14 t31 out3 cC j7 t32 = some out2 := h2
      try dsimp only at hT
      refine bD hT ?_
      clear hT
      unfold lH at h2
      refine aX aF 1 [] [(33, (aJ (decide (t32 < t31))))] ?_
      refine aP ?_
      refine bN h2 (fun h2 => ?_) (fun h2 => ?_)
      · refine bP ?_
        refine bG [(3, (.lp lo6 0 0)), (4, (.lp lo7 0 0)), (5, (.fn (.func 115) [] [(.lp lo6 0 0), (.lp lo7 0 0)])), (7, (.lp lo25 0 0)), (12, (eL aC t12)), (13, (eI t13)), (14, (eI t14)), (31, (eI t31)), (32, (eI t32))] ?_
        refine aP ?_
        refine bR 5 ?_
        refine aT aF 4 ?_
        refine bO 2 ?_
        refine kC 3 lo25 2 0 (aC j7) (eI j7.At) [(aC j7)] hO rfl ?_
        obtain ⟨x30, hx31, h2⟩ := aY h2
        refine aAv [(lo25, 2, [(aC j7)])] [0, 1, 2, 3] (yP j7.At lo6 lo28 out3 lo7 cC _ hx31) hO ?_
        intro r33 L34 H hP35 hO
        obtain ⟨lo32, rfl, rfl⟩ := hP35
        replace hO : aM ⟨H0, [], []⟩ H [(lo6, 1, [(.msl 2 lo32 0 (List.length x30.1))]), (lo32, 2, List.map aW x30.1), (lo7, 1, [(eI x30.2)]), (lo25, 2, [(aC j7)])] := hO
        refine cJ ?_
        refine cX [(3, (.lp lo6 0 0)), (4, (.lp lo7 0 0)), (5, (.fn (.func 115) [] [(.lp lo6 0 0), (.lp lo7 0 0)])), (7, (.lp lo25 0 0)), (12, (eL aC t12)), (13, (eI t13)), (14, (eI t14)), (31, (eI t31)), (32, (eI t32))] ?_
        refine aH (aV (aG (?_)))
        refine aT aF 2 ?_
        refine bF ?_
        exact aH (aG (⟨rfl, _, (oI h2).symm, _, .eq (by kernel_rfl), hO⟩))
      refine dJ 4 ?_
      replace hO := hO.pick (L' := [(lo6, 1, [(.msl 2 lo28 0 (List.length out3))]), (lo28, 2, List.map aW out3), (lo7, 1, [(eI cC)])]) [0, 1, 2] (by decide) (by kernel_rfl)
      obtain rfl := oI h2
      obtain rfl : _ = rr1 := ho1
      replace h1 : sD out3 cC t12 t13 t14 = some out1 := h1
      exact aH (aU (aU (bQ (aV (aG (⟨rfl, _, _, _, .eq (by kernel_rfl), hO, h1⟩))))))
    refine aP ?_
    refine aT aF 3 ?_
    refine bO 1 ?_
    refine kC 3 lo25 2 0 (aC (gD t12 t14)) (eI ((gD t12 t14).Net)) [(aC (gD t12 t14))] hO rfl ?_
    refine bF ?_
    refine bS [] [(19, (eI ((gD t12 t14).Net))), (20, (eI (0 : Int)))] ?_
    refine bR 2 ?_
    refine cR [(3, (.lp lo6 0 0)), (4, (.lp lo7 0 0)), (5, (.fn (.func 115) [] [(.lp lo6 0 0), (.lp lo7 0 0)])), (7, (.lp lo25 0 0)), (12, (eL aC t12)), (13, (eI t13)), (14, (eI t14)), (19, (eI ((gD t12 t14).Net))), (20, (eI (0 : Int)))] ?_
    refine cK (fun T H => ∃ out3 : List aQ, ∃ cC : Int, ∃ j7 : aB, ∃ t19 : Int, ∃ t20 : Int, ∃ lo37 : Nat, Has T [(3, (.lp lo6 0 0)), (4, (.lp lo7 0 0)), (5, (.fn (.func 115) [] [(.lp lo6 0 0), (.lp lo7 0 0)])), (7, (.lp lo25 0 0)), (12, (eL aC t12)), (13, (eI t13)), (14, (eI t14)), (19, (eI t19)), (20, (eI t20))] ∧ aM ⟨H0, [], []⟩ H [(lo6, 1, [(.msl 2 lo37 0 (List.length out3))]), (lo37, 2, List.map aW out3), (lo7, 1, [(eI cC)]), (lo25, 2, [(aC j7)])] ∧ vT out3 cC j7 t12 t13 t14 t19 t20 = some out1) ?_ ⟨out3, cC, gD t12 t14, (gD t12 t14).Net, (0 : Int), lo21, .eq (by kernel_rfl), hO, h1⟩
    clear hO h1
    rintro T H ⟨out3, cC, j7, t19, t20, lo37, hT, hO, h1⟩
    refine bD hT ?_
    clear hT
    unfold vT at h1
    obtain ⟨rr1, hl1, h1⟩ := aY h1
    refine cB (by kernel_rfl) (fun (s : List aQ × Int × aB × Int) T H => ∃ lo37 : Nat, Has T [(3, (.lp lo6 0 0)), (4, (.lp lo7 0 0)), (5, (.fn (.func 115) [] [(.lp lo6 0 0), (.lp lo7 0 0)])), (7, (.lp lo25 0 0)), (12, (eL aC t12)), (13, (eI t13)), (14, (eI t14)), (19, (eI t19)), (20, (eI s.2.2.2))] ∧ aM ⟨H0, [], []⟩ H [(lo6, 1, [(.msl 2 lo37 0 (List.length s.1))]), (lo37, 2, List.map aW s.1), (lo7, 1, [(eI s.2.1)]), (lo25, 2, [(aC s.2.2.1)])]) hl1 ⟨lo37, .eq (by kernel_rfl), hO⟩ ?_
    clear hO
    rintro k1 s out2 T H ⟨lo37, hT, hO⟩ h2 ho1
    obtain ⟨out3, cC, j7, t20⟩ := s
    replace h2 : lF t12 t13 t14 t19 out3 cC j7 t20 = some out2 := h2
    try dsimp only at hT
    refine bD hT ?_
    clear hT
    unfold lF at h2
    refine aX aF 1 [] [(21, (aJ (decide (t20 < t19))))] ?_
    refine aP ?_
    refine bN h2 (fun h2 => ?_) (fun h2 => ?_)
    · refine bP ?_
      refine bG [(3, (.lp lo6 0 0)), (4, (.lp lo7 0 0)), (5, (.fn (.func 115) [] [(.lp lo6 0 0), (.lp lo7 0 0)])), (7, (.lp lo25 0 0)), (12, (eL aC t12)), (13, (eI t13)), (14, (eI t14)), (19, (eI t19)), (20, (eI t20))] ?_
      refine aP ?_
      refine bR 3 ?_
      refine aT aF 7 ?_
      refine kC 0 lo6 1 0 (.msl 2 lo37 0 (List.length out3)) (.msl 2 lo37 0 (List.length out3)) [(.msl 2 lo37 0 (List.length out3))] hO rfl ?_
      refine bO 2 ?_
      refine kC 3 lo25 2 0 (aC j7) (eI j7.At) [(aC j7)] hO rfl ?_
      refine bO 4 ?_
      refine pL (xs := [(aW (aQ.mk j7.At 0))]) (k := 2) (by kernel_rfl) (by kernel_rfl) ?_
      obtain ⟨c40, h2⟩ := bK h2
      refine xM (e := aW) out3 ([aQ.mk j7.At 0]) 1 lo37 2 16 (dY [(aW (aQ.mk j7.At 0))]) (fun lo39 => [(lo6, 1, [(.msl 2 lo37 0 (List.length out3))]), (lo39, 2, List.map aW (out3 ++ ([aQ.mk j7.At 0]))), (lo7, 1, [(eI cC)]), (lo25, 2, [(aC j7)])]) (by kernel_rfl) (by kernel_rfl) hO (by kernel_rfl) (by kernel_rfl) c40 (fun _ => by kernel_rfl) ?_
      intro lo39 H hO
      refine iY 0 lo6 1 0 (.msl 2 lo37 0 (List.length out3)) (.msl 2 lo39 0 (List.length (out3 ++ ([aQ.mk j7.At 0])))) [(.msl 2 lo37 0 (List.length out3))] [(lo6, 1, [(.msl 2 lo39 0 (List.length (out3 ++ ([aQ.mk j7.At 0]))))]), (lo39, 2, List.map aW (out3 ++ ([aQ.mk j7.At 0]))), (lo7, 1, [(eI cC)]), (lo25, 2, [(aC j7)])] hO rfl (by kernel_rfl) ?_
      intro H hO
      refine cJ ?_
      refine cX [(3, (.lp lo6 0 0)), (4, (.lp lo7 0 0)), (5, (.fn (.func 115) [] [(.lp lo6 0 0), (.lp lo7 0 0)])), (7, (.lp lo25 0 0)), (12, (eL aC t12)), (13, (eI t13)), (14, (eI t14)), (19, (eI t19)), (20, (eI t20))] ?_
      refine aH (aV (aG (?_)))
      refine aT aF 2 ?_
      refine bF ?_
      exact aH (aG (⟨rfl, _, (oI h2).symm, _, .eq (by kernel_rfl), hO⟩))
    refine dJ 2 ?_
    obtain rfl := oI h2
    obtain rfl : _ = rr1 := ho1
    replace h1 : rO out3 cC j7 t12 t13 t14 = some out1 := h1
    exact aH (aU (aU (bQ (aG (⟨rfl, _, _, _, _, .eq (by kernel_rfl), hO, h1⟩)))))
  refine dJ 0 ?_
  obtain rfl := oI h1
  obtain rfl : _ = rr0 := ho0
  replace h0 : rV out3 cC = some r := h0
  exact aH (aU (aU (bQ (aG (⟨rfl, _, _, _, .eq (by kernel_rfl), hO, h0⟩)))))

theorem MB (l0 : (List aD)) (r : ((List aR) × Int)) (h0 : rT l0 = some r) : bW Try.prog 43 [(eL aE l0)] (.tup [(eL aK r.1), (eI r.2)]) := by
  intro H0
  refine BV aF Try.func43 (by kernel_rfl) (by kernel_rfl) (by kernel_rfl) ?_
  have hO := aM.start H0
  unfold rT at h0
  refine aX aF 2 [] [] ?_
  refine aP ?_
  refine bR 0 ?_
  refine aP ?_
  refine aT aF 4 ?_
  refine bO 1 ?_
  obtain ⟨x1, hx2, h0⟩ := aY h0
  refine cI (JF l0 _ hx2) hO ?_
  intro H hO
  refine bF ?_
  refine bS [] [(12, (aJ (!x1)))] ?_
  refine bN h0 (fun h0 => ?_) (fun h0 => ?_)
  · refine bV aF 2 [(2, (.sl true 0 (fun _ => .bad))), (3, (eI (2 : Int)))] ?_
    refine bM ?_
    refine cN (l := [(2, (eL aK ([]))), (3, (eI (2 : Int)))]) ⟨[(2, (.sl true 0 (fun _ => .bad))), (3, (eI (2 : Int)))], by kernel_rfl, rfl, ⟨eF, aZ.refl _, trivial⟩⟩ ?_
    obtain rfl := oI h0
    exact aH (bU (bB (QM0 (.inr rfl) (rs := [.tmp 2, .tmp 3]) (xs := [(eL aK ([])), (eI (2 : Int))]) (x := (.tup [(eL aK ([])), (eI (2 : Int))])) (by kernel_rfl) (yL (x := (eL aK ([]))) (by kernel_rfl) (yL (x := (eI (2 : Int))) (by kernel_rfl) qO)) (by kernel_rfl) ⟨rfl, hO.out⟩)))
  refine aP ?_
  refine aT aF 4 ?_
  refine bO 1 ?_
  obtain ⟨x5, hx6, h0⟩ := aY h0
  refine cI (OK l0 _ hx6) hO ?_
  intro H hO
  refine bF ?_
  refine bS [12] [(16, (aJ (!x5)))] ?_
  refine bN h0 (fun h0 => ?_) (fun h0 => ?_)
  · refine bV aF 2 [(2, (.sl true 0 (fun _ => .bad))), (3, (eI (20 : Int)))] ?_
    refine bM ?_
    refine cN (l := [(2, (eL aK ([]))), (3, (eI (20 : Int)))]) ⟨[(2, (.sl true 0 (fun _ => .bad))), (3, (eI (20 : Int)))], by kernel_rfl, rfl, ⟨eF, aZ.refl _, trivial⟩⟩ ?_
    obtain rfl := oI h0
    exact aH (bU (bB (QM0 (.inr rfl) (rs := [.tmp 2, .tmp 3]) (xs := [(eL aK ([])), (eI (20 : Int))]) (x := (.tup [(eL aK ([])), (eI (20 : Int))])) (by kernel_rfl) (yL (x := (eL aK ([]))) (by kernel_rfl) (yL (x := (eI (20 : Int))) (by kernel_rfl) qO)) (by kernel_rfl) ⟨rfl, hO.out⟩)))
  refine bP ?_
  refine cX [(0, (eL aE l0))] ?_
  refine aH (aV (aG (?_)))
  refine aP ?_
  refine aT aF 2 ?_
  refine mG 1 (eI 0) (by kernel_rfl) (by kernel_rfl) hO ?_
  intro lo9 H hO
  refine iY 0 lo9 1 0 (eI 0) (eI (0 : Int)) [(eI 0)] [(lo9, 1, [(eI (0 : Int))])] hO rfl (by kernel_rfl) ?_
  intro H hO
  refine cJ ?_
  refine bS [] [(4, (.lp lo9 0 0))] ?_
  refine aP ?_
  refine aP ?_
  refine aT aF 2 ?_
  refine bO 1 ?_
  obtain ⟨x10, hx11, h0⟩ := aY h0
  refine cI (DW l0 _ hx11) hO ?_
  intro H hO
  refine cJ ?_
  refine bS [] [(21, (.fn (.func 117) [] [(.rp (eL aE x10))]))] ?_
  refine bR 1 ?_
  refine cR [(0, (eL aE l0)), (4, (.lp lo9 0 0)), (21, (.fn (.func 117) [] [(.rp (eL aE x10))]))] ?_
  refine cK (fun T H => ∃ n4 : Int, ∃ uK : (List aD), Has T [(0, (eL aE l0)), (4, (.lp lo9 0 0)), (21, (.fn (.func 117) [] [(.rp (eL aE uK))]))] ∧ aM ⟨H0, [], []⟩ H [(lo9, 1, [(eI n4)])] ∧ tY l0 n4 uK = some r) ?_ ⟨(0 : Int), x10, .eq (by kernel_rfl), hO, h0⟩
  clear hO h0
  rintro T H ⟨n4, uK, hT, hO, h0⟩
  refine bD (l := [(0, (eL aE l0)), (4, (.lp lo9 0 0)), (21, (.fn (.func 117) [] [(.rp (eL aE uK))]))]) hT ?_
  clear hT
  unfold tY at h0
  obtain ⟨o0, hl0, h0⟩ := aY h0
  refine AD (fid := 117) (ys := []) (cs := [(.rp (eL aE uK))]) #[22, 23] (fun (A : xU) (b lL : Nat) (st : (Int) ⊕ (Int)) (G' : Gs) => Sum.elim (fun (s : Int) => G' = (lL, .raw (jM b A .ready none)) :: (up [(lo9, 1, [(eI s)])] ++ [])) (fun (s : Int) => False) st) (.inl n4) o0 (.tup []) (by kernel_rfl) (by kernel_rfl) (by kernel_rfl) hO (fun _ _ => rfl) ?_ ?_
  · intro b lL
    clear hO h0
    refine zC _ b (fun st t22 t23 => rnd (fun (s : Int) => nG l0 uK s t22 t23) st) ?_ uK _ _ hl0
    intro st t22 t23 out1 rr hr
    obtain ⟨s, rfl, h1, rfl⟩ := PM hr
    clear hr
    intro Hr Gr hi hg
    obtain ⟨n4, rfl⟩ : ∃ x, x = s := ⟨_, rfl⟩
    dsimp only [Sum.elim_inl] at hi
    obtain rfl := hi
    replace h1 : nG l0 uK n4 t22 t23 = some out1 := h1
    unfold nG at h1
    obtain ⟨E1, hE, hO⟩ := uV hg
    refine uU (AJ (hO.gm 0 _ rfl).2 (by kernel_rfl) (by kernel_rfl) ?_)
    refine cR [(0, (eL aE l0)), (4, (.lp lo9 0 0)), (21, (.fn (.func 117) [] [(.rp (eL aE uK))])), (22, (eL aL t22)), (23, (eL aC t23))] ?_
    refine aT aF 1 ?_
    refine bF ?_
    refine cX [(4, (.lp lo9 0 0)), (6, (eL aC t23))] ?_
    refine aH (⟨rfl, rfl, (hO.gm 0 _ rfl).2, ?_⟩)
    intro o1 ho1
    replace hO := hO.uP o1
    refine bR 2 ?_
    refine jF (jG [26]) aF 5 ?_
    refine kP 0 lo9 1 0 (eI n4) (eI n4) [(eI n4)] hO rfl ?_
    refine tJ 2 ?_
    obtain ⟨x12, hx13, h1⟩ := aY h1
    refine xN (BD t23 _ hx13) hO ?_
    intro H hO
    refine tJ 4 ?_
    refine rF 0 lo9 1 0 (eI n4) (eI (wR (n4 + x12))) [(eI n4)] [(lo9, 1, [(eI (wR (n4 + x12)))])] hO rfl (by kernel_rfl) ?_
    intro H hO
    refine wT (by kernel_rfl) ?_
    refine cX [(4, (.lp lo9 0 0))] ?_
    obtain rfl := oI h1
    exact aH (aV (⟨(fS hO hE ho1 .dead).1, rfl, _, rfl, (fS hO hE ho1 _).2⟩))
  · intro b lD15 lL H' G' hi hO
    rcases o0 with s | s
    · dsimp only [Sum.elim_inl] at hi
      obtain rfl := hi
      replace h0 : (cond (decide ((4096 : Int) < s)) (some ([], (7 : Int))) (bL (0 ≤ s ∧ (40 : Int) * s ≤ 281474976710656 ∧ s ≤ 9223372036854775807) <| (pG l0).bind fun x20 => qK ([] : List aR) x20)) = some r := h0
      obtain ⟨hlL, hO⟩ := pN hO
      refine ⟨_, _, hlL, (by intro e; cases e), ?_⟩
      refine cX [(0, (eL aE l0)), (4, (.lp lo9 0 0))] ?_
      refine aH (aV (aG (?_)))
      refine aP ?_
      refine aP ?_
      refine aT aF 2 ?_
      refine kC 0 lo9 1 0 (eI s) (eI s) [(eI s)] hO rfl ?_
      refine bF ?_
      refine bS [] [(29, (aJ (decide ((4096 : Int) < s))))] ?_
      refine bN h0 (fun h0 => ?_) (fun h0 => ?_)
      · refine aP ?_
        refine aT aF 2 ?_
        refine bF ?_
        refine cX [(2, (.sl true 0 (fun _ => .bad))), (3, (eI (7 : Int)))] ?_
        replace hO := hO.pick (L' := []) [] (by decide) (by kernel_rfl)
        refine aH (aG (?_))
        refine bM ?_
        refine cN (l := [(2, (eL aK ([]))), (3, (eI (7 : Int)))]) ⟨[(2, (.sl true 0 (fun _ => .bad))), (3, (eI (7 : Int)))], by kernel_rfl, rfl, ⟨eF, aZ.refl _, trivial⟩⟩ ?_
        obtain rfl := oI h0
        have hD := (hO.gm 0 _ rfl).2
        replace hO := (hO.uP .dead).uC
        exact aH (bB (QM1 (.inr rfl) hD (rs := [.tmp 2, .tmp 3]) (xs := [(eL aK ([])), (eI (7 : Int))]) (x := (.tup [(eL aK ([])), (eI (7 : Int))])) (by kernel_rfl) (yL (x := (eL aK ([]))) (by kernel_rfl) (yL (x := (eI (7 : Int))) (by kernel_rfl) qO)) (by kernel_rfl) ⟨rfl, hO.out⟩))
      refine bP ?_
      refine bG [(0, (eL aE l0)), (4, (.lp lo9 0 0))] ?_
      refine aP ?_
      refine aT aF 4 ?_
      refine kC 0 lo9 1 0 (eI s) (eI s) [(eI s)] hO rfl ?_
      obtain ⟨c17, h0⟩ := bK h0
      refine FO 3 40 s (by kernel_rfl) (by kernel_rfl) c17 hO ?_
      intro lo18 H hO
      refine rI 1 (.sl true 0 (fun _ => .bad)) (eL aK ([])) (by kernel_rfl) (by kernel_rfl) (by kernel_rfl) (eF) (by kernel_rfl) (by kernel_rfl) hO ?_
      intro lo19 H hO
      refine iY 2 lo19 1 0 (eL aK ([])) (.msl 3 lo18 0 (List.length ([] : List aR))) [(eL aK ([]))] [(lo9, 1, [(eI s)]), (lo18, 3, List.map aK ([] : List aR)), (lo19, 1, [(.msl 3 lo18 0 (List.length ([] : List aR)))])] hO rfl (by kernel_rfl) ?_
      intro H hO
      refine cJ ?_
      replace hO := hO.pick (L' := [(lo19, 1, [(.msl 3 lo18 0 (List.length ([] : List aR)))]), (lo18, 3, List.map aK ([] : List aR))]) [2, 1] (by decide) (by kernel_rfl)
      refine bS [4] [(7, (.lp lo19 0 0))] ?_
      refine aP ?_
      refine aP ?_
      refine aT aF 2 ?_
      refine bO 1 ?_
      obtain ⟨x20, hx21, h0⟩ := aY h0
      refine cI (DW l0 _ hx21) hO ?_
      intro H hO
      refine cJ ?_
      refine bS [0] [(33, (.fn (.func 117) [] [(.rp (eL aE x20))]))] ?_
      refine bR 3 ?_
      refine cR [(7, (.lp lo19 0 0)), (33, (.fn (.func 117) [] [(.rp (eL aE x20))]))] ?_
      refine cK (fun T H => ∃ out7 : List aR, ∃ uD : (List aD), ∃ lo22 : Nat, Has T [(7, (.lp lo19 0 0)), (33, (.fn (.func 117) [] [(.rp (eL aE uD))]))] ∧ aM ⟨H0, [], (lD15, .raw uM) :: []⟩ H [(lo19, 1, [(.msl 3 lo22 0 (List.length out7))]), (lo22, 3, List.map aK out7)] ∧ qK out7 uD = some r) ?_ ⟨([] : List aR), x20, lo18, .eq (by kernel_rfl), hO, h0⟩
      clear hO h0
      rintro T H ⟨out7, uD, lo22, hT, hO, h0⟩
      refine bD (l := [(7, (.lp lo19 0 0)), (33, (.fn (.func 117) [] [(.rp (eL aE uD))]))]) hT ?_
      clear hT
      unfold qK at h0
      obtain ⟨o0, hl0, h0⟩ := aY h0
      refine AD (fid := 117) (ys := []) (cs := [(.rp (eL aE uD))]) #[34, 35] (fun (A : xU) (b lL : Nat) (st : (List aR) ⊕ (List aR)) (G' : Gs) => Sum.elim (fun (s : List aR) => ∃ lo22 : Nat, G' = (lL, .raw (jM b A .ready none)) :: (up [(lo19, 1, [(.msl 3 lo22 0 (List.length s))]), (lo22, 3, List.map aK s)] ++ (lD15, .raw uM) :: [])) (fun (s : List aR) => False) st) (.inl out7) o0 (.tup []) (by kernel_rfl) (by kernel_rfl) (by kernel_rfl) hO (fun _ _ => ⟨lo22, rfl⟩) ?_ ?_
      · intro b lL
        clear hO h0
        refine zC _ b (fun st t34 t35 => rnd (fun (s : List aR) => nD uD s t34 t35) st) ?_ uD _ _ hl0
        intro st t34 t35 out1 rr hr
        obtain ⟨s, rfl, h1, rfl⟩ := PM hr
        clear hr
        intro Hr Gr hi hg
        obtain ⟨out7, rfl⟩ : ∃ x, x = s := ⟨_, rfl⟩
        dsimp only [Sum.elim_inl] at hi
        obtain ⟨lo22, rfl⟩ := hi
        replace h1 : nD uD out7 t34 t35 = some out1 := h1
        unfold nD at h1
        obtain ⟨E1, hE, hO⟩ := uV hg
        refine uU (AJ (hO.gm 0 _ rfl).2 (by kernel_rfl) (by kernel_rfl) ?_)
        refine cR [(7, (.lp lo19 0 0)), (33, (.fn (.func 117) [] [(.rp (eL aE uD))])), (34, (eL aL t34)), (35, (eL aC t35))] ?_
        refine aX aF 1 [33, 34] [(8, (eL aL t34))] ?_
        refine aT aF 1 ?_
        refine bF ?_
        refine cX [(7, (.lp lo19 0 0)), (8, (eL aL t34)), (9, (eL aC t35))] ?_
        refine aH (⟨rfl, rfl, (hO.gm 0 _ rfl).2, ?_⟩)
        intro o1 ho1
        replace hO := hO.uP o1
        refine bR 4 ?_
        refine aP ?_
        refine aT aF 4 ?_
        refine bO 1 ?_
        obtain ⟨x23, hx24, h1⟩ := aY h1
        refine cI (EY t35 _ hx24) hO ?_
        intro H hO
        refine bF ?_
        refine bS [9] [(37, (eL aW x23)), (38, (eI (lN x23))), (39, (eI (0 : Int)))] ?_
        refine bR 5 ?_
        refine cR [(7, (.lp lo19 0 0)), (8, (eL aL t34)), (37, (eL aW x23)), (38, (eI (lN x23))), (39, (eI (0 : Int)))] ?_
        refine cK (fun T H => ∃ out7 : List aR, ∃ r8 : (List aI), ∃ t37 : (List aQ), ∃ t38 : Int, ∃ t39 : Int, ∃ lo27 : Nat, Has T [(7, (.lp lo19 0 0)), (8, (eL aL r8)), (37, (eL aW t37)), (38, (eI t38)), (39, (eI t39))] ∧ aM ⟨Hr, E1, (lL, o1) :: (lD15, .raw uM) :: []⟩ H [(lo19, 1, [(.msl 3 lo27 0 (List.length out7))]), (lo27, 3, List.map aK out7)] ∧ qM out7 r8 t37 t38 t39 = some out1) ?_ ⟨out7, t34, x23, (lN x23), (0 : Int), lo22, .eq (by kernel_rfl), hO, h1⟩
        clear hO h1
        rintro T H ⟨out7, r8, t37, t38, t39, lo27, hT, hO, h1⟩
        refine bD hT ?_
        clear hT
        unfold qM at h1
        obtain ⟨rr1, hl1, h1⟩ := aY h1
        refine cB (by kernel_rfl) (fun (s : List aR × Int) T H => ∃ lo27 : Nat, Has T [(7, (.lp lo19 0 0)), (8, (eL aL r8)), (37, (eL aW t37)), (38, (eI t38)), (39, (eI s.2))] ∧ aM ⟨Hr, E1, (lL, o1) :: (lD15, .raw uM) :: []⟩ H [(lo19, 1, [(.msl 3 lo27 0 (List.length s.1))]), (lo27, 3, List.map aK s.1)]) hl1 ⟨lo27, .eq (by kernel_rfl), hO⟩ ?_
        clear hO
        rintro k1 s out2 T H ⟨lo27, hT, hO⟩ h2 ho1
        obtain ⟨out7, t39⟩ := s
        replace h2 : lR r8 t37 t38 out7 t39 = some out2 := h2
        try dsimp only at hT
        refine bD hT ?_
        clear hT
        unfold lR at h2
        refine aX aF 1 [] [(40, (aJ (decide (t39 < t38))))] ?_
        refine aP ?_
        refine bN h2 (fun h2 => ?_) (fun h2 => ?_)
        · refine bP ?_
          refine bG [(7, (.lp lo19 0 0)), (8, (eL aL r8)), (37, (eL aW t37)), (38, (eI t38)), (39, (eI t39))] ?_
          refine aP ?_
          refine bR 6 ?_
          refine aP ?_
          refine aT aF 4 ?_
          obtain ⟨c29, h2⟩ := bK h2
          refine oS 2 [0 ≤ t39 ∧ t39 < (lN t37)] ⟨c29, trivial⟩ ?_
          refine mG 2 (aW (aQ.mk 0 0)) (by kernel_rfl) (by kernel_rfl) hO ?_
          intro lo30 H hO
          refine iY 2 lo30 2 0 (aW (aQ.mk 0 0)) (aW (gD t37 t39)) [(aW (aQ.mk 0 0))] [(lo19, 1, [(.msl 3 lo27 0 (List.length out7))]), (lo27, 3, List.map aK out7), (lo30, 2, [(aW (gD t37 t39))])] hO rfl (by kernel_rfl) ?_
          intro H hO
          refine cJ ?_
          refine bS [] [(11, (.lp lo30 0 0))] ?_
          refine cR [(7, (.lp lo19 0 0)), (8, (eL aL r8)), (11, (.lp lo30 0 0)), (37, (eL aW t37)), (38, (eI t38)), (39, (eI t39))] ?_
          refine LL 2 2 11 2 lo30 (aW (gD t37 t39)) [(lo19, 1, [(.msl 3 lo27 0 (List.length out7))]), (lo27, 3, List.map aK out7)] hO (by kernel_rfl) (by kernel_rfl) (by kernel_rfl) ?_
          intro H hO
          refine jF (jG [45, 46, 48]) aF 8 ?_
          refine kP 0 lo19 1 0 (.msl 3 lo27 0 (List.length out7)) (.msl 3 lo27 0 (List.length out7)) [(.msl 3 lo27 0 (List.length out7))] hO rfl ?_
          refine tJ 2 ?_
          obtain ⟨x31, hx32, h2⟩ := aY h2
          refine xN (DO r8 _ hx32) hO ?_
          intro H hO
          refine tJ 5 ?_
          refine MT (xs := [(aK (aR.mk x31 (gD t37 t39)))]) (k := 3) (by kernel_rfl) (by kernel_rfl) ?_
          obtain ⟨c35, h2⟩ := bK h2
          refine KC (e := aK) out7 ([aR.mk x31 (gD t37 t39)]) 1 lo27 3 40 (dY [(aK (aR.mk x31 (gD t37 t39)))]) (fun lo34 => [(lo19, 1, [(.msl 3 lo27 0 (List.length out7))]), (lo34, 3, List.map aK (out7 ++ ([aR.mk x31 (gD t37 t39)])))]) (by kernel_rfl) (by kernel_rfl) hO (by kernel_rfl) (by kernel_rfl) c35 (fun _ => by kernel_rfl) ?_
          intro lo34 H hO
          refine rF 0 lo19 1 0 (.msl 3 lo27 0 (List.length out7)) (.msl 3 lo34 0 (List.length (out7 ++ ([aR.mk x31 (gD t37 t39)])))) [(.msl 3 lo27 0 (List.length out7))] [(lo19, 1, [(.msl 3 lo34 0 (List.length (out7 ++ ([aR.mk x31 (gD t37 t39)]))))]), (lo34, 3, List.map aK (out7 ++ ([aR.mk x31 (gD t37 t39)])))] hO rfl (by kernel_rfl) ?_
          intro H hO
          refine wT (by kernel_rfl) ?_
          refine cX [(7, (.lp lo19 0 0)), (8, (eL aL r8)), (37, (eL aW t37)), (38, (eI t38)), (39, (eI t39))] ?_
          refine aH (aV (aG (?_)))
          refine aT aF 2 ?_
          refine bF ?_
          exact aH (aG (⟨rfl, _, (oI h2).symm, _, .eq (by kernel_rfl), hO⟩))
        refine dJ 5 ?_
        refine cX [(7, (.lp lo19 0 0))] ?_
        obtain rfl := oI h2
        obtain rfl : _ = rr1 := ho1
        replace h1 : some (.inl out7) = some out1 := h1
        obtain rfl := oI h1
        exact aH (aU (aU (bQ (aV (⟨(fS hO hE ho1 .dead).1, rfl, _, ⟨lo27, rfl⟩, (fS hO hE ho1 _).2⟩)))))
      · intro b lD36 lL H' G' hi hO
        rcases o0 with s | s
        · dsimp only [Sum.elim_inl] at hi
          obtain ⟨lo22, rfl⟩ := hi
          replace h0 : (some (s, (0 : Int))) = some r := h0
          obtain ⟨hlL, hO⟩ := pN hO
          refine ⟨_, _, hlL, (by intro e; cases e), ?_⟩
          refine cX [(7, (.lp lo19 0 0))] ?_
          refine aH (aV (aG (?_)))
          refine aP ?_
          refine aT aF 3 ?_
          refine kC 0 lo19 1 0 (.msl 3 lo22 0 (List.length s)) (.msl 3 lo22 0 (List.length s)) [(.msl 3 lo22 0 (List.length s))] hO rfl ?_
          refine bF ?_
          refine cX [(2, (.msl 3 lo22 0 (List.length s))), (3, (eI (0 : Int)))] ?_
          replace hO := hO.pick (L' := [(lo22, 3, List.map aK s)]) [1] (by decide) (by kernel_rfl)
          refine aH (aG (?_))
          refine bM ?_
          refine cX [(2, (.msl 3 lo22 0 (List.length s))), (3, (eI (0 : Int)))] ?_
          refine AV (en := aK) s 0 0 2 3 lo22 (List.length s) hO (by kernel_rfl) (by kernel_rfl) (by kernel_rfl) (L' := []) (by kernel_rfl) ?_
          intro H37 hO
          obtain rfl := oI h0
          have hD := (hO.gm 0 _ rfl).2
          have hE := (hO.gm 1 _ rfl).2
          have hF := hO.gn 0 1 _ _ rfl rfl (by decide)
          replace hO := ((hO.uP .dead).uC.uP .dead).uC
          exact aH (QM2 (.inr rfl) hD hE hF (rs := [.tmp 2, .tmp 3]) (xs := [(eL aK s), (eI (0 : Int))]) (x := (.tup [(eL aK s), (eI (0 : Int))])) (by kernel_rfl) (yL (x := (eL aK s)) (by kernel_rfl) (yL (x := (eI (0 : Int))) (by kernel_rfl) qO)) (by kernel_rfl) ⟨rfl, hO.out⟩)
        · exact hi.elim
    · exact hi.elim

theorem GQ (l0 : (List aR)) (r : ((List aR) × Int)) (h0 : sJ l0 = some r) : bW Try.prog 11 [(eL aK l0)] (.tup [(eL aK r.1), (eI r.2)]) := by
  intro H0
  refine cH Try.func11 ?_
  have hO := aM.start H0
  unfold sJ at h0
  refine aX aF 2 [] [] ?_
  refine aP ?_
  refine aT aF 7 ?_
  refine bO 1 ?_
  obtain ⟨x1, hx2, h0⟩ := aY h0
  refine cI (OR l0 _ hx2) hO ?_
  intro H hO
  refine bF ?_
  refine bG [(4, (eL aE x1.1)), (5, (eI x1.2))] ?_
  refine aP ?_
  refine aX aF 2 [] [(12, (aJ (!decide (x1.2 = (0 : Int)))))] ?_
  refine bN h0 (fun h0 => ?_) (fun h0 => ?_)
  · refine bV aF 3 [(2, (.sl true 0 (fun _ => .bad))), (3, (eI x1.2))] ?_
    refine bM ?_
    refine cN (l := [(2, (eL aK ([]))), (3, (eI x1.2))]) ⟨[(2, (.sl true 0 (fun _ => .bad))), (3, (eI x1.2))], by kernel_rfl, rfl, ⟨eF, aZ.refl _, trivial⟩⟩ ?_
    obtain rfl := oI h0
    exact aH (bB (Q_r hO))
  refine bP ?_
  refine bG [(4, (eL aE x1.1))] ?_
  refine aP ?_
  refine aT aF 6 ?_
  refine bO 1 ?_
  obtain ⟨x5, hx6, h0⟩ := aY h0
  refine cI (MB x1.1 _ hx6) hO ?_
  intro H hO
  refine bF ?_
  refine bG [(2, (eL aK x5.1)), (3, (eI x5.2))] ?_
  refine bM ?_
  obtain rfl := oI h0
  exact aH (Q_r hO)

theorem mW (s10 : (List aR)) (s21 : (List aR)) (eq2_f : Nat) (eq2_a eq2_c : List V) (eq2 : aR → aR → Option Bool) (eq2_h : ∀ a0 a1 r, eq2 a0 a1 = some r → bW Try.prog eq2_f (eq2_a ++ [(aK a0), (aK a1)] ++ eq2_c) (aJ r)) (r : Bool) (h0 : cP s10 s21 eq2 = some r) : bW Try.prog 81 [(eL aK s10), (eL aK s21), (.fn (.func eq2_f) eq2_a eq2_c)] (aJ r) := by
  intro H0
  refine cH Try.func81 ?_
  have hO := aM.start H0
  unfold cP at h0
  refine aX aF 1 [] [] ?_
  refine aP ?_
  refine aX aF 5 [] [(14, (aJ (!decide ((lN s10) = (lN s21)))))] ?_
  refine bN h0 (fun h0 => ?_) (fun h0 => ?_)
  · refine bV aF 1 [(6, (aJ false))] ?_
    refine bM ?_
    obtain rfl := oI h0
    exact aH (bB (Q_r hO))
  refine bP ?_
  refine bG [(0, (eL aK s10)), (1, (eL aK s21)), (2, (.fn (.func eq2_f) eq2_a eq2_c))] ?_
  refine cU (fun T H => Has T [] ∧ aM ⟨H0, [], []⟩ H [] ∧ cF eq2  = some r) ?_ ?_
  · clear hO h0
    rintro T H ⟨hT, hO, h0⟩
    refine bD hT ?_
    clear hT
    unfold cF at h0
    refine bV aF 1 [(6, (aJ true))] ?_
    refine bM ?_
    obtain rfl := oI h0
    exact aH (Q_r hO)
  refine aX aF 3 [0] [(15, (eL aK s10)), (16, (eI (lN s10))), (17, (eI (0 : Int)))] ?_
  refine bR 0 ?_
  refine cR [(1, (eL aK s21)), (2, (.fn (.func eq2_f) eq2_a eq2_c)), (15, (eL aK s10)), (16, (eI (lN s10))), (17, (eI (0 : Int)))] ?_
  refine cK (fun T H => ∃ t15 : (List aR), ∃ t16 : Int, ∃ t17 : Int, Has T [(1, (eL aK s21)), (2, (.fn (.func eq2_f) eq2_a eq2_c)), (15, (eL aK t15)), (16, (eI t16)), (17, (eI t17))] ∧ aM ⟨H0, [], []⟩ H [] ∧ cO eq2 s21 t15 t16 t17 = some r) ?_ ⟨s10, (lN s10), (0 : Int), .eq (by kernel_rfl), hO, h0⟩
  clear hO h0
  rintro T H ⟨t15, t16, t17, hT, hO, h0⟩
  refine bD hT ?_
  clear hT
  unfold cO at h0
  obtain ⟨rr0, hl0, h0⟩ := aY h0
  refine cB (by kernel_rfl) (fun (s : Int) T H => Has T [(1, (eL aK s21)), (2, (.fn (.func eq2_f) eq2_a eq2_c)), (15, (eL aK t15)), (16, (eI t16)), (17, (eI s))] ∧ aM ⟨H0, [], []⟩ H []) hl0 ⟨.eq (by kernel_rfl), hO⟩ ?_
  clear hO
  rintro k0 s out1 T H ⟨hT, hO⟩ h1 ho0
  obtain ⟨t17, rfl⟩ : ∃ x, x = s := ⟨_, rfl⟩
  replace h1 : cA eq2 s21 t15 t16 t17 = some out1 := h1
  refine bD hT ?_
  clear hT
  unfold cA at h1
  refine aX aF 1 [] [(18, (aJ (decide (t17 < t16))))] ?_
  refine aP ?_
  refine bN h1 (fun h1 => ?_) (fun h1 => ?_)
  · refine bP ?_
    refine bG [(1, (eL aK s21)), (2, (.fn (.func eq2_f) eq2_a eq2_c)), (15, (eL aK t15)), (16, (eI t16)), (17, (eI t17))] ?_
    refine aP ?_
    refine bR 1 ?_
    refine aP ?_
    refine aT aF 6 ?_
    obtain ⟨c3, h1⟩ := bK h1
    refine oS 3 [0 ≤ t17 ∧ t17 < (lN t15)] ⟨c3, trivial⟩ ?_
    refine rI 3 (.agg [(.sl true 0 (fun _ => .bad)), (eI 0), (eI 0)]) (aK (aR.mk ([]) (aQ.mk 0 0))) (by kernel_rfl) (by kernel_rfl) (by kernel_rfl) (FE (xs := [(.sl true 0 (fun _ => .bad)), (eI 0), (eI 0)]) (ys := [(eL aL ([])), (eI 0), (eI 0)]) ⟨eF, aZ.refl _, aZ.refl _, trivial⟩) (by kernel_rfl) (by kernel_rfl) hO ?_
    intro lo4 H hO
    refine bO 5 ?_
    refine iY 0 lo4 3 0 (aK (aR.mk ([]) (aQ.mk 0 0))) (aK (gD t15 t17)) [(aK (aR.mk ([]) (aQ.mk 0 0)))] [(lo4, 3, [(aK (gD t15 t17))])] hO rfl (by kernel_rfl) ?_
    intro H hO
    refine cJ ?_
    refine bS [] [(7, (eI t17)), (8, (.lp lo4 0 0))] ?_
    refine aP ?_
    refine aT aF 6 ?_
    obtain ⟨c5, h1⟩ := bK h1
    refine oS 4 [0 ≤ t17 ∧ t17 < (lN s21)] ⟨c5, trivial⟩ ?_
    refine rI 3 (.agg [(.sl true 0 (fun _ => .bad)), (eI 0), (eI 0)]) (aK (aR.mk ([]) (aQ.mk 0 0))) (by kernel_rfl) (by kernel_rfl) (by kernel_rfl) (FE (xs := [(.sl true 0 (fun _ => .bad)), (eI 0), (eI 0)]) (ys := [(eL aL ([])), (eI 0), (eI 0)]) ⟨eF, aZ.refl _, aZ.refl _, trivial⟩) (by kernel_rfl) (by kernel_rfl) hO ?_
    intro lo6 H hO
    refine iY 1 lo6 3 0 (aK (aR.mk ([]) (aQ.mk 0 0))) (aK (gD s21 t17)) [(aK (aR.mk ([]) (aQ.mk 0 0)))] [(lo4, 3, [(aK (gD t15 t17))]), (lo6, 3, [(aK (gD s21 t17))])] hO rfl (by kernel_rfl) ?_
    intro H hO
    refine cJ ?_
    refine bS [7] [(9, (.lp lo6 0 0))] ?_
    refine aP ?_
    refine aT aF 5 ?_
    refine bO 1 ?_
    refine kC 0 lo4 3 0 (aK (gD t15 t17)) (aK (gD t15 t17)) [(aK (gD t15 t17))] hO rfl ?_
    refine kC 1 lo6 3 0 (aK (gD s21 t17)) (aK (gD s21 t17)) [(aK (gD s21 t17))] hO rfl ?_
    obtain ⟨x7, hx8, h1⟩ := aY h1
    refine cI (eq2_h (gD t15 t17) (gD s21 t17) _ hx8) hO ?_
    intro H hO
    refine bF ?_
    replace hO := hO.pick (L' := []) [] (by decide) (by kernel_rfl)
    refine bS [8, 9] [(30, (aJ (!x7)))] ?_
    refine bN h1 (fun h1 => ?_) (fun h1 => ?_)
    · refine bV aF 1 [(6, (aJ false))] ?_
      refine bM ?_
      obtain rfl := oI h1
      obtain rfl : _ = rr0 := ho0
      replace h0 : some false = some r := h0
      obtain rfl := oI h0
      exact aH (bU (bB (bB (bU (bB (Q_r hO))))))
    refine bP ?_
    refine cX [(1, (eL aK s21)), (2, (.fn (.func eq2_f) eq2_a eq2_c)), (15, (eL aK t15)), (16, (eI t16)), (17, (eI t17))] ?_
    refine aH (aV (aG (?_)))
    refine aT aF 2 ?_
    refine bF ?_
    exact aH (aG (⟨rfl, _, (oI h1).symm, .eq (by kernel_rfl), hO⟩))
  refine dJ 0 ?_
  obtain rfl := oI h1
  obtain rfl : _ = rr0 := ho0
  replace h0 : cF eq2  = some r := h0
  exact aH (aU (aU (bQ (aG (⟨rfl, .eq (by kernel_rfl), hO, h0⟩)))))

theorem ML (x0 : aR) (y1 : aR) (r : Bool) (h0 : nV x0 y1 = some r) : bW Try.prog 82 [(aK x0), (aK y1)] (aJ r) := by
  intro H0
  refine cH Try.func82 ?_
  have hO := aM.start H0
  unfold nV at h0
  refine aP ?_
  refine aT aF 3 ?_
  refine gP 3 (aK x0) (by kernel_rfl) (by kernel_rfl) ?_
  refine gP 3 (aK y1) (by kernel_rfl) (by kernel_rfl) ?_
  refine bF ?_
  refine bG [(2, (.rp (aK x0))), (3, (.rp (aK y1)))] ?_
  refine aP ?_
  refine aT aF 13 ?_
  refine bO 10 ?_
  obtain ⟨x1, hx2, h0⟩ := aY h0
  refine iZ [(10, true)] 78 [(eL aL x0.Row), (eL aL y1.Row)] (aJ x1) ((decide (x0.Span.From = y1.Span.From)) && ((decide (x0.Span.To = y1.Span.To)) && true)) (by kernel_rfl) (by kernel_rfl) (by kernel_rfl) (fun hb3 => (JH x0.Row y1.Row _ (lE hx2 hb3))) hO ?_
  intro H hO
  refine bF ?_
  refine bG [(4, (aJ (((decide (x0.Span.From = y1.Span.From)) && ((decide (x0.Span.To = y1.Span.To)) && true)) && x1)))] ?_
  refine bM ?_
  obtain rfl := oI h0
  exact aH (Q_r hO)

theorem QM (a0 : (List aR)) (b1 : (List aR)) (r : Bool) (h0 : sP a0 b1 = some r) : bW Try.prog 41 [(eL aK a0), (eL aK b1)] (aJ r) := by
  intro H0
  refine cH Try.func41 ?_
  have hO := aM.start H0
  unfold sP at h0
  refine aX aF 1 [] [] ?_
  refine aP ?_
  refine aT aF 4 ?_
  refine bO 2 ?_
  obtain ⟨x1, hx2, h0⟩ := aY h0
  refine cI (mW a0 b1 82 [] [] (fun y0 y1 => nV y0 y1) (fun y0 y1 r h => ML y0 y1 r h) _ hx2) hO ?_
  intro H hO
  refine bF ?_
  refine bG [(4, (aJ x1))] ?_
  refine bM ?_
  obtain rfl := oI h0
  exact aH (Q_r hO)

theorem OD (a0 : (List aI)) (b1 : (List aI)) (r : Bool) (h0 : sZ a0 b1 = some r) : bW Try.prog 46 [(eL aL a0), (eL aL b1)] (aJ r) := by
  intro H0
  refine cH Try.func46 ?_
  have hO := aM.start H0
  unfold sZ at h0
  refine aX aF 1 [] [] ?_
  refine aP ?_
  refine aX aF 5 [] [(10, (aJ (!decide ((lN a0) = (lN b1)))))] ?_
  refine bN h0 (fun h0 => ?_) (fun h0 => ?_)
  · refine bV aF 1 [(4, (aJ false))] ?_
    refine bM ?_
    obtain rfl := oI h0
    exact aH (bB (Q_r hO))
  refine bP ?_
  refine bG [(0, (eL aL a0)), (1, (eL aL b1))] ?_
  refine cU (fun T H => Has T [] ∧ aM ⟨H0, [], []⟩ H [] ∧ sF  = some r) ?_ ?_
  · clear hO h0
    rintro T H ⟨hT, hO, h0⟩
    refine bD hT ?_
    clear hT
    unfold sF at h0
    refine bV aF 1 [(4, (aJ true))] ?_
    refine bM ?_
    obtain rfl := oI h0
    exact aH (Q_r hO)
  refine aX aF 1 [] [(5, (eI (0 : Int)))] ?_
  refine bR 0 ?_
  refine cR [(0, (eL aL a0)), (1, (eL aL b1)), (5, (eI (0 : Int)))] ?_
  refine cK (fun T H => ∃ i5 : Int, Has T [(0, (eL aL a0)), (1, (eL aL b1)), (5, (eI i5))] ∧ aM ⟨H0, [], []⟩ H [] ∧ vN a0 b1 i5 = some r) ?_ ⟨(0 : Int), .eq (by kernel_rfl), hO, h0⟩
  clear hO h0
  rintro T H ⟨i5, hT, hO, h0⟩
  refine bD hT ?_
  clear hT
  unfold vN at h0
  obtain ⟨rr0, hl0, h0⟩ := aY h0
  refine cB (by kernel_rfl) (fun (s : Int) T H => Has T [(0, (eL aL a0)), (1, (eL aL b1)), (5, (eI s))] ∧ aM ⟨H0, [], []⟩ H []) hl0 ⟨.eq (by kernel_rfl), hO⟩ ?_
  clear hO
  rintro k0 s out1 T H ⟨hT, hO⟩ h1 ho0
  obtain ⟨i5, rfl⟩ : ∃ x, x = s := ⟨_, rfl⟩
  replace h1 : oZ a0 b1 i5 = some out1 := h1
  refine bD hT ?_
  clear hT
  unfold oZ at h1
  refine aP ?_
  refine aX aF 4 [] [(14, (aJ (decide (i5 < (lN a0)))))] ?_
  refine bN h1 (fun h1 => ?_) (fun h1 => ?_)
  · refine bP ?_
    refine bG [(0, (eL aL a0)), (1, (eL aL b1)), (5, (eI i5))] ?_
    refine aP ?_
    refine bR 1 ?_
    refine aP ?_
    refine jF (jG [20, 24]) aF 9 ?_
    obtain ⟨c3, h1⟩ := bK h1
    obtain ⟨c4, h1⟩ := bK h1
    refine FW (Ds := [0 ≤ i5 ∧ i5 < (lN a0), 0 ≤ i5 ∧ i5 < (lN b1)]) (by kernel_rfl) ⟨c3, c4, trivial⟩ ?_
    refine bS [] [(25, (aJ (!((decide (((gD a0 i5).Kind) = ((gD b1 i5).Kind))) && ((decide (((gD a0 i5).Num) = ((gD b1 i5).Num))) && ((nX ((gD a0 i5).Text) ((gD b1 i5).Text)) && true))))))] ?_
    refine bN h1 (fun h1 => ?_) (fun h1 => ?_)
    · refine bV aF 1 [(4, (aJ false))] ?_
      refine bM ?_
      obtain rfl := oI h1
      obtain rfl : _ = rr0 := ho0
      replace h0 : some false = some r := h0
      obtain rfl := oI h0
      exact aH (bU (bB (bB (bU (bB (Q_r hO))))))
    refine bP ?_
    refine cX [(0, (eL aL a0)), (1, (eL aL b1)), (5, (eI i5))] ?_
    refine aH (aV (aG (?_)))
    refine aT aF 3 ?_
    refine bF ?_
    exact aH (aG (⟨rfl, _, (oI h1).symm, .eq (by kernel_rfl), hO⟩))
  refine dJ 0 ?_
  obtain rfl := oI h1
  obtain rfl : _ = rr0 := ho0
  replace h0 : sF  = some r := h0
  exact aH (aU (aU (bQ (aG (⟨rfl, .eq (by kernel_rfl), hO, h0⟩)))))

theorem PB (a0 : (List aR)) (b1 : (List aR)) (r : Bool) (h0 : qW a0 b1 = some r) : bW Try.prog 12 [(eL aK a0), (eL aK b1)] (aJ r) := by
  intro H0
  refine cH Try.func12 ?_
  have hO := aM.start H0
  unfold qW at h0
  refine aX aF 1 [] [] ?_
  refine aP ?_
  refine aX aF 5 [] [(10, (aJ (!decide ((lN a0) = (lN b1)))))] ?_
  refine bN h0 (fun h0 => ?_) (fun h0 => ?_)
  · refine bV aF 1 [(4, (aJ false))] ?_
    refine bM ?_
    obtain rfl := oI h0
    exact aH (bB (Q_r hO))
  refine bP ?_
  refine bG [(0, (eL aK a0)), (1, (eL aK b1))] ?_
  refine cU (fun T H => Has T [] ∧ aM ⟨H0, [], []⟩ H [] ∧ rK  = some r) ?_ ?_
  · clear hO h0
    rintro T H ⟨hT, hO, h0⟩
    refine bD hT ?_
    clear hT
    unfold rK at h0
    refine bV aF 1 [(4, (aJ true))] ?_
    refine bM ?_
    obtain rfl := oI h0
    exact aH (Q_r hO)
  refine aX aF 1 [] [(5, (eI (0 : Int)))] ?_
  refine bR 0 ?_
  refine cR [(0, (eL aK a0)), (1, (eL aK b1)), (5, (eI (0 : Int)))] ?_
  refine cK (fun T H => ∃ i5 : Int, Has T [(0, (eL aK a0)), (1, (eL aK b1)), (5, (eI i5))] ∧ aM ⟨H0, [], []⟩ H [] ∧ vO a0 b1 i5 = some r) ?_ ⟨(0 : Int), .eq (by kernel_rfl), hO, h0⟩
  clear hO h0
  rintro T H ⟨i5, hT, hO, h0⟩
  refine bD hT ?_
  clear hT
  unfold vO at h0
  obtain ⟨rr0, hl0, h0⟩ := aY h0
  refine cB (by kernel_rfl) (fun (s : Int) T H => Has T [(0, (eL aK a0)), (1, (eL aK b1)), (5, (eI s))] ∧ aM ⟨H0, [], []⟩ H []) hl0 ⟨.eq (by kernel_rfl), hO⟩ ?_
  clear hO
  rintro k0 s out1 T H ⟨hT, hO⟩ h1 ho0
  obtain ⟨i5, rfl⟩ : ∃ x, x = s := ⟨_, rfl⟩
  replace h1 : pH a0 b1 i5 = some out1 := h1
  refine bD hT ?_
  clear hT
  unfold pH at h1
  refine aP ?_
  refine aX aF 4 [] [(14, (aJ (decide (i5 < (lN a0)))))] ?_
  refine bN h1 (fun h1 => ?_) (fun h1 => ?_)
  · refine bP ?_
    refine bG [(0, (eL aK a0)), (1, (eL aK b1)), (5, (eI i5))] ?_
    refine aP ?_
    refine bR 1 ?_
    refine aP ?_
    obtain ⟨c3, h1⟩ := bK h1
    obtain ⟨c4, h1⟩ := bK h1
    obtain ⟨c5, h1⟩ := bK h1
    obtain ⟨c6, h1⟩ := bK h1
    obtain ⟨x7, hx8, h1⟩ := aY h1
    refine jF (jG [21, 26, 33, 38]) aF 25 ?_
    refine BY (K := fun T H => Has (lift T) [(0, (eL aK a0)), (1, (eL aK b1)), (5, (eI i5)), (41, (aJ ((!((decide ((((gD a0 i5).Span).From) = (((gD b1 i5).Span).From))) && ((decide ((((gD a0 i5).Span).To) = (((gD b1 i5).Span).To))) && true))) || (!x7))))] ∧ aM ⟨H0, [], []⟩ H []) ?_ ?_
    · refine dN 12 [0 ≤ i5 ∧ i5 < (lN a0), 0 ≤ i5 ∧ i5 < (lN b1)] ⟨c3, c4, trivial⟩ ?_
      refine BU (t := 28) (e := !((decide ((((gD a0 i5).Span).From) = (((gD b1 i5).Span).From))) && ((decide ((((gD a0 i5).Span).To) = (((gD b1 i5).Span).To))) && true))) (by kernel_rfl) (fun hg9 => ?_) (fun hg9 => ?_)
      · refine pV ?_
        exact ⟨⟨[(0, (eL aK a0)), (1, (eL aK b1)), (5, (eI i5)), (41, (aJ true))], by kernel_rfl, rfl, ⟨aZ.refl _, aZ.refl _, aZ.refl _, aZ.eq (congrArg aJ (aAs hg9 rfl).symm), trivial⟩⟩, hO⟩
      refine dN 22 [0 ≤ i5 ∧ i5 < (lN a0), 0 ≤ i5 ∧ i5 < (lN b1)] ⟨(c5 (TW hg9)), (c6 (TW hg9)), trivial⟩ ?_
      refine JY 46 [(eL aL ((gD a0 i5).Row)), (eL aL ((gD b1 i5).Row))] (aJ x7) (by kernel_rfl) (by kernel_rfl) (OD ((gD a0 i5).Row) ((gD b1 i5).Row) _ (lE hx8 (TW hg9))) hO ?_
      intro H hO
      refine pV ?_
      exact ⟨⟨[(0, (eL aK a0)), (1, (eL aK b1)), (5, (eI i5)), (41, (aJ (!x7)))], by kernel_rfl, rfl, ⟨aZ.refl _, aZ.refl _, aZ.refl _, aZ.eq (congrArg aJ (aAs hg9 rfl).symm), trivial⟩⟩, hO⟩
    · rintro T H ⟨hT, hO⟩
      refine cN hT ?_
      clear hT
      refine aH (aG ?_)
      refine bN h1 (fun h1 => ?_) (fun h1 => ?_)
      · refine bV aF 1 [(4, (aJ false))] ?_
        refine bM ?_
        obtain rfl := oI h1
        obtain rfl : _ = rr0 := ho0
        replace h0 : some false = some r := h0
        obtain rfl := oI h0
        exact aH (bU (bB (bB (bU (bB (Q_r hO))))))
      refine bP ?_
      refine cX [(0, (eL aK a0)), (1, (eL aK b1)), (5, (eI i5))] ?_
      refine aH (aV (aG (?_)))
      refine aT aF 3 ?_
      refine bF ?_
      exact aH (aG (⟨rfl, _, (oI h1).symm, .eq (by kernel_rfl), hO⟩))
  refine dJ 0 ?_
  obtain rfl := oI h1
  obtain rfl : _ = rr0 := ho0
  replace h0 : rK  = some r := h0
  exact aH (aU (aU (bQ (aG (⟨rfl, .eq (by kernel_rfl), hO, h0⟩)))))

theorem FK  (r : Bool) (h0 : qF  = some r) : bW Try.prog 10 [] (aJ r) := by
  intro H0
  refine cH Try.func10 ?_
  have hO := aM.start H0
  unfold qF at h0
  refine bV aF 1 [] ?_
  refine aP ?_
  refine aT aF 9 ?_
  obtain ⟨x1, hx2, h0⟩ := aY h0
  refine cI (nK (5 : Int) (9 : Int) _ hx2) hO ?_
  intro H hO
  obtain ⟨x4, hx5, h0⟩ := aY h0
  refine cI (nK (2 : Int) (5 : Int) _ hx5) hO ?_
  intro H hO
  refine pL (xs := [(aK x1), (aK x4)]) (k := 3) (by kernel_rfl) (by kernel_rfl) ?_
  obtain ⟨x7, hx8, h0⟩ := aY h0
  refine aAK 11 [(dY [(aK x1), (aK x4)])] (.tup [(eL aK x7.1), (eI x7.2)]) (bW.sub (GQ ([x1, x4]) _ hx8) ⟨BW (l := [x1, x4]), trivial⟩) hO ?_
  intro H hO
  refine bF ?_
  refine bG [(1, (eL aK x7.1)), (2, (eI x7.2))] ?_
  refine aP ?_
  refine aT aF 9 ?_
  obtain ⟨x10, hx11, h0⟩ := aY h0
  refine cI (nK (1 : Int) (10 : Int) _ hx11) hO ?_
  intro H hO
  obtain ⟨x13, hx14, h0⟩ := aY h0
  refine cI (nK (3 : Int) (5 : Int) _ hx14) hO ?_
  intro H hO
  refine pL (xs := [(aK x10), (aK x13)]) (k := 3) (by kernel_rfl) (by kernel_rfl) ?_
  obtain ⟨x16, hx17, h0⟩ := aY h0
  refine aAK 11 [(dY [(aK x10), (aK x13)])] (.tup [(eL aK x16.1), (eI x16.2)]) (bW.sub (GQ ([x10, x13]) _ hx17) ⟨BW (l := [x10, x13]), trivial⟩) hO ?_
  intro H hO
  refine bF ?_
  refine bS [] [(3, (eL aK x16.1)), (4, (eI x16.2))] ?_
  refine aP ?_
  refine aT aF 29 ?_
  refine bO 8 ?_
  obtain ⟨x19, hx20, h0⟩ := aY h0
  refine iZ [(25, true)] 44 [(eI (2 : Int)), (eI (9 : Int))] (aK x19) ((decide (x7.2 = (0 : Int))) && (decide (x16.2 = (0 : Int)))) (by kernel_rfl) (by kernel_rfl) (by kernel_rfl) (fun hb21 => (nK (2 : Int) (9 : Int) _ (lE hx20 hb21))) hO ?_
  intro H hO
  refine VL [(25, true)] [(aK x19)] (by kernel_rfl) (by kernel_rfl) ?_
  obtain ⟨x22, hx23, h0⟩ := aY h0
  refine iZ [(25, true)] 41 [(eL aK x7.1), (dY [(aK x19)])] (aJ x22) ((decide (x7.2 = (0 : Int))) && (decide (x16.2 = (0 : Int)))) (by kernel_rfl) (by kernel_rfl) (by kernel_rfl) (fun hb24 => (bW.sub (QM x7.1 ([x19]) _ (lE hx23 hb24)) ⟨aZ.refl _, BW (l := [x19]), trivial⟩)) hO ?_
  intro H hO
  refine bO 14 ?_
  obtain ⟨x25, hx26, h0⟩ := aY h0
  refine iZ [(31, true)] 44 [(eI (1 : Int)), (eI (5 : Int))] (aK x25) (((decide (x7.2 = (0 : Int))) && (decide (x16.2 = (0 : Int)))) && x22) (by kernel_rfl) (by kernel_rfl) (by kernel_rfl) (fun hb27 => (nK (1 : Int) (5 : Int) _ (lE hx26 hb27))) hO ?_
  intro H hO
  obtain ⟨x28, hx29, h0⟩ := aY h0
  refine iZ [(31, true)] 44 [(eI (3 : Int)), (eI (10 : Int))] (aK x28) (((decide (x7.2 = (0 : Int))) && (decide (x16.2 = (0 : Int)))) && x22) (by kernel_rfl) (by kernel_rfl) (by kernel_rfl) (fun hb30 => (nK (3 : Int) (10 : Int) _ (lE hx29 hb30))) hO ?_
  intro H hO
  refine VL [(31, true)] [(aK x25), (aK x28)] (by kernel_rfl) (by kernel_rfl) ?_
  obtain ⟨x31, hx32, h0⟩ := aY h0
  refine iZ [(31, true)] 12 [(eL aK x16.1), (dY [(aK x25), (aK x28)])] (aJ x31) (((decide (x7.2 = (0 : Int))) && (decide (x16.2 = (0 : Int)))) && x22) (by kernel_rfl) (by kernel_rfl) (by kernel_rfl) (fun hb33 => (bW.sub (PB x16.1 ([x25, x28]) _ (lE hx32 hb33)) ⟨aZ.refl _, BW (l := [x25, x28]), trivial⟩)) hO ?_
  intro H hO
  refine bO 20 ?_
  obtain ⟨x34, hx35, h0⟩ := aY h0
  refine iZ [(38, true)] 44 [(eI (-1 : Int)), (eI (0 : Int))] (aK x34) ((((decide (x7.2 = (0 : Int))) && (decide (x16.2 = (0 : Int)))) && x22) && x31) (by kernel_rfl) (by kernel_rfl) (by kernel_rfl) (fun hb36 => (nK (-1 : Int) (0 : Int) _ (lE hx35 hb36))) hO ?_
  intro H hO
  obtain ⟨x37, hx38, h0⟩ := aY h0
  refine iZ [(38, true)] 45 [(aK x34)] (aJ x37) ((((decide (x7.2 = (0 : Int))) && (decide (x16.2 = (0 : Int)))) && x22) && x31) (by kernel_rfl) (by kernel_rfl) (by kernel_rfl) (fun hb39 => (CW x34 _ (lE hx38 hb39))) hO ?_
  intro H hO
  refine bO 24 ?_
  obtain ⟨x40, hx41, h0⟩ := aY h0
  refine iZ [(42, true)] 44 [(eI (3 : Int)), (eI (3 : Int))] (aK x40) (((((decide (x7.2 = (0 : Int))) && (decide (x16.2 = (0 : Int)))) && x22) && x31) && x37) (by kernel_rfl) (by kernel_rfl) (by kernel_rfl) (fun hb42 => (nK (3 : Int) (3 : Int) _ (lE hx41 hb42))) hO ?_
  intro H hO
  obtain ⟨x43, hx44, h0⟩ := aY h0
  refine iZ [(42, true)] 45 [(aK x40)] (aJ x43) (((((decide (x7.2 = (0 : Int))) && (decide (x16.2 = (0 : Int)))) && x22) && x31) && x37) (by kernel_rfl) (by kernel_rfl) (by kernel_rfl) (fun hb45 => (CW x40 _ (lE hx44 hb45))) hO ?_
  intro H hO
  refine bF ?_
  refine bG [(0, (aJ ((((((decide (x7.2 = (0 : Int))) && (decide (x16.2 = (0 : Int)))) && x22) && x31) && x37) && (!x43))))] ?_
  refine bM ?_
  obtain rfl := oI h0
  exact aH (Q_r hO)

theorem QF (n0 : Int) (r : Bool) (h0 : yF n0 = some r) : bW Try.prog 30 [(eI n0)] (aJ r) := by
  intro H0
  refine cH Try.func30 ?_
  have hO := aM.start H0
  unfold yF at h0
  refine aX aF 1 [] [] ?_
  refine bV aF 3 [(2, (aJ (decide (n0 ≤ (60 : Int)))))] ?_
  refine bM ?_
  obtain rfl := oI h0
  exact aH (Q_r hO)

theorem NG (f0 : (List aB)) (r : ((List aQ) × Int)) (h0 : tA f0 = some r) : bW Try.prog 31 [(eL aC f0)] (.tup [(eL aW r.1), (eI r.2)]) := by
  intro H0
  refine cH Try.func31 ?_
  have hO := aM.start H0
  unfold tA at h0
  refine aX aF 2 [] [] ?_
  refine aP ?_
  refine bR 0 ?_
  refine aP ?_
  refine aT aF 4 ?_
  refine bO 1 ?_
  obtain ⟨x1, hx2, h0⟩ := aY h0
  refine cI (wP f0 _ hx2) hO ?_
  intro H hO
  refine bF ?_
  refine bS [] [(4, (aJ (!x1)))] ?_
  refine bN h0 (fun h0 => ?_) (fun h0 => ?_)
  · refine bV aF 2 [(2, (.sl true 0 (fun _ => .bad))), (3, (eI (2 : Int)))] ?_
    refine bM ?_
    refine cN (l := [(2, (eL aW ([]))), (3, (eI (2 : Int)))]) ⟨[(2, (.sl true 0 (fun _ => .bad))), (3, (eI (2 : Int)))], by kernel_rfl, rfl, ⟨eF, aZ.refl _, trivial⟩⟩ ?_
    obtain rfl := oI h0
    exact aH (bU (bB (Q_r hO)))
  refine aP ?_
  refine aT aF 4 ?_
  refine bO 1 ?_
  obtain ⟨x5, hx6, h0⟩ := aY h0
  refine cI (FI f0 _ hx6) hO ?_
  intro H hO
  refine bF ?_
  refine bS [4] [(8, (aJ (decide (x5 < (0 : Int)))))] ?_
  refine bN h0 (fun h0 => ?_) (fun h0 => ?_)
  · refine bV aF 2 [(2, (.sl true 0 (fun _ => .bad))), (3, (eI (20 : Int)))] ?_
    refine bM ?_
    refine cN (l := [(2, (eL aW ([]))), (3, (eI (20 : Int)))]) ⟨[(2, (.sl true 0 (fun _ => .bad))), (3, (eI (20 : Int)))], by kernel_rfl, rfl, ⟨eF, aZ.refl _, trivial⟩⟩ ?_
    obtain rfl := oI h0
    exact aH (bU (bB (Q_r hO)))
  refine aP ?_
  refine aT aF 4 ?_
  refine bO 1 ?_
  obtain ⟨x9, hx10, h0⟩ := aY h0
  refine cI (BD f0 _ hx10) hO ?_
  intro H hO
  refine bF ?_
  refine bS [8] [(12, (aJ (decide ((4096 : Int) < x9))))] ?_
  refine bN h0 (fun h0 => ?_) (fun h0 => ?_)
  · refine bV aF 2 [(2, (.sl true 0 (fun _ => .bad))), (3, (eI (7 : Int)))] ?_
    refine bM ?_
    refine cN (l := [(2, (eL aW ([]))), (3, (eI (7 : Int)))]) ⟨[(2, (.sl true 0 (fun _ => .bad))), (3, (eI (7 : Int)))], by kernel_rfl, rfl, ⟨eF, aZ.refl _, trivial⟩⟩ ?_
    obtain rfl := oI h0
    exact aH (bU (bB (Q_r hO)))
  refine bP ?_
  refine cX [(0, (eL aC f0))] ?_
  refine aH (aV (aG (?_)))
  refine aP ?_
  refine aT aF 4 ?_
  refine bO 1 ?_
  obtain ⟨x13, hx14, h0⟩ := aY h0
  refine cI (EY f0 _ hx14) hO ?_
  intro H hO
  refine bF ?_
  refine bG [(2, (eL aW x13)), (3, (eI (0 : Int)))] ?_
  refine bM ?_
  obtain rfl := oI h0
  exact aH (Q_r hO)

theorem GJ (f0 : (List aB)) (r : Bool) (h0 : sN f0 = some r) : bW Try.prog 72 [(eL aC f0)] (aJ r) := by
  intro H0
  refine cH Try.func72 ?_
  have hO := aM.start H0
  unfold sN at h0
  refine aX aF 1 [] [] ?_
  refine aP ?_
  refine aX aF 3 [] [(6, (aJ (decide ((1024 : Int) < (lN f0)))))] ?_
  refine bN h0 (fun h0 => ?_) (fun h0 => ?_)
  · refine bV aF 1 [(2, (aJ false))] ?_
    refine bM ?_
    obtain rfl := oI h0
    exact aH (bB (Q_r hO))
  refine bP ?_
  refine bG [(0, (eL aC f0))] ?_
  refine cU (fun T H => Has T [] ∧ aM ⟨H0, [], []⟩ H [] ∧ tD  = some r) ?_ ?_
  · clear hO h0
    rintro T H ⟨hT, hO, h0⟩
    refine bD hT ?_
    clear hT
    unfold tD at h0
    refine bV aF 1 [(2, (aJ true))] ?_
    refine bM ?_
    obtain rfl := oI h0
    exact aH (Q_r hO)
  refine aX aF 1 [] [(3, (eI (0 : Int)))] ?_
  refine bR 0 ?_
  refine cR [(0, (eL aC f0)), (3, (eI (0 : Int)))] ?_
  refine cK (fun T H => ∃ i3 : Int, Has T [(0, (eL aC f0)), (3, (eI i3))] ∧ aM ⟨H0, [], []⟩ H [] ∧ xJ f0 i3 = some r) ?_ ⟨(0 : Int), .eq (by kernel_rfl), hO, h0⟩
  clear hO h0
  rintro T H ⟨i3, hT, hO, h0⟩
  refine bD hT ?_
  clear hT
  unfold xJ at h0
  obtain ⟨rr0, hl0, h0⟩ := aY h0
  refine cB (by kernel_rfl) (fun (s : Int) T H => Has T [(0, (eL aC f0)), (3, (eI s))] ∧ aM ⟨H0, [], []⟩ H []) hl0 ⟨.eq (by kernel_rfl), hO⟩ ?_
  clear hO
  rintro k0 s out1 T H ⟨hT, hO⟩ h1 ho0
  obtain ⟨i3, rfl⟩ : ∃ x, x = s := ⟨_, rfl⟩
  replace h1 : lC f0 i3 = some out1 := h1
  refine bD hT ?_
  clear hT
  unfold lC at h1
  refine aP ?_
  refine aX aF 4 [] [(10, (aJ (decide (i3 < (lN f0)))))] ?_
  refine bN h1 (fun h1 => ?_) (fun h1 => ?_)
  · refine bP ?_
    refine bG [(0, (eL aC f0)), (3, (eI i3))] ?_
    refine aP ?_
    refine bR 1 ?_
    refine aP ?_
    refine aP ?_
    refine aT aF 38 ?_
    obtain ⟨c3, h1⟩ := bK h1
    obtain ⟨c4, h1⟩ := bK h1
    obtain ⟨c5, h1⟩ := bK h1
    obtain ⟨c6, h1⟩ := bK h1
    obtain ⟨c7, h1⟩ := bK h1
    refine rG [0 ≤ i3 ∧ i3 < (lN f0), (((!(decide (((gD f0 i3).At) < (-1 : Int))))) = true → 0 ≤ i3 ∧ i3 < (lN f0)), (((!((decide (((gD f0 i3).At) < (-1 : Int))) || (decide ((1125899906842624 : Int) ≤ ((gD f0 i3).At)))))) = true → 0 ≤ i3 ∧ i3 < (lN f0)), (((!(((decide (((gD f0 i3).At) < (-1 : Int))) || (decide ((1125899906842624 : Int) ≤ ((gD f0 i3).At)))) || (decide (((gD f0 i3).Net) = (0 : Int)))))) = true → 0 ≤ i3 ∧ i3 < (lN f0)), (((!((((decide (((gD f0 i3).At) < (-1 : Int))) || (decide ((1125899906842624 : Int) ≤ ((gD f0 i3).At)))) || (decide (((gD f0 i3).Net) = (0 : Int)))) || (decide ((1048576 : Int) < ((gD f0 i3).Net)))))) = true → 0 ≤ i3 ∧ i3 < (lN f0))] ⟨c3, c4, c5, c6, c7, trivial⟩ ?_
    refine bS [] [(50, (aJ (((((decide (((gD f0 i3).At) < (-1 : Int))) || (decide ((1125899906842624 : Int) ≤ ((gD f0 i3).At)))) || (decide (((gD f0 i3).Net) = (0 : Int)))) || (decide ((1048576 : Int) < ((gD f0 i3).Net)))) || (decide (((gD f0 i3).Net) < (-1048576 : Int))))))] ?_
    refine bN h1 (fun h1 => ?_) (fun h1 => ?_)
    · refine bV aF 1 [(2, (aJ false))] ?_
      refine bM ?_
      obtain rfl := oI h1
      obtain rfl : _ = rr0 := ho0
      replace h0 : some false = some r := h0
      obtain rfl := oI h0
      exact aH (bB (bU (bB (bB (bU (bB (Q_r hO)))))))
    refine bP ?_
    refine bG [(0, (eL aC f0)), (3, (eI i3))] ?_
    refine aP ?_
    obtain ⟨c9, h1⟩ := bK h1
    obtain ⟨c10, h1⟩ := bK h1
    refine jF (jG [58, 64]) aF 16 ?_
    refine BY (K := fun T H => Has (lift T) [(0, (eL aC f0)), (3, (eI i3)), (66, (aJ ((decide ((0 : Int) < i3)) && (decide (((gD f0 i3).At) ≤ ((gD f0 (wR (i3 - (1 : Int)))).At))))))] ∧ aM ⟨H0, [], []⟩ H []) ?_ ?_
    · refine tJ 3 ?_
      refine BU (t := 53) (e := decide ((0 : Int) < i3)) (by kernel_rfl) (fun hg11 => ?_) (fun hg11 => ?_)
      · refine FW (Ds := [0 ≤ i3 ∧ i3 < (lN f0), 0 ≤ (wR (i3 - (1 : Int))) ∧ (wR (i3 - (1 : Int))) < (lN f0)]) (by kernel_rfl) ⟨(c9 hg11), (c10 hg11), trivial⟩ ?_
        exact ⟨⟨[(0, (eL aC f0)), (3, (eI i3)), (66, (aJ (decide (((gD f0 i3).At) ≤ ((gD f0 (wR (i3 - (1 : Int)))).At)))))], by kernel_rfl, rfl, ⟨aZ.refl _, aZ.refl _, aZ.eq (congrArg aJ (AR hg11 rfl).symm), trivial⟩⟩, hO⟩
      refine pV ?_
      exact ⟨⟨[(0, (eL aC f0)), (3, (eI i3)), (66, (aJ false))], by kernel_rfl, rfl, ⟨aZ.refl _, aZ.refl _, aZ.eq (congrArg aJ (AR hg11 rfl).symm), trivial⟩⟩, hO⟩
    · rintro T H ⟨hT, hO⟩
      refine cN hT ?_
      clear hT
      refine aH (aG ?_)
      refine bN h1 (fun h1 => ?_) (fun h1 => ?_)
      · refine bV aF 1 [(2, (aJ false))] ?_
        refine bM ?_
        obtain rfl := oI h1
        obtain rfl : _ = rr0 := ho0
        replace h0 : some false = some r := h0
        obtain rfl := oI h0
        exact aH (bU (bB (bB (bU (bB (Q_r hO))))))
      refine bP ?_
      refine cX [(0, (eL aC f0)), (3, (eI i3))] ?_
      refine aH (aV (aG (?_)))
      refine aT aF 3 ?_
      refine bF ?_
      exact aH (aG (⟨rfl, _, (oI h1).symm, .eq (by kernel_rfl), hO⟩))
  refine dJ 0 ?_
  obtain rfl := oI h1
  obtain rfl : _ = rr0 := ho0
  replace h0 : tD  = some r := h0
  exact aH (aU (aU (bQ (aG (⟨rfl, .eq (by kernel_rfl), hO, h0⟩)))))

theorem yZ (f0 : (List aB)) (t1 : Int) (r : Int) (h0 : mM f0 t1 = some r) : bW Try.prog 76 [(eL aC f0), (eI t1)] (eI r) := by
  intro H0
  refine cH Try.func76 ?_
  have hO := aM.start H0
  unfold mM at h0
  refine aX aF 1 [] [] ?_
  refine aX aF 1 [] [(5, (eI (0 : Int)))] ?_
  refine cU (fun T H => ∃ v5 : Int, Has T [(5, (eI v5))] ∧ aM ⟨H0, [], []⟩ H [] ∧ qQ v5 = some r) ?_ ?_
  · clear hO h0
    rintro T H ⟨v5, hT, hO, h0⟩
    refine bD hT ?_
    clear hT
    unfold qQ at h0
    refine bV aF 2 [(4, (eI v5))] ?_
    refine bM ?_
    obtain rfl := oI h0
    exact aH (Q_r hO)
  refine aX aF 1 [] [(6, (eI (0 : Int)))] ?_
  refine bR 0 ?_
  refine cR [(0, (eL aC f0)), (1, (eI t1)), (5, (eI (0 : Int))), (6, (eI (0 : Int)))] ?_
  refine cK (fun T H => ∃ v5 : Int, ∃ i6 : Int, Has T [(0, (eL aC f0)), (1, (eI t1)), (5, (eI v5)), (6, (eI i6))] ∧ aM ⟨H0, [], []⟩ H [] ∧ tX f0 t1 v5 i6 = some r) ?_ ⟨(0 : Int), (0 : Int), .eq (by kernel_rfl), hO, h0⟩
  clear hO h0
  rintro T H ⟨v5, i6, hT, hO, h0⟩
  refine bD hT ?_
  clear hT
  unfold tX at h0
  obtain ⟨rr0, hl0, h0⟩ := aY h0
  refine cB (by kernel_rfl) (fun (s : Int × Int) T H => Has T [(0, (eL aC f0)), (1, (eI t1)), (5, (eI s.1)), (6, (eI s.2))] ∧ aM ⟨H0, [], []⟩ H []) hl0 ⟨.eq (by kernel_rfl), hO⟩ ?_
  clear hO
  rintro k0 s out1 T H ⟨hT, hO⟩ h1 ho0
  obtain ⟨v5, i6⟩ := s
  replace h1 : iS f0 t1 v5 i6 = some out1 := h1
  try dsimp only at hT
  refine bD hT ?_
  clear hT
  unfold iS at h1
  refine aP ?_
  refine aX aF 4 [] [(10, (aJ (decide (i6 < (lN f0)))))] ?_
  refine bN h1 (fun h1 => ?_) (fun h1 => ?_)
  · refine bP ?_
    refine bG [(0, (eL aC f0)), (1, (eI t1)), (5, (eI v5)), (6, (eI i6))] ?_
    refine cU (fun T H => ∃ v5 : Int, Has T [(0, (eL aC f0)), (1, (eI t1)), (5, (eI v5)), (6, (eI i6))] ∧ aM ⟨H0, [], []⟩ H [] ∧ oL f0 t1 v5 i6 = some out1) ?_ ?_
    · clear hO h1
      rintro T H ⟨v5, hT, hO, h1⟩
      refine bD hT ?_
      clear hT
      unfold oL at h1
      refine aT aF 3 ?_
      refine bF ?_
      exact aH (aG (⟨rfl, _, (oI h1).symm, .eq (by kernel_rfl), hO⟩))
    refine bR 1 ?_
    refine aP ?_
    refine aT aF 7 ?_
    obtain ⟨c2, h1⟩ := bK h1
    refine rG [0 ≤ i6 ∧ i6 < (lN f0)] ⟨c2, trivial⟩ ?_
    refine bS [] [(19, (aJ (decide (((gD f0 i6).At) ≤ t1))))] ?_
    refine bN h1 (fun h1 => ?_) (fun h1 => ?_)
    · refine aT aF 8 ?_
      obtain ⟨c4, h1⟩ := bK h1
      refine rG [0 ≤ i6 ∧ i6 < (lN f0)] ⟨c4, trivial⟩ ?_
      exact aH (aV (aG (⟨rfl, _, .eq (by kernel_rfl), hO, h1⟩)))
    refine bP ?_
    exact aH (aV (aG (⟨rfl, _, .eq (by kernel_rfl), hO, h1⟩)))
  refine dJ 0 ?_
  obtain rfl := oI h1
  obtain rfl : _ = rr0 := ho0
  replace h0 : qQ v5 = some r := h0
  exact aH (aU (aU (bQ (aG (⟨rfl, _, .eq (by kernel_rfl), hO, h0⟩)))))

theorem MH (f0 : (List aB)) (r : Int) (h0 : rR f0 = some r) : bW Try.prog 73 [(eL aC f0)] (eI r) := by
  intro H0
  refine cH Try.func73 ?_
  have hO := aM.start H0
  unfold rR at h0
  refine aX aF 1 [] [] ?_
  refine aP ?_
  refine aP ?_
  refine aT aF 3 ?_
  refine bO 1 ?_
  obtain ⟨x1, hx2, h0⟩ := aY h0
  refine cI (GJ f0 _ hx2) hO ?_
  intro H hO
  refine bF ?_
  refine bS [] [(7, (aJ (!x1)))] ?_
  refine bN h0 (fun h0 => ?_) (fun h0 => ?_)
  · refine bV aF 1 [(2, (eI (0 : Int)))] ?_
    refine bM ?_
    obtain rfl := oI h0
    exact aH (bB (Q_r hO))
  refine bP ?_
  refine bG [(0, (eL aC f0))] ?_
  refine aP ?_
  refine aT aF 3 ?_
  refine bO 1 ?_
  obtain ⟨x5, hx6, h0⟩ := aY h0
  refine cI (yZ f0 (-1 : Int) _ hx6) hO ?_
  intro H hO
  refine bF ?_
  refine bS [] [(3, (eI x5))] ?_
  refine cU (fun T H => ∃ m3 : Int, Has T [(3, (eI m3))] ∧ aM ⟨H0, [], []⟩ H [] ∧ qT m3 = some r) ?_ ?_
  · clear hO h0
    rintro T H ⟨m3, hT, hO, h0⟩
    refine bD hT ?_
    clear hT
    unfold qT at h0
    refine bV aF 2 [(2, (eI m3))] ?_
    refine bM ?_
    obtain rfl := oI h0
    exact aH (Q_r hO)
  refine aX aF 1 [] [(4, (eI (0 : Int)))] ?_
  refine bR 0 ?_
  refine cR [(0, (eL aC f0)), (3, (eI x5)), (4, (eI (0 : Int)))] ?_
  refine cK (fun T H => ∃ m3 : Int, ∃ i4 : Int, Has T [(0, (eL aC f0)), (3, (eI m3)), (4, (eI i4))] ∧ aM ⟨H0, [], []⟩ H [] ∧ uE f0 m3 i4 = some r) ?_ ⟨x5, (0 : Int), .eq (by kernel_rfl), hO, h0⟩
  clear hO h0
  rintro T H ⟨m3, i4, hT, hO, h0⟩
  refine bD hT ?_
  clear hT
  unfold uE at h0
  obtain ⟨rr0, hl0, h0⟩ := aY h0
  refine cB (by kernel_rfl) (fun (s : Int × Int) T H => Has T [(0, (eL aC f0)), (3, (eI s.1)), (4, (eI s.2))] ∧ aM ⟨H0, [], []⟩ H []) hl0 ⟨.eq (by kernel_rfl), hO⟩ ?_
  clear hO
  rintro k0 s out1 T H ⟨hT, hO⟩ h1 ho0
  obtain ⟨m3, i4⟩ := s
  replace h1 : lS f0 m3 i4 = some out1 := h1
  try dsimp only at hT
  refine bD hT ?_
  clear hT
  unfold lS at h1
  refine aP ?_
  refine aX aF 4 [] [(13, (aJ (decide (i4 < (lN f0)))))] ?_
  refine bN h1 (fun h1 => ?_) (fun h1 => ?_)
  · refine bP ?_
    refine bG [(0, (eL aC f0)), (3, (eI m3)), (4, (eI i4))] ?_
    refine cU (fun T H => ∃ m3 : Int, Has T [(0, (eL aC f0)), (3, (eI m3)), (4, (eI i4))] ∧ aM ⟨H0, [], []⟩ H [] ∧ qR f0 m3 i4 = some out1) ?_ ?_
    · clear hO h1
      rintro T H ⟨m3, hT, hO, h1⟩
      refine bD hT ?_
      clear hT
      unfold qR at h1
      refine aT aF 3 ?_
      refine bF ?_
      exact aH (aG (⟨rfl, _, (oI h1).symm, .eq (by kernel_rfl), hO⟩))
    refine bR 1 ?_
    refine aP ?_
    refine aT aF 9 ?_
    obtain ⟨c9, h1⟩ := bK h1
    refine oS 6 [0 ≤ i4 ∧ i4 < (lN f0)] ⟨c9, trivial⟩ ?_
    obtain ⟨x10, hx11, h1⟩ := aY h1
    refine cI (yZ f0 ((gD f0 i4).At) _ hx11) hO ?_
    intro H hO
    refine bF ?_
    refine bS [] [(24, (aJ (decide (x10 < m3))))] ?_
    refine bN h1 (fun h1 => ?_) (fun h1 => ?_)
    · refine aT aF 8 ?_
      obtain ⟨c14, h1⟩ := bK h1
      refine oS 6 [0 ≤ i4 ∧ i4 < (lN f0)] ⟨c14, trivial⟩ ?_
      obtain ⟨x15, hx16, h1⟩ := aY h1
      refine cI (yZ f0 ((gD f0 i4).At) _ hx16) hO ?_
      intro H hO
      refine bF ?_
      exact aH (aV (aG (⟨rfl, _, .eq (by kernel_rfl), hO, h1⟩)))
    refine bP ?_
    exact aH (aV (aG (⟨rfl, _, .eq (by kernel_rfl), hO, h1⟩)))
  refine dJ 0 ?_
  obtain rfl := oI h1
  obtain rfl : _ = rr0 := ho0
  replace h0 : qT m3 = some r := h0
  exact aH (aU (aU (bQ (aG (⟨rfl, _, .eq (by kernel_rfl), hO, h0⟩)))))

theorem MJ (f0 : (List aB)) (r : ((List aQ) × Int)) (h0 : rU f0 = some r) : bW Try.prog 32 [(eL aC f0)] (.tup [(eL aW r.1), (eI r.2)]) := by
  intro H0
  refine cH Try.func32 ?_
  have hO := aM.start H0
  unfold rU at h0
  refine aX aF 2 [] [] ?_
  refine aP ?_
  refine aP ?_
  refine aT aF 3 ?_
  refine bO 1 ?_
  obtain ⟨x1, hx2, h0⟩ := aY h0
  refine cI (GJ f0 _ hx2) hO ?_
  intro H hO
  refine bF ?_
  refine bS [] [(16, (aJ (!x1)))] ?_
  refine bN h0 (fun h0 => ?_) (fun h0 => ?_)
  · refine bV aF 2 [(2, (.sl true 0 (fun _ => .bad))), (3, (eI (2 : Int)))] ?_
    refine bM ?_
    refine cN (l := [(2, (eL aW ([]))), (3, (eI (2 : Int)))]) ⟨[(2, (.sl true 0 (fun _ => .bad))), (3, (eI (2 : Int)))], by kernel_rfl, rfl, ⟨eF, aZ.refl _, trivial⟩⟩ ?_
    obtain rfl := oI h0
    exact aH (bB (Q_r hO))
  refine bP ?_
  refine bG [(0, (eL aC f0))] ?_
  refine aP ?_
  refine aP ?_
  refine aT aF 3 ?_
  refine bO 1 ?_
  obtain ⟨x5, hx6, h0⟩ := aY h0
  refine cI (MH f0 _ hx6) hO ?_
  intro H hO
  refine bF ?_
  refine bS [] [(19, (aJ (decide (x5 < (0 : Int)))))] ?_
  refine bN h0 (fun h0 => ?_) (fun h0 => ?_)
  · refine bV aF 2 [(2, (.sl true 0 (fun _ => .bad))), (3, (eI (20 : Int)))] ?_
    refine bM ?_
    refine cN (l := [(2, (eL aW ([]))), (3, (eI (20 : Int)))]) ⟨[(2, (.sl true 0 (fun _ => .bad))), (3, (eI (20 : Int)))], by kernel_rfl, rfl, ⟨eF, aZ.refl _, trivial⟩⟩ ?_
    obtain rfl := oI h0
    exact aH (bB (Q_r hO))
  refine bP ?_
  refine bG [(0, (eL aC f0))] ?_
  refine aP ?_
  refine aT aF 2 ?_
  refine pL (xs := []) (k := 1) (by kernel_rfl) (by kernel_rfl) ?_
  refine bF ?_
  refine bS [] [(4, (.sl true 0 (fun _ => .bad)))] ?_
  refine aP ?_
  refine aT aF 2 ?_
  refine pL (xs := []) (k := 1) (by kernel_rfl) (by kernel_rfl) ?_
  refine bF ?_
  refine bS [] [(5, (.sl true 0 (fun _ => .bad)))] ?_
  refine aX aF 1 [] [(6, (eI (0 : Int)))] ?_
  refine cU (fun T H => ∃ bC : List Int, ∃ bI : List Int, ∃ n6 : Int, ∃ lo9 : Nat, ∃ lo10 : Nat, Has T [(0, (eL aC f0)), (4, (.msl 1 lo9 0 (List.length bC))), (5, (.msl 1 lo10 0 (List.length bI))), (6, (eI n6))] ∧ aM ⟨H0, [], []⟩ H [(lo9, 1, List.map (eI) bC), (lo10, 1, List.map (eI) bI)] ∧ oP f0 bC bI n6 = some r) ?_ ?_
  · clear hO h0
    rintro T H ⟨bC, bI, n6, lo9, lo10, hT, hO, h0⟩
    refine bD hT ?_
    clear hT
    unfold oP at h0
    refine aP ?_
    refine aX aF 2 [6] [(42, (aJ (decide ((4096 : Int) < n6))))] ?_
    refine bN h0 (fun h0 => ?_) (fun h0 => ?_)
    · refine aP ?_
      refine aT aF 2 ?_
      refine bF ?_
      refine cX [(2, (.sl true 0 (fun _ => .bad))), (3, (eI (7 : Int)))] ?_
      replace hO := hO.pick (L' := []) [] (by decide) (by kernel_rfl)
      refine aH (aG (?_))
      refine bM ?_
      refine cN (l := [(2, (eL aW ([]))), (3, (eI (7 : Int)))]) ⟨[(2, (.sl true 0 (fun _ => .bad))), (3, (eI (7 : Int)))], by kernel_rfl, rfl, ⟨eF, aZ.refl _, trivial⟩⟩ ?_
      obtain rfl := oI h0
      exact aH (bB (Q_r hO))
    refine bP ?_
    refine bG [(0, (eL aC f0)), (4, (.msl 1 lo9 0 (List.length bC))), (5, (.msl 1 lo10 0 (List.length bI)))] ?_
    refine cU (fun T H => ∃ bC : List Int, ∃ bI : List Int, ∃ lo12 : Nat, ∃ lo13 : Nat, Has T [(4, (.msl 1 lo12 0 (List.length bC))), (5, (.msl 1 lo13 0 (List.length bI)))] ∧ aM ⟨H0, [], []⟩ H [(lo12, 1, List.map (eI) bC), (lo13, 1, List.map (eI) bI)] ∧ qU bC bI = some r) ?_ ?_
    · clear hO h0
      rintro T H ⟨bC, bI, lo12, lo13, hT, hO, h0⟩
      refine bD hT ?_
      clear hT
      unfold qU at h0
      refine aP ?_
      refine aT aF 2 ?_
      refine pL (xs := []) (k := 2) (by kernel_rfl) (by kernel_rfl) ?_
      refine bF ?_
      refine bS [] [(11, (.sl true 0 (fun _ => .bad)))] ?_
      refine cU (fun T H => ∃ dW : List aQ, ∃ lo14 : Nat, Has T [(11, (.msl 2 lo14 0 (List.length dW)))] ∧ aM ⟨H0, [], []⟩ H [(lo14, 2, List.map aW dW)] ∧ uA dW = some r) ?_ ?_
      · clear hO h0
        rintro T H ⟨dW, lo14, hT, hO, h0⟩
        refine bD hT ?_
        clear hT
        unfold uA at h0
        refine bV aF 3 [(2, (.msl 2 lo14 0 (List.length dW))), (3, (eI (0 : Int)))] ?_
        refine bM ?_
        refine cX [(2, (.msl 2 lo14 0 (List.length dW))), (3, (eI (0 : Int)))] ?_
        refine AV (en := aW) dW 0 0 2 2 lo14 (List.length dW) hO (by kernel_rfl) (by kernel_rfl) (by kernel_rfl) (L' := []) (by kernel_rfl) ?_
        intro H15 hO
        obtain rfl := oI h0
        exact aH (Q_r hO)
      refine aX aF 1 [] [(12, (eI (0 : Int)))] ?_
      refine bR 8 ?_
      refine cR [(4, (.msl 1 lo12 0 (List.length bC))), (5, (.msl 1 lo13 0 (List.length bI))), (11, (.sl true 0 (fun _ => .bad))), (12, (eI (0 : Int)))] ?_
      refine EN (el := (fun _ => .bad)) 2 11 2 hO (by kernel_rfl) ?_
      intro lo32 H33 hO
      refine cK (fun T H => ∃ bC : List Int, ∃ bI : List Int, ∃ dW : List aQ, ∃ i12 : Int, ∃ lo19 : Nat, ∃ lo20 : Nat, ∃ lo21 : Nat, Has T [(4, (.msl 1 lo19 0 (List.length bC))), (5, (.msl 1 lo20 0 (List.length bI))), (11, (.msl 2 lo21 0 (List.length dW))), (12, (eI i12))] ∧ aM ⟨H0, [], []⟩ H [(lo19, 1, List.map (eI) bC), (lo20, 1, List.map (eI) bI), (lo21, 2, List.map aW dW)] ∧ qP bC bI dW i12 = some r) ?_ ⟨bC, bI, ([] : List aQ), (0 : Int), lo12, lo13, lo32, .eq (by kernel_rfl), hO, h0⟩
      clear hO h0
      rintro T H ⟨bC, bI, dW, i12, lo19, lo20, lo21, hT, hO, h0⟩
      refine bD hT ?_
      clear hT
      unfold qP at h0
      obtain ⟨rr0, hl0, h0⟩ := aY h0
      refine cB (by kernel_rfl) (fun (s : List Int × List Int × List aQ × Int) T H => ∃ lo19 : Nat, ∃ lo20 : Nat, ∃ lo21 : Nat, Has T [(4, (.msl 1 lo19 0 (List.length s.1))), (5, (.msl 1 lo20 0 (List.length s.2.1))), (11, (.msl 2 lo21 0 (List.length s.2.2.1))), (12, (eI s.2.2.2))] ∧ aM ⟨H0, [], []⟩ H [(lo19, 1, List.map (eI) s.1), (lo20, 1, List.map (eI) s.2.1), (lo21, 2, List.map aW s.2.2.1)]) hl0 ⟨lo19, lo20, lo21, .eq (by kernel_rfl), hO⟩ ?_
      clear hO
      rintro k0 s out1 T H ⟨lo19, lo20, lo21, hT, hO⟩ h1 ho0
      obtain ⟨bC, bI, dW, i12⟩ := s
      replace h1 : iR bC bI dW i12 = some out1 := h1
      try dsimp only at hT
      refine bD hT ?_
      clear hT
      unfold iR at h1
      refine aP ?_
      refine aX aF 4 [] [(88, (aJ (decide (i12 < (lN bC)))))] ?_
      refine bN h1 (fun h1 => ?_) (fun h1 => ?_)
      · refine bP ?_
        refine bG [(4, (.msl 1 lo19 0 (List.length bC))), (5, (.msl 1 lo20 0 (List.length bI))), (11, (.msl 2 lo21 0 (List.length dW))), (12, (eI i12))] ?_
        refine aP ?_
        refine bR 9 ?_
        refine aP ?_
        refine aT aF 7 ?_
        obtain ⟨c23, h1⟩ := bK h1
        refine oS 3 [0 ≤ i12 ∧ i12 < (lN bC)] ⟨c23, trivial⟩ ?_
        refine kC 0 lo19 1 (0 + Int.toNat i12) (eI (gD bC i12)) (eI (gD bC i12)) (List.map (eI) bC) hO (cQ c23) ?_
        refine bO 5 ?_
        refine mG 2 (aW (aQ.mk 0 0)) (by kernel_rfl) (by kernel_rfl) hO ?_
        intro lo24 H hO
        refine iY 3 lo24 2 0 (aW (aQ.mk 0 0)) (aW (aQ.mk (gD bC i12) (1125899906842624 : Int))) [(aW (aQ.mk 0 0))] [(lo19, 1, List.map (eI) bC), (lo20, 1, List.map (eI) bI), (lo21, 2, List.map aW dW), (lo24, 2, [(aW (aQ.mk (gD bC i12) (1125899906842624 : Int)))])] hO rfl (by kernel_rfl) ?_
        intro H hO
        refine cJ ?_
        refine bS [] [(13, (.lp lo24 0 0))] ?_
        refine cU (fun T H => ∃ bC : List Int, ∃ bI : List Int, ∃ dW : List aQ, ∃ s13 : aQ, ∃ lo25 : Nat, ∃ lo26 : Nat, ∃ lo27 : Nat, Has T [(4, (.msl 1 lo25 0 (List.length bC))), (5, (.msl 1 lo26 0 (List.length bI))), (11, (.msl 2 lo27 0 (List.length dW))), (12, (eI i12)), (13, (.lp lo24 0 0))] ∧ aM ⟨H0, [], []⟩ H [(lo25, 1, List.map (eI) bC), (lo26, 1, List.map (eI) bI), (lo27, 2, List.map aW dW), (lo24, 2, [(aW s13)])] ∧ oN bC bI dW i12 s13 = some out1) ?_ ?_
        · clear hO h1
          rintro T H ⟨bC, bI, dW, s13, lo25, lo26, lo27, hT, hO, h1⟩
          refine bD hT ?_
          clear hT
          unfold oN at h1
          refine aT aF 5 ?_
          refine bO 1 ?_
          refine kC 3 lo24 2 0 (aW s13) (aW s13) [(aW s13)] hO rfl ?_
          refine pL (xs := [(aW s13)]) (k := 2) (by kernel_rfl) (by kernel_rfl) ?_
          obtain ⟨c29, h1⟩ := bK h1
          refine xM (e := aW) dW ([s13]) 2 lo27 2 16 (dY [(aW s13)]) (fun lo28 => [(lo25, 1, List.map (eI) bC), (lo26, 1, List.map (eI) bI), (lo28, 2, List.map aW (dW ++ ([s13]))), (lo24, 2, [(aW s13)])]) (by kernel_rfl) (by kernel_rfl) hO (by kernel_rfl) (by kernel_rfl) c29 (fun _ => by kernel_rfl) ?_
          intro lo28 H hO
          refine bF ?_
          refine cX [(4, (.msl 1 lo25 0 (List.length bC))), (5, (.msl 1 lo26 0 (List.length bI))), (11, (.msl 2 lo28 0 (List.length (dW ++ ([s13]))))), (12, (eI i12))] ?_
          replace hO := hO.pick (L' := [(lo25, 1, List.map (eI) bC), (lo26, 1, List.map (eI) bI), (lo28, 2, List.map aW (dW ++ ([s13])))]) [0, 1, 2] (by decide) (by kernel_rfl)
          refine aH (aV (aG (?_)))
          refine aT aF 3 ?_
          refine bF ?_
          exact aH (aG (⟨rfl, _, (oI h1).symm, _, _, _, .eq (by kernel_rfl), hO⟩))
        refine aX aF 4 [] [(99, (aJ (decide (i12 < (lN bI)))))] ?_
        refine bN h1 (fun h1 => ?_) (fun h1 => ?_)
        · refine aT aF 6 ?_
          obtain ⟨c31, h1⟩ := bK h1
          refine oS 3 [0 ≤ i12 ∧ i12 < (lN bI)] ⟨c31, trivial⟩ ?_
          refine kC 1 lo20 1 (0 + Int.toNat i12) (eI (gD bI i12)) (eI (gD bI i12)) (List.map (eI) bI) hO (cQ c31) ?_
          refine bO 5 ?_
          refine iY 3 lo24 2 0 (aW (aQ.mk (gD bC i12) (1125899906842624 : Int))) (aW (aQ.mk (aQ.mk (gD bC i12) (1125899906842624 : Int)).From (gD bI i12))) [(aW (aQ.mk (gD bC i12) (1125899906842624 : Int)))] [(lo19, 1, List.map (eI) bC), (lo20, 1, List.map (eI) bI), (lo21, 2, List.map aW dW), (lo24, 2, [(aW (aQ.mk (aQ.mk (gD bC i12) (1125899906842624 : Int)).From (gD bI i12)))])] hO rfl (by kernel_rfl) ?_
          intro H hO
          refine cJ ?_
          exact aH (aG (⟨rfl, _, _, _, _, _, _, _, .eq (by kernel_rfl), hO, h1⟩))
        refine bP ?_
        exact aH (aG (⟨rfl, _, _, _, _, _, _, _, .eq (by kernel_rfl), hO, h1⟩))
      refine dJ 8 ?_
      replace hO := hO.pick (L' := [(lo21, 2, List.map aW dW)]) [2] (by decide) (by kernel_rfl)
      obtain rfl := oI h1
      obtain rfl : _ = rr0 := ho0
      replace h0 : uA dW = some r := h0
      exact aH (aU (aU (bQ (aG (⟨rfl, _, _, .eq (by kernel_rfl), hO, h0⟩)))))
    refine aX aF 1 [] [(8, (eI (0 : Int)))] ?_
    refine bR 2 ?_
    refine cR [(0, (eL aC f0)), (4, (.msl 1 lo9 0 (List.length bC))), (5, (.msl 1 lo10 0 (List.length bI))), (8, (eI (0 : Int)))] ?_
    refine cK (fun T H => ∃ bC : List Int, ∃ bI : List Int, ∃ i8 : Int, ∃ lo36 : Nat, ∃ lo37 : Nat, Has T [(0, (eL aC f0)), (4, (.msl 1 lo36 0 (List.length bC))), (5, (.msl 1 lo37 0 (List.length bI))), (8, (eI i8))] ∧ aM ⟨H0, [], []⟩ H [(lo36, 1, List.map (eI) bC), (lo37, 1, List.map (eI) bI)] ∧ qG f0 bC bI i8 = some r) ?_ ⟨bC, bI, (0 : Int), lo9, lo10, .eq (by kernel_rfl), hO, h0⟩
    clear hO h0
    rintro T H ⟨bC, bI, i8, lo36, lo37, hT, hO, h0⟩
    refine bD hT ?_
    clear hT
    unfold qG at h0
    obtain ⟨rr0, hl0, h0⟩ := aY h0
    refine cB (by kernel_rfl) (fun (s : List Int × List Int × Int) T H => ∃ lo36 : Nat, ∃ lo37 : Nat, Has T [(0, (eL aC f0)), (4, (.msl 1 lo36 0 (List.length s.1))), (5, (.msl 1 lo37 0 (List.length s.2.1))), (8, (eI s.2.2))] ∧ aM ⟨H0, [], []⟩ H [(lo36, 1, List.map (eI) s.1), (lo37, 1, List.map (eI) s.2.1)]) hl0 ⟨lo36, lo37, .eq (by kernel_rfl), hO⟩ ?_
    clear hO
    rintro k0 s out1 T H ⟨lo36, lo37, hT, hO⟩ h1 ho0
    obtain ⟨bC, bI, i8⟩ := s
    replace h1 : lQ f0 bC bI i8 = some out1 := h1
    try dsimp only at hT
    refine bD hT ?_
    clear hT
    unfold lQ at h1
    refine aP ?_
    refine aX aF 4 [] [(46, (aJ (decide (i8 < (lN f0)))))] ?_
    refine bN h1 (fun h1 => ?_) (fun h1 => ?_)
    · refine bP ?_
      refine bG [(0, (eL aC f0)), (4, (.msl 1 lo36 0 (List.length bC))), (5, (.msl 1 lo37 0 (List.length bI))), (8, (eI i8))] ?_
      refine cU (fun T H => ∃ bC : List Int, ∃ bI : List Int, ∃ lo39 : Nat, ∃ lo40 : Nat, Has T [(0, (eL aC f0)), (4, (.msl 1 lo39 0 (List.length bC))), (5, (.msl 1 lo40 0 (List.length bI))), (8, (eI i8))] ∧ aM ⟨H0, [], []⟩ H [(lo39, 1, List.map (eI) bC), (lo40, 1, List.map (eI) bI)] ∧ qN f0 bC bI i8 = some out1) ?_ ?_
      · clear hO h1
        rintro T H ⟨bC, bI, lo39, lo40, hT, hO, h1⟩
        refine bD hT ?_
        clear hT
        unfold qN at h1
        refine aT aF 3 ?_
        refine bF ?_
        exact aH (aG (⟨rfl, _, (oI h1).symm, _, _, .eq (by kernel_rfl), hO⟩))
      refine bR 3 ?_
      refine cU (fun T H => ∃ bC : List Int, ∃ bI : List Int, ∃ lo41 : Nat, ∃ lo42 : Nat, Has T [(0, (eL aC f0)), (4, (.msl 1 lo41 0 (List.length bC))), (5, (.msl 1 lo42 0 (List.length bI))), (8, (eI i8))] ∧ aM ⟨H0, [], []⟩ H [(lo41, 1, List.map (eI) bC), (lo42, 1, List.map (eI) bI)] ∧ qS f0 bC bI i8 = some out1) ?_ ?_
      · clear hO h1
        rintro T H ⟨bC, bI, lo41, lo42, hT, hO, h1⟩
        refine bD hT ?_
        clear hT
        unfold qS at h1
        refine aX aF 1 [] [(10, (eI (0 : Int)))] ?_
        refine bR 6 ?_
        refine cR [(0, (eL aC f0)), (4, (.msl 1 lo41 0 (List.length bC))), (5, (.msl 1 lo42 0 (List.length bI))), (8, (eI i8)), (10, (eI (0 : Int)))] ?_
        refine cK (fun T H => ∃ bC : List Int, ∃ bI : List Int, ∃ k10 : Int, ∃ lo45 : Nat, ∃ lo46 : Nat, Has T [(0, (eL aC f0)), (4, (.msl 1 lo45 0 (List.length bC))), (5, (.msl 1 lo46 0 (List.length bI))), (8, (eI i8)), (10, (eI k10))] ∧ aM ⟨H0, [], []⟩ H [(lo45, 1, List.map (eI) bC), (lo46, 1, List.map (eI) bI)] ∧ uJ f0 bC bI i8 k10 = some out1) ?_ ⟨bC, bI, (0 : Int), lo41, lo42, .eq (by kernel_rfl), hO, h1⟩
        clear hO h1
        rintro T H ⟨bC, bI, k10, lo45, lo46, hT, hO, h1⟩
        refine bD hT ?_
        clear hT
        unfold uJ at h1
        obtain ⟨rr1, hl1, h1⟩ := aY h1
        refine cB (by kernel_rfl) (fun (s : List Int × List Int × Int) T H => ∃ lo45 : Nat, ∃ lo46 : Nat, Has T [(0, (eL aC f0)), (4, (.msl 1 lo45 0 (List.length s.1))), (5, (.msl 1 lo46 0 (List.length s.2.1))), (8, (eI i8)), (10, (eI s.2.2))] ∧ aM ⟨H0, [], []⟩ H [(lo45, 1, List.map (eI) s.1), (lo46, 1, List.map (eI) s.2.1)]) hl1 ⟨lo45, lo46, .eq (by kernel_rfl), hO⟩ ?_
        clear hO
        rintro k1 s out2 T H ⟨lo45, lo46, hT, hO⟩ h2 ho1
        obtain ⟨bC, bI, k10⟩ := s
        replace h2 : lU f0 i8 bC bI k10 = some out2 := h2
        try dsimp only at hT
        refine bD hT ?_
        clear hT
        unfold lU at h2
        refine aP ?_
        refine aP ?_
        refine aT aF 8 ?_
        obtain ⟨c47, h2⟩ := bK h2
        refine rG [0 ≤ i8 ∧ i8 < (lN f0)] ⟨c47, trivial⟩ ?_
        refine bS [] [(73, (aJ (decide (k10 < (wR (0 - ((gD f0 i8).Net)))))))] ?_
        refine bN h2 (fun h2 => ?_) (fun h2 => ?_)
        · refine bP ?_
          refine bG [(0, (eL aC f0)), (4, (.msl 1 lo45 0 (List.length bC))), (5, (.msl 1 lo46 0 (List.length bI))), (8, (eI i8)), (10, (eI k10))] ?_
          refine aP ?_
          refine bR 7 ?_
          refine aT aF 9 ?_
          obtain ⟨c49, h2⟩ := bK h2
          refine oS 6 [0 ≤ i8 ∧ i8 < (lN f0)] ⟨c49, trivial⟩ ?_
          refine pL (xs := [(eI ((gD f0 i8).At))]) (k := 1) (by kernel_rfl) (by kernel_rfl) ?_
          obtain ⟨c51, h2⟩ := bK h2
          refine xM (e := (eI)) bI ([(gD f0 i8).At]) 1 lo46 1 8 (dY [(eI ((gD f0 i8).At))]) (fun lo50 => [(lo45, 1, List.map (eI) bC), (lo50, 1, List.map (eI) (bI ++ ([(gD f0 i8).At])))]) (by kernel_rfl) (by kernel_rfl) hO (by kernel_rfl) (by kernel_rfl) c51 (fun _ => by kernel_rfl) ?_
          intro lo50 H hO
          refine bF ?_
          refine cX [(0, (eL aC f0)), (4, (.msl 1 lo45 0 (List.length bC))), (5, (.msl 1 lo50 0 (List.length (bI ++ ([(gD f0 i8).At]))))), (8, (eI i8)), (10, (eI k10))] ?_
          refine aH (aV (aG (?_)))
          refine aT aF 3 ?_
          refine bF ?_
          exact aH (aG (⟨rfl, _, (oI h2).symm, _, _, .eq (by kernel_rfl), hO⟩))
        refine dJ 6 ?_
        obtain rfl := oI h2
        obtain rfl : _ = rr1 := ho1
        replace h1 : qN f0 bC bI i8 = some out1 := h1
        exact aH (aU (aU (bQ (aV (aG (⟨rfl, _, _, _, _, .eq (by kernel_rfl), hO, h1⟩))))))
      refine aX aF 1 [] [(9, (eI (0 : Int)))] ?_
      refine bR 4 ?_
      refine cR [(0, (eL aC f0)), (4, (.msl 1 lo36 0 (List.length bC))), (5, (.msl 1 lo37 0 (List.length bI))), (8, (eI i8)), (9, (eI (0 : Int)))] ?_
      refine cK (fun T H => ∃ bC : List Int, ∃ bI : List Int, ∃ k9 : Int, ∃ lo54 : Nat, ∃ lo55 : Nat, Has T [(0, (eL aC f0)), (4, (.msl 1 lo54 0 (List.length bC))), (5, (.msl 1 lo55 0 (List.length bI))), (8, (eI i8)), (9, (eI k9))] ∧ aM ⟨H0, [], []⟩ H [(lo54, 1, List.map (eI) bC), (lo55, 1, List.map (eI) bI)] ∧ sX f0 bC bI i8 k9 = some out1) ?_ ⟨bC, bI, (0 : Int), lo36, lo37, .eq (by kernel_rfl), hO, h1⟩
      clear hO h1
      rintro T H ⟨bC, bI, k9, lo54, lo55, hT, hO, h1⟩
      refine bD hT ?_
      clear hT
      unfold sX at h1
      obtain ⟨rr1, hl1, h1⟩ := aY h1
      refine cB (by kernel_rfl) (fun (s : List Int × List Int × Int) T H => ∃ lo54 : Nat, ∃ lo55 : Nat, Has T [(0, (eL aC f0)), (4, (.msl 1 lo54 0 (List.length s.1))), (5, (.msl 1 lo55 0 (List.length s.2.1))), (8, (eI i8)), (9, (eI s.2.2))] ∧ aM ⟨H0, [], []⟩ H [(lo54, 1, List.map (eI) s.1), (lo55, 1, List.map (eI) s.2.1)]) hl1 ⟨lo54, lo55, .eq (by kernel_rfl), hO⟩ ?_
      clear hO
      rintro k1 s out2 T H ⟨lo54, lo55, hT, hO⟩ h2 ho1
      obtain ⟨bC, bI, k9⟩ := s
      replace h2 : kX f0 i8 bC bI k9 = some out2 := h2
      try dsimp only at hT
      refine bD hT ?_
      clear hT
      unfold kX at h2
      refine aP ?_
      refine aP ?_
      refine aT aF 7 ?_
      obtain ⟨c56, h2⟩ := bK h2
      refine rG [0 ≤ i8 ∧ i8 < (lN f0)] ⟨c56, trivial⟩ ?_
      refine bS [] [(55, (aJ (decide (k9 < ((gD f0 i8).Net)))))] ?_
      refine bN h2 (fun h2 => ?_) (fun h2 => ?_)
      · refine bP ?_
        refine bG [(0, (eL aC f0)), (4, (.msl 1 lo54 0 (List.length bC))), (5, (.msl 1 lo55 0 (List.length bI))), (8, (eI i8)), (9, (eI k9))] ?_
        refine aP ?_
        refine bR 5 ?_
        refine aT aF 9 ?_
        obtain ⟨c58, h2⟩ := bK h2
        refine oS 6 [0 ≤ i8 ∧ i8 < (lN f0)] ⟨c58, trivial⟩ ?_
        refine pL (xs := [(eI ((gD f0 i8).At))]) (k := 1) (by kernel_rfl) (by kernel_rfl) ?_
        obtain ⟨c60, h2⟩ := bK h2
        refine xM (e := (eI)) bC ([(gD f0 i8).At]) 0 lo54 1 8 (dY [(eI ((gD f0 i8).At))]) (fun lo59 => [(lo59, 1, List.map (eI) (bC ++ ([(gD f0 i8).At]))), (lo55, 1, List.map (eI) bI)]) (by kernel_rfl) (by kernel_rfl) hO (by kernel_rfl) (by kernel_rfl) c60 (fun _ => by kernel_rfl) ?_
        intro lo59 H hO
        refine bF ?_
        refine cX [(0, (eL aC f0)), (4, (.msl 1 lo59 0 (List.length (bC ++ ([(gD f0 i8).At]))))), (5, (.msl 1 lo55 0 (List.length bI))), (8, (eI i8)), (9, (eI k9))] ?_
        refine aH (aV (aG (?_)))
        refine aT aF 3 ?_
        refine bF ?_
        exact aH (aG (⟨rfl, _, (oI h2).symm, _, _, .eq (by kernel_rfl), hO⟩))
      refine dJ 4 ?_
      obtain rfl := oI h2
      obtain rfl : _ = rr1 := ho1
      replace h1 : qS f0 bC bI i8 = some out1 := h1
      exact aH (aU (aU (bQ (aG (⟨rfl, _, _, _, _, .eq (by kernel_rfl), hO, h1⟩)))))
    refine dJ 2 ?_
    obtain rfl := oI h1
    obtain rfl : _ = rr0 := ho0
    replace h0 : qU bC bI = some r := h0
    exact aH (aU (aU (bQ (aG (⟨rfl, _, _, _, _, .eq (by kernel_rfl), hO, h0⟩)))))
  refine aX aF 1 [] [(7, (eI (0 : Int)))] ?_
  refine bR 0 ?_
  refine cR [(0, (eL aC f0)), (4, (.sl true 0 (fun _ => .bad))), (5, (.sl true 0 (fun _ => .bad))), (6, (eI (0 : Int))), (7, (eI (0 : Int)))] ?_
  refine EN (el := (fun _ => .bad)) 1 4 1 hO (by kernel_rfl) ?_
  intro lo71 H72 hO
  refine EN (el := (fun _ => .bad)) 2 5 1 hO (by kernel_rfl) ?_
  intro lo73 H74 hO
  refine cK (fun T H => ∃ bC : List Int, ∃ bI : List Int, ∃ n6 : Int, ∃ i7 : Int, ∃ lo63 : Nat, ∃ lo64 : Nat, Has T [(0, (eL aC f0)), (4, (.msl 1 lo63 0 (List.length bC))), (5, (.msl 1 lo64 0 (List.length bI))), (6, (eI n6)), (7, (eI i7))] ∧ aM ⟨H0, [], []⟩ H [(lo63, 1, List.map (eI) bC), (lo64, 1, List.map (eI) bI)] ∧ pP f0 bC bI n6 i7 = some r) ?_ ⟨([] : List Int), ([] : List Int), (0 : Int), (0 : Int), lo71, lo73, .eq (by kernel_rfl), hO, h0⟩
  clear hO h0
  rintro T H ⟨bC, bI, n6, i7, lo63, lo64, hT, hO, h0⟩
  refine bD hT ?_
  clear hT
  unfold pP at h0
  obtain ⟨rr0, hl0, h0⟩ := aY h0
  refine cB (by kernel_rfl) (fun (s : List Int × List Int × Int × Int) T H => ∃ lo63 : Nat, ∃ lo64 : Nat, Has T [(0, (eL aC f0)), (4, (.msl 1 lo63 0 (List.length s.1))), (5, (.msl 1 lo64 0 (List.length s.2.1))), (6, (eI s.2.2.1)), (7, (eI s.2.2.2))] ∧ aM ⟨H0, [], []⟩ H [(lo63, 1, List.map (eI) s.1), (lo64, 1, List.map (eI) s.2.1)]) hl0 ⟨lo63, lo64, .eq (by kernel_rfl), hO⟩ ?_
  clear hO
  rintro k0 s out1 T H ⟨lo63, lo64, hT, hO⟩ h1 ho0
  obtain ⟨bC, bI, n6, i7⟩ := s
  replace h1 : kW f0 bC bI n6 i7 = some out1 := h1
  try dsimp only at hT
  refine bD hT ?_
  clear hT
  unfold kW at h1
  refine aP ?_
  refine aX aF 4 [] [(25, (aJ (decide (i7 < (lN f0)))))] ?_
  refine bN h1 (fun h1 => ?_) (fun h1 => ?_)
  · refine bP ?_
    refine bG [(0, (eL aC f0)), (4, (.msl 1 lo63 0 (List.length bC))), (5, (.msl 1 lo64 0 (List.length bI))), (6, (eI n6)), (7, (eI i7))] ?_
    refine cU (fun T H => ∃ bC : List Int, ∃ bI : List Int, ∃ n6 : Int, ∃ lo66 : Nat, ∃ lo67 : Nat, Has T [(0, (eL aC f0)), (4, (.msl 1 lo66 0 (List.length bC))), (5, (.msl 1 lo67 0 (List.length bI))), (6, (eI n6)), (7, (eI i7))] ∧ aM ⟨H0, [], []⟩ H [(lo66, 1, List.map (eI) bC), (lo67, 1, List.map (eI) bI)] ∧ nS f0 bC bI n6 i7 = some out1) ?_ ?_
    · clear hO h1
      rintro T H ⟨bC, bI, n6, lo66, lo67, hT, hO, h1⟩
      refine bD hT ?_
      clear hT
      unfold nS at h1
      refine aT aF 3 ?_
      refine bF ?_
      exact aH (aG (⟨rfl, _, (oI h1).symm, _, _, .eq (by kernel_rfl), hO⟩))
    refine bR 1 ?_
    refine aP ?_
    refine aT aF 6 ?_
    obtain ⟨c68, h1⟩ := bK h1
    refine rG [0 ≤ i7 ∧ i7 < (lN f0)] ⟨c68, trivial⟩ ?_
    refine bS [] [(33, (aJ (decide ((0 : Int) < ((gD f0 i7).Net)))))] ?_
    refine bN h1 (fun h1 => ?_) (fun h1 => ?_)
    · refine aT aF 8 ?_
      obtain ⟨c70, h1⟩ := bK h1
      refine rG [0 ≤ i7 ∧ i7 < (lN f0)] ⟨c70, trivial⟩ ?_
      exact aH (aV (aG (⟨rfl, _, _, _, _, _, .eq (by kernel_rfl), hO, h1⟩)))
    refine bP ?_
    exact aH (aV (aG (⟨rfl, _, _, _, _, _, .eq (by kernel_rfl), hO, h1⟩)))
  refine dJ 0 ?_
  obtain rfl := oI h1
  obtain rfl : _ = rr0 := ho0
  replace h0 : oP f0 bC bI n6 = some r := h0
  exact aH (aU (aU (bQ (aG (⟨rfl, _, _, _, _, _, .eq (by kernel_rfl), hO, h0⟩)))))

theorem GA (f0 : (List aB)) (r : Bool) (h0 : qA f0 = some r) : bW Try.prog 6 [(eL aC f0)] (aJ r) := by
  intro H0
  refine cH Try.func6 ?_
  have hO := aM.start H0
  unfold qA at h0
  refine aX aF 1 [] [] ?_
  refine aP ?_
  refine aP ?_
  refine aT aF 4 ?_
  refine bO 2 ?_
  obtain ⟨x1, hx2, h0⟩ := aY h0
  refine cI (QF (lN f0) _ hx2) hO ?_
  intro H hO
  refine bF ?_
  refine bS [] [(11, (aJ (!x1)))] ?_
  refine bN h0 (fun h0 => ?_) (fun h0 => ?_)
  · refine aP ?_
    refine aT aF 2 ?_
    obtain ⟨x5, hx6, h0⟩ := aY h0
    refine cI (FK  _ hx6) hO ?_
    intro H hO
    refine bF ?_
    refine bG [(2, (aJ x5))] ?_
    refine bM ?_
    obtain rfl := oI h0
    exact aH (bB (Q_r hO))
  refine bP ?_
  refine bG [(0, (eL aC f0))] ?_
  refine aP ?_
  refine aT aF 7 ?_
  refine bO 1 ?_
  obtain ⟨x8, hx9, h0⟩ := aY h0
  refine cI (NG f0 _ hx9) hO ?_
  intro H hO
  refine bF ?_
  refine bS [] [(3, (eL aW x8.1)), (4, (eI x8.2))] ?_
  refine aP ?_
  refine aT aF 7 ?_
  refine bO 1 ?_
  obtain ⟨x11, hx12, h0⟩ := aY h0
  refine cI (MJ f0 _ hx12) hO ?_
  intro H hO
  refine bF ?_
  refine bS [0] [(5, (eL aW x11.1)), (6, (eI x11.2))] ?_
  refine aP ?_
  refine aX aF 10 [4, 6] [(32, (aJ ((!decide (x8.2 = x11.2)) || (!decide ((lN x8.1) = (lN x11.1))))))] ?_
  refine bN h0 (fun h0 => ?_) (fun h0 => ?_)
  · refine bV aF 1 [(2, (aJ false))] ?_
    refine bM ?_
    obtain rfl := oI h0
    exact aH (bB (Q_r hO))
  refine bP ?_
  refine bG [(3, (eL aW x8.1)), (5, (eL aW x11.1))] ?_
  refine cU (fun T H => Has T [] ∧ aM ⟨H0, [], []⟩ H [] ∧ nP  = some r) ?_ ?_
  · clear hO h0
    rintro T H ⟨hT, hO, h0⟩
    refine bD hT ?_
    clear hT
    unfold nP at h0
    refine aP ?_
    refine aT aF 2 ?_
    obtain ⟨x15, hx16, h0⟩ := aY h0
    refine cI (FK  _ hx16) hO ?_
    intro H hO
    refine bF ?_
    refine bG [(2, (aJ x15))] ?_
    refine bM ?_
    obtain rfl := oI h0
    exact aH (Q_r hO)
  refine aX aF 1 [] [(7, (eI (0 : Int)))] ?_
  refine bR 0 ?_
  refine cR [(3, (eL aW x8.1)), (5, (eL aW x11.1)), (7, (eI (0 : Int)))] ?_
  refine cK (fun T H => ∃ a3 : (List aQ), ∃ b5 : (List aQ), ∃ i7 : Int, Has T [(3, (eL aW a3)), (5, (eL aW b5)), (7, (eI i7))] ∧ aM ⟨H0, [], []⟩ H [] ∧ pT a3 b5 i7 = some r) ?_ ⟨x8.1, x11.1, (0 : Int), .eq (by kernel_rfl), hO, h0⟩
  clear hO h0
  rintro T H ⟨a3, b5, i7, hT, hO, h0⟩
  refine bD hT ?_
  clear hT
  unfold pT at h0
  obtain ⟨rr0, hl0, h0⟩ := aY h0
  refine cB (by kernel_rfl) (fun (s : Int) T H => Has T [(3, (eL aW a3)), (5, (eL aW b5)), (7, (eI s))] ∧ aM ⟨H0, [], []⟩ H []) hl0 ⟨.eq (by kernel_rfl), hO⟩ ?_
  clear hO
  rintro k0 s out1 T H ⟨hT, hO⟩ h1 ho0
  obtain ⟨i7, rfl⟩ : ∃ x, x = s := ⟨_, rfl⟩
  replace h1 : jC a3 b5 i7 = some out1 := h1
  refine bD hT ?_
  clear hT
  unfold jC at h1
  refine aP ?_
  refine aX aF 4 [] [(36, (aJ (decide (i7 < (lN a3)))))] ?_
  refine bN h1 (fun h1 => ?_) (fun h1 => ?_)
  · refine bP ?_
    refine bG [(3, (eL aW a3)), (5, (eL aW b5)), (7, (eI i7))] ?_
    refine aP ?_
    refine bR 1 ?_
    refine aP ?_
    refine jF (jG [42, 46]) aF 9 ?_
    obtain ⟨c19, h1⟩ := bK h1
    obtain ⟨c20, h1⟩ := bK h1
    refine FW (Ds := [0 ≤ i7 ∧ i7 < (lN a3), 0 ≤ i7 ∧ i7 < (lN b5)]) (by kernel_rfl) ⟨c19, c20, trivial⟩ ?_
    refine bS [] [(47, (aJ (!((decide (((gD a3 i7).From) = ((gD b5 i7).From))) && ((decide (((gD a3 i7).To) = ((gD b5 i7).To))) && true)))))] ?_
    refine bN h1 (fun h1 => ?_) (fun h1 => ?_)
    · refine bV aF 1 [(2, (aJ false))] ?_
      refine bM ?_
      obtain rfl := oI h1
      obtain rfl : _ = rr0 := ho0
      replace h0 : some false = some r := h0
      obtain rfl := oI h0
      exact aH (bU (bB (bB (bU (bB (Q_r hO))))))
    refine bP ?_
    refine cX [(3, (eL aW a3)), (5, (eL aW b5)), (7, (eI i7))] ?_
    refine aH (aV (aG (?_)))
    refine aT aF 3 ?_
    refine bF ?_
    exact aH (aG (⟨rfl, _, (oI h1).symm, .eq (by kernel_rfl), hO⟩))
  refine dJ 0 ?_
  obtain rfl := oI h1
  obtain rfl : _ = rr0 := ho0
  replace h0 : nP  = some r := h0
  exact aH (aU (aU (bQ (aG (⟨rfl, .eq (by kernel_rfl), hO, h0⟩)))))

end Go.Abs
namespace Go.Abs
open Go Go.RowKit Go.Proofs
theorem EL {H : Type} {enc : TypeId × Value → H} {w : World} : DN enc Try.prog w 107 aC xZ :=
  PV Try.underlying107 (by kernel_rfl) (GP (c' := IY) (ok' := xZ) (fun (a : Int) (b : Int × Unit) => (aB.mk a b.1 : aB)) (by kernel_rfl) (LM Try.underlying3) (GP (c' := fun (b : Int × Unit) => (V.cells (xH .i64 b.1) ++ [])) (ok' := fun b => (JU b.1 ∧ True)) (fun a b => (a, b)) (by kernel_rfl) (LM Try.underlying3) (UO ()) (fun _ _ => rfl) (fun _ _ h1 h2 => ⟨h1, h2⟩)) (fun _ _ => rfl) (fun _ _ h1 h2 => ⟨h1, h2⟩))

end Go.Abs
namespace Go.Abs
open Go
theorem eE {n : Int} (h1 : -9223372036854775808 ≤ n) (h2 : n ≤ 9223372036854775807) : IntKind.i64.wrap n = n := by
  simp only [IntKind.wrap, IntKind.bits, IntKind.signed]
  simp
  split <;> omega

def vG {α st R : Type} (step : st → α → Option (st ⊕ R)) (fin : st → R) : st → List α → Option R
  | s, [] => some (fin s)
  | s, a :: r => match step s a with
    | some (.inl s') => vG step fin s' r
    | some (.inr x) => some x
    | none => none

theorem SV {α st R : Type} {step : st → α → Option (st ⊕ R)} {fin : st → R} {s s' : st} {a : α} {r : List α} (h : step s a = some (.inl s')) : vG step fin s (a :: r) = vG step fin s' r := by
  simp only [vG, h]

theorem UA {α st R : Type} {step : st → α → Option (st ⊕ R)} {fin : st → R} {s : st} {x : R} {a : α} {r : List α} (h : step s a = some (.inr x)) : vG step fin s (a :: r) = some x := by
  simp only [vG, h]

theorem RT {α S st R : Type} {body : S → Option (S ⊕ R)} {l : List α} (mk : st → Int → S) (step : st → α → Option (st ⊕ R)) (fin : st → R)
    (hn : ∀ (i : Nat) a s, l[i]? = some a → (∀ s', step s a = some (.inl s') → body (mk s i) = some (.inl (mk s' ((i + 1 : Nat) : Int)))) ∧ (∀ x, step s a = some (.inr x) → body (mk s i) = some (.inr x)))
    (he : ∀ s, body (mk s (l.length : Nat)) = some (.inr (fin s))) : ∀ (m k : Nat) (s : st) (r : R), l.length - k = m → k ≤ l.length → vG step fin s (l.drop k) = some r → lp body (mk s k) = some r
  | 0, k, s, r, hm, hk, h => by
    have : k = l.length := by omega
    subst this
    rw [List.drop_length] at h
    simp only [vG, Option.some.injEq] at h
    subst h
    exact cM (he s)
  | m + 1, k, s, r, hm, hk, h => by
    have hlt : k < l.length := by omega
    have hd : l.drop k = l[k] :: l.drop (k + 1) := List.drop_eq_getElem_cons hlt
    rw [hd] at h
    simp only [vG] at h
    obtain ⟨h1, h2⟩ := hn k l[k] s (List.getElem?_eq_getElem hlt)
    split at h
    · rename_i s' hs
      rw [dO (h1 s' hs)]
      exact RT mk step fin hn he m (k + 1) s' r (by omega) (by omega) h
    · rename_i x hs
      simp at h; subst h
      exact cM (h2 x hs)
    · cases h

theorem XI {α S st R : Type} {body : S → Option (S ⊕ R)} {l : List α} (mk : st → Int → S) (step : st → α → Option (st ⊕ R)) (fin : st → R)
    (hn : ∀ (i : Nat) a s, l[i]? = some a → (∀ s', step s a = some (.inl s') → body (mk s i) = some (.inl (mk s' ((i + 1 : Nat) : Int)))) ∧ (∀ x, step s a = some (.inr x) → body (mk s i) = some (.inr x)))
    (he : ∀ s, body (mk s (l.length : Nat)) = some (.inr (fin s))) {s : st} {r : R} (h : vG step fin s l = some r) : lp body (mk s 0) = some r :=
  RT mk step fin hn he _ 0 s r rfl (Nat.zero_le _) (by simpa using h)

theorem idx {α : Type} [Inhabited α] {l : List α} {i : Nat} {a : α} (h : l[i]? = some a) (hl : l.length < 4611686018427387904) :
    decide ((i : Int) < ((l.length : Nat) : Int)) = true ∧ (0 ≤ (i : Int) ∧ (i : Int) < ((l.length : Nat) : Int)) ∧ l.getD (Int.toNat (i : Int)) default = a ∧ IntKind.i64.wrap ((i : Int) + 1) = ((i + 1 : Nat) : Int) := by
  have hlt : i < l.length := (List.getElem?_eq_some_iff.1 h).1
  refine ⟨by simpa using hlt, ⟨by omega, by omega⟩, ?_, ?_⟩
  · rw [Int.toNat_natCast, List.getD_eq_getElem?_getD, h]; rfl
  · rw [eE (by omega) (by omega)]; omega

theorem gN {n : Nat} : decide (((n : Nat) : Int) < ((n : Nat) : Int)) = false := by simp

theorem aA9 {α : Type} {j : α} {r : List α} : (0 : Int) ≤ 0 ∧ (0 : Int) < ((List.length (j :: r) : Nat) : Int) := ⟨by omega, by simp⟩

theorem aAJ {α : Type} [Inhabited α] {j : α} {r : List α} : List.getD (j :: r) (Int.toNat (0 : Int)) default = j := rfl

end Go.Abs
namespace Go.Abs
open Go
theorem drop_cons {α : Type} {l r : List α} {a : α} {k : Nat} (h : l.drop k = a :: r) : l[k]? = some a ∧ l.drop (k + 1) = r := by
  have hk : k < l.length := by
    apply Classical.byContradiction; intro hn
    rw [List.drop_eq_nil_of_le (by omega)] at h; cases h
  rw [List.drop_eq_getElem_cons hk] at h
  obtain ⟨h1, h2⟩ := List.cons.inj h
  exact ⟨by rw [List.getElem?_eq_getElem hk, h1], h2⟩

theorem VN {α S st R : Type} {body : S → Option (S ⊕ R)} {l : List α} (mk : st → Int → S) (G : st → List α → R) (Inv : st → List α → Prop)
    (hn : ∀ (i : Nat) a r s, l[i]? = some a → Inv s (a :: r) → (∃ s', body (mk s i) = some (.inl (mk s' ((i + 1 : Nat) : Int))) ∧ Inv s' r ∧ G s' r = G s (a :: r)) ∨ body (mk s i) = some (.inr (G s (a :: r))))
    (he : ∀ s, Inv s [] → body (mk s (l.length : Nat)) = some (.inr (G s []))) : ∀ (r : List α) (k : Nat) (s : st), l.drop k = r → k ≤ l.length → Inv s r → lp body (mk s k) = some (G s r)
  | [], k, s, hd, hk, hi => by
    have : k = l.length := by
      have := congrArg List.length hd
      simp only [List.length_drop, List.length_nil] at this; omega
    subst this
    exact cM (he s hi)
  | a :: r, k, s, hd, hk, hi => by
    obtain ⟨h1, h2⟩ := drop_cons hd
    have hlt : k < l.length := (List.getElem?_eq_some_iff.1 h1).1
    rcases hn k a r s h1 hi with ⟨s', hb, hi', hg⟩ | hb
    · rw [dO hb, VN mk G Inv hn he r (k + 1) s' h2 (by omega) hi', hg]
    · exact cM hb

theorem qV {α S st R : Type} {body : S → Option (S ⊕ R)} {l : List α} (mk : st → Int → S) (G : st → List α → R) (Inv : st → List α → Prop) (s : st)
    (hn : ∀ (i : Nat) a r s, l[i]? = some a → Inv s (a :: r) → (∃ s', body (mk s i) = some (.inl (mk s' ((i + 1 : Nat) : Int))) ∧ Inv s' r ∧ G s' r = G s (a :: r)) ∨ body (mk s i) = some (.inr (G s (a :: r))))
    (he : ∀ s, Inv s [] → body (mk s (l.length : Nat)) = some (.inr (G s []))) (hi : Inv s l) : lp body (mk s 0) = some (G s l) :=
  VN mk G Inv hn he l 0 s rfl (Nat.zero_le _) hi

theorem aAM {α S R : Type} {body : S → Option (S ⊕ R)} {l : List α} (mk : Int → S) (bad : α → Bool) (x y : R)
    (hn : ∀ (i : Nat) a, l[i]? = some a → body (mk i) = some (if bad a then .inr x else .inl (mk ((i + 1 : Nat) : Int))))
    (he : body (mk (l.length : Nat)) = some (.inr y)) : lp body (mk 0) = some (if l.any bad then x else y) := by
  refine qV (st := Unit) (fun _ i => mk i) (fun _ r => if r.any bad then x else y) (fun _ _ => True) () ?_ ?_ trivial
  · intro i a r s ha _
    have hb := hn i a ha
    cases h : bad a
    · left; refine ⟨(), ?_, trivial, ?_⟩
      · simpa [h] using hb
      · simp [List.any_cons, h]
    · right; simpa [h, List.any_cons] using hb
  · intro _ _; simpa using he

end Go.Abs
namespace Go.Abs
open Go
noncomputable def yR {α : Type} [Inhabited α] (cmp3 : α → α → Option Int) (aA : List α) (a1 : Int) (b2 : Int) (i8 : Int) : Option ((List α × Int) ⊕ ((List α))) :=
  some (.inl (aA, IntKind.i64.wrap (i8 + (1 : Int))))

noncomputable def lV {α : Type} [Inhabited α] (cmp3 : α → α → Option Int) (a1 : Int) (b2 : Int) (i8 : Int) (aA : List α) (j9 : Int) : Option ((List α × Int) ⊕ ((List α))) :=
  bL ((((decide (a1 < j9))) = true → 0 ≤ j9 ∧ j9 < ((List.length aA : Nat) : Int))) <|
  bL ((((decide (a1 < j9))) = true → 0 ≤ (IntKind.i64.wrap (j9 - (1 : Int))) ∧ (IntKind.i64.wrap (j9 - (1 : Int))) < ((List.length aA : Nat) : Int))) <|
  (dF (decide (a1 < j9)) (cmp3 (List.getD aA (Int.toNat j9) default) (List.getD aA (Int.toNat (IntKind.i64.wrap (j9 - (1 : Int)))) default))).bind fun x3 =>
  cond ((decide (a1 < j9)) && (decide (x3 < (0 : Int))))
  (bL (0 ≤ (IntKind.i64.wrap (j9 - (1 : Int))) ∧ (IntKind.i64.wrap (j9 - (1 : Int))) < ((List.length aA : Nat) : Int)) <|
  bL (0 ≤ j9 ∧ j9 < ((List.length aA : Nat) : Int)) <|
  bL (0 ≤ j9 ∧ j9 < ((List.length aA : Nat) : Int)) <|
  bL (0 ≤ (IntKind.i64.wrap (j9 - (1 : Int))) ∧ (IntKind.i64.wrap (j9 - (1 : Int))) < ((List.length aA : Nat) : Int)) <|
  some (.inl (List.set (List.set aA (Int.toNat j9) (List.getD aA (Int.toNat (IntKind.i64.wrap (j9 - (1 : Int)))) default)) (Int.toNat (IntKind.i64.wrap (j9 - (1 : Int)))) (List.getD aA (Int.toNat j9) default), IntKind.i64.wrap (j9 - (1 : Int)))))
  (some (.inr aA))

noncomputable def yH {α : Type} [Inhabited α] (cmp3 : α → α → Option Int) (aA : List α) (a1 : Int) (b2 : Int) (i8 : Int) (j9 : Int) : Option ((List α × Int) ⊕ ((List α))) :=
  (lp (fun s => lV cmp3 a1 b2 i8 s.1 s.2) (aA, j9)).bind (fun rr => yR cmp3 rr a1 b2 i8)

noncomputable def jD {α : Type} [Inhabited α] (cmp3 : α → α → Option Int) (a1 : Int) (b2 : Int) (aA : List α) (i8 : Int) : Option ((List α × Int) ⊕ ((List α))) :=
  cond (decide (i8 < b2))
  (yH cmp3 aA a1 b2 i8 i8)
  (some (.inr aA))

noncomputable def yO {α : Type} [Inhabited α] (cmp3 : α → α → Option Int) (aA : List α) (a1 : Int) (b2 : Int) (i8 : Int) : Option (List α) :=
  (lp (fun s => jD cmp3 a1 b2 s.1 s.2) (aA, i8)).bind (fun rr => some rr)

noncomputable def nE {α : Type} [Inhabited α] (aA : (List α)) (a1 : Int) (b2 : Int) (cmp3 : α → α → Option Int) : Option (List α) :=
  yO cmp3 aA a1 b2 (IntKind.i64.wrap (a1 + (1 : Int)))

noncomputable def oM {α : Type} [Inhabited α] (cmp4 : α → α → Option Int) (a1 : Int) (b2 : Int) (n3 : Int) (aA : List α) (i10 : Int) : Option ((List α × Int) ⊕ ((List α))) :=
  cond (decide (i10 < n3))
  (bL (0 ≤ (IntKind.i64.wrap (b2 + i10)) ∧ (IntKind.i64.wrap (b2 + i10)) < ((List.length aA : Nat) : Int)) <|
  bL (0 ≤ (IntKind.i64.wrap (a1 + i10)) ∧ (IntKind.i64.wrap (a1 + i10)) < ((List.length aA : Nat) : Int)) <|
  bL (0 ≤ (IntKind.i64.wrap (a1 + i10)) ∧ (IntKind.i64.wrap (a1 + i10)) < ((List.length aA : Nat) : Int)) <|
  bL (0 ≤ (IntKind.i64.wrap (b2 + i10)) ∧ (IntKind.i64.wrap (b2 + i10)) < ((List.length aA : Nat) : Int)) <|
  some (.inl (List.set (List.set aA (Int.toNat (IntKind.i64.wrap (a1 + i10))) (List.getD aA (Int.toNat (IntKind.i64.wrap (b2 + i10))) default)) (Int.toNat (IntKind.i64.wrap (b2 + i10))) (List.getD aA (Int.toNat (IntKind.i64.wrap (a1 + i10))) default), IntKind.i64.wrap (i10 + (1 : Int)))))
  (some (.inr aA))

noncomputable def CC {α : Type} [Inhabited α] (cmp4 : α → α → Option Int) (aA : List α) (a1 : Int) (b2 : Int) (n3 : Int) (i10 : Int) : Option (List α) :=
  (lp (fun s => oM cmp4 a1 b2 n3 s.1 s.2) (aA, i10)).bind (fun rr => some rr)

noncomputable def tF {α : Type} [Inhabited α] (aA : (List α)) (a1 : Int) (b2 : Int) (n3 : Int) (cmp4 : α → α → Option Int) : Option (List α) :=
  CC cmp4 aA a1 b2 n3 (0 : Int)

noncomputable def BG {α : Type} [Inhabited α] (cmp4 : α → α → Option Int) (aA : List α) (m2 : Int) (i10 : Int) : Option (List α) :=
  (tF aA (IntKind.i64.wrap (m2 - i10)) m2 i10 cmp4).bind fun x1 =>
  some x1

noncomputable def mC {α : Type} [Inhabited α] (cmp4 : α → α → Option Int) (m2 : Int) (aA : List α) (i10 : Int) (j11 : Int) : Option ((List α × Int × Int) ⊕ ((List α × Int))) :=
  cond (!decide (i10 = j11))
  (cond (decide (j11 < i10))
  ((tF aA (IntKind.i64.wrap (m2 - i10)) m2 j11 cmp4).bind fun x4 =>
  some (.inl (x4, IntKind.i64.wrap (i10 - j11), j11)))
  ((tF aA (IntKind.i64.wrap (m2 - i10)) (IntKind.i64.wrap ((IntKind.i64.wrap (m2 + j11)) - i10)) i10 cmp4).bind fun x7 =>
  some (.inl (x7, i10, IntKind.i64.wrap (j11 - i10)))))
  (some (.inr (aA, i10)))

noncomputable def GK {α : Type} [Inhabited α] (cmp4 : α → α → Option Int) (aA : List α) (m2 : Int) (i10 : Int) (j11 : Int) : Option (List α) :=
  (lp (fun s => mC cmp4 m2 s.1 s.2.1 s.2.2) (aA, i10, j11)).bind (fun rr => BG cmp4 rr.1 m2 rr.2)

noncomputable def AP {α : Type} [Inhabited α] (aA : (List α)) (a1 : Int) (m2 : Int) (b3 : Int) (cmp4 : α → α → Option Int) : Option (List α) :=
  GK cmp4 aA m2 (IntKind.i64.wrap (m2 - a1)) (IntKind.i64.wrap (b3 - m2))

noncomputable def yY {α : Type} [Inhabited α] (cmp4 : α → α → Option Int) (rec : (List α) → Int → Int → Int → Option (List α)) (aA : List α) (b3 : Int) (bT : Int) (dV : Int) : Option (List α) :=
  cond ((decide (bT < dV)) && (decide (dV < b3)))
  ((rec aA bT dV b3).bind fun x2 =>
  some x2)
  (some aA)

noncomputable def pK {α : Type} [Inhabited α] (cmp4 : α → α → Option Int) (rec : (List α) → Int → Int → Int → Option (List α)) (aA : List α) (a1 : Int) (b3 : Int) (bT : Int) (aS : Int) (dV : Int) : Option (List α) :=
  cond ((decide (a1 < aS)) && (decide (aS < bT)))
  ((rec aA a1 aS bT).bind fun x6 =>
  yY cmp4 rec x6 b3 bT dV)
  (yY cmp4 rec aA b3 bT dV)

noncomputable def DR {α : Type} [Inhabited α] (cmp4 : α → α → Option Int) (rec : (List α) → Int → Int → Int → Option (List α)) (aA : List α) (a1 : Int) (m2 : Int) (b3 : Int) (bT : Int) (n19 : Int) (aS : Int) : Option (List α) :=
  cond ((decide (aS < m2)) && (decide (m2 < (IntKind.i64.wrap (n19 - aS)))))
  ((AP aA aS m2 (IntKind.i64.wrap (n19 - aS)) cmp4).bind fun x10 =>
  pK cmp4 rec x10 a1 b3 bT aS (IntKind.i64.wrap (n19 - aS)))
  (pK cmp4 rec aA a1 b3 bT aS (IntKind.i64.wrap (n19 - aS)))

noncomputable def nU {α : Type} [Inhabited α] (cmp4 : α → α → Option Int) (rec : (List α) → Int → Int → Int → Option (List α)) (a1 : Int) (m2 : Int) (b3 : Int) (bT : Int) (n19 : Int) (p22 : Int) (aA : List α) (aS : Int) (r21 : Int) : Option ((List α × Int × Int) ⊕ ((List α × Int))) :=
  cond (decide (aS < r21))
  (bL (0 ≤ (1 : Int)) <|
  bL (0 ≤ (IntKind.i64.wrap (p22 - (IntKind.i64.wrap (Int.fdiv (IntKind.u64.wrap (IntKind.i64.wrap (aS + r21))) (2 ^ (min (Int.toNat (1 : Int)) 64)))))) ∧ (IntKind.i64.wrap (p22 - (IntKind.i64.wrap (Int.fdiv (IntKind.u64.wrap (IntKind.i64.wrap (aS + r21))) (2 ^ (min (Int.toNat (1 : Int)) 64)))))) < ((List.length aA : Nat) : Int)) <|
  bL (0 ≤ (IntKind.i64.wrap (Int.fdiv (IntKind.u64.wrap (IntKind.i64.wrap (aS + r21))) (2 ^ (min (Int.toNat (1 : Int)) 64)))) ∧ (IntKind.i64.wrap (Int.fdiv (IntKind.u64.wrap (IntKind.i64.wrap (aS + r21))) (2 ^ (min (Int.toNat (1 : Int)) 64)))) < ((List.length aA : Nat) : Int)) <|
  (cmp4 (List.getD aA (Int.toNat (IntKind.i64.wrap (p22 - (IntKind.i64.wrap (Int.fdiv (IntKind.u64.wrap (IntKind.i64.wrap (aS + r21))) (2 ^ (min (Int.toNat (1 : Int)) 64))))))) default) (List.getD aA (Int.toNat (IntKind.i64.wrap (Int.fdiv (IntKind.u64.wrap (IntKind.i64.wrap (aS + r21))) (2 ^ (min (Int.toNat (1 : Int)) 64))))) default)).bind fun x17 =>
  cond (!(decide (x17 < (0 : Int))))
  (some (.inl (aA, IntKind.i64.wrap ((IntKind.i64.wrap (Int.fdiv (IntKind.u64.wrap (IntKind.i64.wrap (aS + r21))) (2 ^ (min (Int.toNat (1 : Int)) 64)))) + (1 : Int)), r21)))
  (some (.inl (aA, aS, IntKind.i64.wrap (Int.fdiv (IntKind.u64.wrap (IntKind.i64.wrap (aS + r21))) (2 ^ (min (Int.toNat (1 : Int)) 64)))))))
  (some (.inr (aA, aS)))

noncomputable def DT {α : Type} [Inhabited α] (cmp4 : α → α → Option Int) (rec : (List α) → Int → Int → Int → Option (List α)) (aA : List α) (a1 : Int) (m2 : Int) (b3 : Int) (bT : Int) (n19 : Int) (aS : Int) (r21 : Int) (p22 : Int) : Option (List α) :=
  (lp (fun s => nU cmp4 rec a1 m2 b3 bT n19 p22 s.1 s.2.1 s.2.2) (aA, aS, r21)).bind (fun rr => DR cmp4 rec rr.1 a1 m2 b3 bT n19 rr.2)

noncomputable def vI {α : Type} [Inhabited α] (cmp4 : α → α → Option Int) (rec : (List α) → Int → Int → Int → Option (List α)) (aA : List α) (a1 : Int) (m2 : Int) (b3 : Int) (bT : Int) (n19 : Int) (aS : Int) (r21 : Int) : Option (List α) :=
  DT cmp4 rec aA a1 m2 b3 bT n19 aS r21 (IntKind.i64.wrap (n19 - (1 : Int)))

noncomputable def vS {α : Type} [Inhabited α] (cmp4 : α → α → Option Int) (rec : (List α) → Int → Int → Int → Option (List α)) (aA : List α) (a1 : Int) (m2 : Int) (b3 : Int) : Option (List α) :=
  bL (0 ≤ (1 : Int)) <|
  cond (decide ((IntKind.i64.wrap (Int.fdiv (IntKind.u64.wrap (IntKind.i64.wrap (a1 + b3))) (2 ^ (min (Int.toNat (1 : Int)) 64)))) < m2))
  (vI cmp4 rec aA a1 m2 b3 (IntKind.i64.wrap (Int.fdiv (IntKind.u64.wrap (IntKind.i64.wrap (a1 + b3))) (2 ^ (min (Int.toNat (1 : Int)) 64)))) (IntKind.i64.wrap ((IntKind.i64.wrap (Int.fdiv (IntKind.u64.wrap (IntKind.i64.wrap (a1 + b3))) (2 ^ (min (Int.toNat (1 : Int)) 64)))) + m2)) (IntKind.i64.wrap ((IntKind.i64.wrap ((IntKind.i64.wrap (Int.fdiv (IntKind.u64.wrap (IntKind.i64.wrap (a1 + b3))) (2 ^ (min (Int.toNat (1 : Int)) 64)))) + m2)) - b3)) (IntKind.i64.wrap (Int.fdiv (IntKind.u64.wrap (IntKind.i64.wrap (a1 + b3))) (2 ^ (min (Int.toNat (1 : Int)) 64)))))
  (vI cmp4 rec aA a1 m2 b3 (IntKind.i64.wrap (Int.fdiv (IntKind.u64.wrap (IntKind.i64.wrap (a1 + b3))) (2 ^ (min (Int.toNat (1 : Int)) 64)))) (IntKind.i64.wrap ((IntKind.i64.wrap (Int.fdiv (IntKind.u64.wrap (IntKind.i64.wrap (a1 + b3))) (2 ^ (min (Int.toNat (1 : Int)) 64)))) + m2)) a1 m2)

noncomputable def DU {α : Type} [Inhabited α] (cmp4 : α → α → Option Int) (rec : (List α) → Int → Int → Int → Option (List α)) (aA : List α) : Option (List α) :=
  some aA

noncomputable def nF {α : Type} [Inhabited α] (cmp4 : α → α → Option Int) (rec : (List α) → Int → Int → Int → Option (List α)) (i14 : Int) (aA : List α) (k17 : Int) : Option ((List α × Int) ⊕ ((List α))) :=
  cond (decide (i14 < k17))
  (bL (0 ≤ (IntKind.i64.wrap (k17 - (1 : Int))) ∧ (IntKind.i64.wrap (k17 - (1 : Int))) < ((List.length aA : Nat) : Int)) <|
  bL (0 ≤ k17 ∧ k17 < ((List.length aA : Nat) : Int)) <|
  bL (0 ≤ k17 ∧ k17 < ((List.length aA : Nat) : Int)) <|
  bL (0 ≤ (IntKind.i64.wrap (k17 - (1 : Int))) ∧ (IntKind.i64.wrap (k17 - (1 : Int))) < ((List.length aA : Nat) : Int)) <|
  some (.inl (List.set (List.set aA (Int.toNat k17) (List.getD aA (Int.toNat (IntKind.i64.wrap (k17 - (1 : Int)))) default)) (Int.toNat (IntKind.i64.wrap (k17 - (1 : Int)))) (List.getD aA (Int.toNat k17) default), IntKind.i64.wrap (k17 - (1 : Int)))))
  (some (.inr aA))

noncomputable def BQ {α : Type} [Inhabited α] (cmp4 : α → α → Option Int) (rec : (List α) → Int → Int → Int → Option (List α)) (aA : List α) (i14 : Int) (k17 : Int) : Option (List α) :=
  (lp (fun s => nF cmp4 rec i14 s.1 s.2) (aA, k17)).bind (fun rr => DU cmp4 rec rr)

noncomputable def DQ {α : Type} [Inhabited α] (cmp4 : α → α → Option Int) (rec : (List α) → Int → Int → Int → Option (List α)) (aA : List α) (m2 : Int) (i14 : Int) : Option (List α) :=
  BQ cmp4 rec aA i14 m2

noncomputable def nB {α : Type} [Inhabited α] (cmp4 : α → α → Option Int) (rec : (List α) → Int → Int → Int → Option (List α)) (m2 : Int) (aA : List α) (i14 : Int) (j15 : Int) : Option ((List α × Int × Int) ⊕ ((List α × Int))) :=
  cond (decide (i14 < j15))
  (bL (0 ≤ (1 : Int)) <|
  bL (0 ≤ m2 ∧ m2 < ((List.length aA : Nat) : Int)) <|
  bL (0 ≤ (IntKind.i64.wrap (Int.fdiv (IntKind.u64.wrap (IntKind.i64.wrap (i14 + j15))) (2 ^ (min (Int.toNat (1 : Int)) 64)))) ∧ (IntKind.i64.wrap (Int.fdiv (IntKind.u64.wrap (IntKind.i64.wrap (i14 + j15))) (2 ^ (min (Int.toNat (1 : Int)) 64)))) < ((List.length aA : Nat) : Int)) <|
  (cmp4 (List.getD aA (Int.toNat m2) default) (List.getD aA (Int.toNat (IntKind.i64.wrap (Int.fdiv (IntKind.u64.wrap (IntKind.i64.wrap (i14 + j15))) (2 ^ (min (Int.toNat (1 : Int)) 64))))) default)).bind fun x31 =>
  cond (!(decide (x31 < (0 : Int))))
  (some (.inl (aA, IntKind.i64.wrap ((IntKind.i64.wrap (Int.fdiv (IntKind.u64.wrap (IntKind.i64.wrap (i14 + j15))) (2 ^ (min (Int.toNat (1 : Int)) 64)))) + (1 : Int)), j15)))
  (some (.inl (aA, i14, IntKind.i64.wrap (Int.fdiv (IntKind.u64.wrap (IntKind.i64.wrap (i14 + j15))) (2 ^ (min (Int.toNat (1 : Int)) 64)))))))
  (some (.inr (aA, i14)))

noncomputable def BO {α : Type} [Inhabited α] (cmp4 : α → α → Option Int) (rec : (List α) → Int → Int → Int → Option (List α)) (aA : List α) (m2 : Int) (i14 : Int) (j15 : Int) : Option (List α) :=
  (lp (fun s => nB cmp4 rec m2 s.1 s.2.1 s.2.2) (aA, i14, j15)).bind (fun rr => DQ cmp4 rec rr.1 m2 rr.2)

noncomputable def yV {α : Type} [Inhabited α] (cmp4 : α → α → Option Int) (rec : (List α) → Int → Int → Int → Option (List α)) (aA : List α) (a1 : Int) (m2 : Int) (b3 : Int) : Option (List α) :=
  cond (decide ((IntKind.i64.wrap (b3 - m2)) = (1 : Int)))
  (BO cmp4 rec aA m2 a1 m2)
  (vS cmp4 rec aA a1 m2 b3)

noncomputable def BS {α : Type} [Inhabited α] (cmp4 : α → α → Option Int) (rec : (List α) → Int → Int → Int → Option (List α)) (aA : List α) : Option (List α) :=
  some aA

noncomputable def nH {α : Type} [Inhabited α] (cmp4 : α → α → Option Int) (rec : (List α) → Int → Int → Int → Option (List α)) (i10 : Int) (aA : List α) (k13 : Int) : Option ((List α × Int) ⊕ ((List α))) :=
  cond (decide (k13 < (IntKind.i64.wrap (i10 - (1 : Int)))))
  (bL (0 ≤ (IntKind.i64.wrap (k13 + (1 : Int))) ∧ (IntKind.i64.wrap (k13 + (1 : Int))) < ((List.length aA : Nat) : Int)) <|
  bL (0 ≤ k13 ∧ k13 < ((List.length aA : Nat) : Int)) <|
  bL (0 ≤ k13 ∧ k13 < ((List.length aA : Nat) : Int)) <|
  bL (0 ≤ (IntKind.i64.wrap (k13 + (1 : Int))) ∧ (IntKind.i64.wrap (k13 + (1 : Int))) < ((List.length aA : Nat) : Int)) <|
  some (.inl (List.set (List.set aA (Int.toNat k13) (List.getD aA (Int.toNat (IntKind.i64.wrap (k13 + (1 : Int)))) default)) (Int.toNat (IntKind.i64.wrap (k13 + (1 : Int)))) (List.getD aA (Int.toNat k13) default), IntKind.i64.wrap (k13 + (1 : Int)))))
  (some (.inr aA))

noncomputable def CF {α : Type} [Inhabited α] (cmp4 : α → α → Option Int) (rec : (List α) → Int → Int → Int → Option (List α)) (aA : List α) (i10 : Int) (k13 : Int) : Option (List α) :=
  (lp (fun s => nH cmp4 rec i10 s.1 s.2) (aA, k13)).bind (fun rr => BS cmp4 rec rr)

noncomputable def CB {α : Type} [Inhabited α] (cmp4 : α → α → Option Int) (rec : (List α) → Int → Int → Int → Option (List α)) (aA : List α) (a1 : Int) (i10 : Int) : Option (List α) :=
  CF cmp4 rec aA i10 a1

noncomputable def nC {α : Type} [Inhabited α] (cmp4 : α → α → Option Int) (rec : (List α) → Int → Int → Int → Option (List α)) (a1 : Int) (aA : List α) (i10 : Int) (j11 : Int) : Option ((List α × Int × Int) ⊕ ((List α × Int))) :=
  cond (decide (i10 < j11))
  (bL (0 ≤ (1 : Int)) <|
  bL (0 ≤ (IntKind.i64.wrap (Int.fdiv (IntKind.u64.wrap (IntKind.i64.wrap (i10 + j11))) (2 ^ (min (Int.toNat (1 : Int)) 64)))) ∧ (IntKind.i64.wrap (Int.fdiv (IntKind.u64.wrap (IntKind.i64.wrap (i10 + j11))) (2 ^ (min (Int.toNat (1 : Int)) 64)))) < ((List.length aA : Nat) : Int)) <|
  bL (0 ≤ a1 ∧ a1 < ((List.length aA : Nat) : Int)) <|
  (cmp4 (List.getD aA (Int.toNat (IntKind.i64.wrap (Int.fdiv (IntKind.u64.wrap (IntKind.i64.wrap (i10 + j11))) (2 ^ (min (Int.toNat (1 : Int)) 64))))) default) (List.getD aA (Int.toNat a1) default)).bind fun x45 =>
  cond (decide (x45 < (0 : Int)))
  (some (.inl (aA, IntKind.i64.wrap ((IntKind.i64.wrap (Int.fdiv (IntKind.u64.wrap (IntKind.i64.wrap (i10 + j11))) (2 ^ (min (Int.toNat (1 : Int)) 64)))) + (1 : Int)), j11)))
  (some (.inl (aA, i10, IntKind.i64.wrap (Int.fdiv (IntKind.u64.wrap (IntKind.i64.wrap (i10 + j11))) (2 ^ (min (Int.toNat (1 : Int)) 64)))))))
  (some (.inr (aA, i10)))

noncomputable def CD {α : Type} [Inhabited α] (cmp4 : α → α → Option Int) (rec : (List α) → Int → Int → Int → Option (List α)) (aA : List α) (a1 : Int) (i10 : Int) (j11 : Int) : Option (List α) :=
  (lp (fun s => nC cmp4 rec a1 s.1 s.2.1 s.2.2) (aA, i10, j11)).bind (fun rr => CB cmp4 rec rr.1 a1 rr.2)

noncomputable def dX {α : Type} [Inhabited α] (cmp4 : α → α → Option Int) (rec : (List α) → Int → Int → Int → Option (List α)) (aA : (List α)) (a1 : Int) (m2 : Int) (b3 : Int) : Option (List α) :=
  cond (decide ((IntKind.i64.wrap (m2 - a1)) = (1 : Int)))
  (CD cmp4 rec aA a1 m2 b3)
  (yV cmp4 rec aA a1 m2 b3)

noncomputable def eA {α : Type} [Inhabited α] (cmp4 : α → α → Option Int) : Nat → (List α) → Int → Int → Int → Option (List α)
  | 0 => fun _ _ _ _ => none
  | k + 1 => dX cmp4 (eA cmp4 k)

noncomputable def oD {α : Type} [Inhabited α] (aA : (List α)) (a1 : Int) (m2 : Int) (b3 : Int) (cmp4 : α → α → Option Int) : Option (List α) := HC (fun k => eA cmp4 k aA a1 m2 b3)

noncomputable def yA {α : Type} [Inhabited α] (cmp2 : α → α → Option Int) (aA : List α) (n1 : Int) (aO : Int) : Option ((List α × Int) ⊕ ((List α))) :=
  some (.inl (aA, IntKind.i64.wrap (aO * (2 : Int))))

noncomputable def vD {α : Type} [Inhabited α] (cmp2 : α → α → Option Int) (aA : List α) (n1 : Int) (aO : Int) (a7 : Int) : Option ((List α × Int) ⊕ ((List α))) :=
  cond (decide ((IntKind.i64.wrap (a7 + aO)) < n1))
  ((oD aA a7 (IntKind.i64.wrap (a7 + aO)) n1 cmp2).bind fun x4 =>
  yA cmp2 x4 n1 aO)
  (yA cmp2 aA n1 aO)

noncomputable def mE {α : Type} [Inhabited α] (cmp2 : α → α → Option Int) (n1 : Int) (aO : Int) (aA : List α) (a7 : Int) (b8 : Int) : Option ((List α × Int × Int) ⊕ ((List α × Int))) :=
  cond (decide (b8 ≤ n1))
  ((oD aA a7 (IntKind.i64.wrap (a7 + aO)) b8 cmp2).bind fun x8 =>
  some (.inl (x8, b8, IntKind.i64.wrap (b8 + (IntKind.i64.wrap ((2 : Int) * aO))))))
  (some (.inr (aA, a7)))

noncomputable def uS {α : Type} [Inhabited α] (cmp2 : α → α → Option Int) (aA : List α) (n1 : Int) (aO : Int) (a7 : Int) (b8 : Int) : Option ((List α × Int) ⊕ ((List α))) :=
  (lp (fun s => mE cmp2 n1 aO s.1 s.2.1 s.2.2) (aA, a7, b8)).bind (fun rr => vD cmp2 rr.1 n1 aO rr.2)

noncomputable def jJ {α : Type} [Inhabited α] (cmp2 : α → α → Option Int) (n1 : Int) (aA : List α) (aO : Int) : Option ((List α × Int) ⊕ ((List α))) :=
  cond (decide (aO < n1))
  (uS cmp2 aA n1 aO (0 : Int) (IntKind.i64.wrap ((2 : Int) * aO)))
  (some (.inr aA))

noncomputable def yC {α : Type} [Inhabited α] (cmp2 : α → α → Option Int) (aA : List α) (n1 : Int) (aO : Int) : Option (List α) :=
  (lp (fun s => jJ cmp2 n1 s.1 s.2) (aA, aO)).bind (fun rr => some rr)

noncomputable def yB {α : Type} [Inhabited α] (cmp2 : α → α → Option Int) (aA : List α) (n1 : Int) (aO : Int) (a7 : Int) : Option (List α) :=
  (nE aA a7 n1 cmp2).bind fun x1 =>
  yC cmp2 x1 n1 aO

noncomputable def mB {α : Type} [Inhabited α] (cmp2 : α → α → Option Int) (n1 : Int) (aO : Int) (aA : List α) (a7 : Int) (b8 : Int) : Option ((List α × Int × Int) ⊕ ((List α × Int))) :=
  cond (decide (b8 ≤ n1))
  ((nE aA a7 b8 cmp2).bind fun x13 =>
  some (.inl (x13, b8, IntKind.i64.wrap (b8 + aO))))
  (some (.inr (aA, a7)))

noncomputable def yD {α : Type} [Inhabited α] (cmp2 : α → α → Option Int) (aA : List α) (n1 : Int) (aO : Int) (a7 : Int) (b8 : Int) : Option (List α) :=
  (lp (fun s => mB cmp2 n1 aO s.1 s.2.1 s.2.2) (aA, a7, b8)).bind (fun rr => yB cmp2 rr.1 n1 aO rr.2)

noncomputable def wH {α : Type} [Inhabited α] (aA : (List α)) (n1 : Int) (cmp2 : α → α → Option Int) : Option (List α) :=
  yD cmp2 aA n1 (20 : Int) (0 : Int) (20 : Int)

end Go.Abs
namespace Go.Abs
open Go
variable {α : Type} [Inhabited α]
structure Cmp {β : Type} (ok : β → Prop) (le : β → β → Prop) (cmp : β → β → Option Int) : Prop where
  ans : ∀ x y, ok x → ok y → ∃ v, cmp x y = some v ∧ (v < 0 ↔ ¬ le y x)
  trans : ∀ x y z, ok x → ok y → ok z → le x y → le y z → le x z
  total : ∀ x y, ok x → ok y → le x y ∨ le y x

abbrev Srt {β : Type} (le : β → β → Prop) (l : List β) : Prop := l.Pairwise le

abbrev Oks {β : Type} (ok : β → Prop) (l : List β) : Prop := ∀ x ∈ l, ok x

theorem YF {Q R : List α} {x : α} : (Q ++ x :: R).getD Q.length default = x := by simp [List.getD_eq_getElem?_getD]

theorem ZV {β : Type} {Q R : List β} {x y : β} : (Q ++ x :: R).set Q.length y = Q ++ y :: R := by simp

theorem oY {Q R d : List α} {x : α} {n : Nat} (hd : d = Q ++ x :: R) (hn : n = Q.length) : d.getD n default = x := by subst hd; subst hn; exact YF

theorem BR {β : Type} {Q R d : List β} {x y : β} {n : Nat} (hd : d = Q ++ x :: R) (hn : n = Q.length) : d.set n y = Q ++ y :: R := by subst hd; subst hn; exact ZV

theorem wr {n : Int} (h1 : -1099511627776 ≤ n) (h2 : n ≤ 8796093022208) : IntKind.i64.wrap n = n := eE (by omega) (by omega)

theorem NX {β : Type} {Q M R d : List β} {x y : β} {a b : Nat} (hd : d = Q ++ x :: (M ++ y :: R)) (ha : a = Q.length) (hb : b = Q.length + 1 + M.length) : (d.set a y).set b x = Q ++ y :: (M ++ x :: R) := by
  rw [BR hd ha, BR (Q := Q ++ y :: M) (x := y) (R := R) (by simp) (by simp; omega)]
  simp

section ins
variable {ok : α → Prop} {le : α → α → Prop} {cmp : α → α → Option Int}
theorem DS {A T : List α} {x : α} {a b i : Int} {P : List α} (ha : a = (P.length : Nat)) (hl : (P ++ A ++ x :: T).length ≤ 1099511627776)
    (hs : A = [] ∨ ∃ A' y v, A = A' ++ [y] ∧ cmp x y = some v ∧ ¬ v < 0) : lV cmp a b i (P ++ A ++ x :: T) ((P.length + A.length : Nat) : Int) = some (.inr (P ++ A ++ x :: T)) := by
  simp only [List.length_append, List.length_cons] at hl
  unfold lV
  rcases hs with rfl | ⟨A', y, v, rfl, hc, hv⟩
  · have h : decide (a < ((P.length + ([] : List α).length : Nat) : Int)) = false := by subst ha; simp
    rw [h, bE (fun h => by cases h), bE (fun h => by cases h)]
    simp [dF]
  · simp only [List.length_append, List.length_cons, List.length_nil] at hl ⊢
    have h : decide (a < ((P.length + (A'.length + (0 + 1)) : Nat) : Int)) = true := by subst ha; simp; omega
    have hw : IntKind.i64.wrap (((P.length + (A'.length + (0 + 1)) : Nat) : Int) - 1) = ((P.length + A'.length : Nat) : Int) := by rw [wr (by omega) (by omega)]; omega
    have g1 : (P ++ (A' ++ [y]) ++ x :: T).getD (P.length + (A'.length + (0 + 1))) default = x := oY (Q := P ++ (A' ++ [y])) rfl (by simp)
    have g2 : (P ++ (A' ++ [y]) ++ x :: T).getD (P.length + A'.length) default = y := oY (Q := P ++ A') (R := x :: T) (by simp) (by simp)
    rw [h, hw, bE (fun _ => ⟨by omega, by omega⟩), bE (fun _ => ⟨by omega, by omega⟩)]
    rw [Int.toNat_natCast, Int.toNat_natCast, g1, g2]
    simp [dF, hc, hv]

theorem QJ {A T : List α} {x y : α} {v : Int} {a b i : Int} {P : List α} (ha : a = (P.length : Nat)) (hl : (P ++ (A ++ [y]) ++ x :: T).length ≤ 1099511627776)
    (hc : cmp x y = some v) (hv : v < 0) : lV cmp a b i (P ++ (A ++ [y]) ++ x :: T) ((P.length + (A ++ [y]).length : Nat) : Int) = some (.inl (P ++ A ++ x :: (y :: T), ((P.length + A.length : Nat) : Int))) := by
  simp only [List.length_append, List.length_cons, List.length_nil] at hl ⊢
  unfold lV
  have h : decide (a < ((P.length + (A.length + (0 + 1)) : Nat) : Int)) = true := by subst ha; simp; omega
  have hw : IntKind.i64.wrap (((P.length + (A.length + (0 + 1)) : Nat) : Int) - 1) = ((P.length + A.length : Nat) : Int) := by rw [wr (by omega) (by omega)]; omega
  have g1 : (P ++ (A ++ [y]) ++ x :: T).getD (P.length + (A.length + (0 + 1))) default = x := oY (Q := P ++ (A ++ [y])) rfl (by simp)
  have g2 : (P ++ (A ++ [y]) ++ x :: T).getD (P.length + A.length) default = y := oY (Q := P ++ A) (R := x :: T) (by simp) (by simp)
  have hs : ((P ++ (A ++ [y]) ++ x :: T).set (P.length + (A.length + (0 + 1))) y).set (P.length + A.length) x = P ++ A ++ x :: (y :: T) := by
    rw [BR (Q := P ++ (A ++ [y])) (x := x) (R := T) rfl (by simp), BR (Q := P ++ A) (x := y) (R := y :: T) (by simp) (by simp)]
  have b1 : 0 ≤ ((P.length + (A.length + (0 + 1)) : Nat) : Int) ∧ ((P.length + (A.length + (0 + 1)) : Nat) : Int) < ((List.length (P ++ (A ++ [y]) ++ x :: T) : Nat) : Int) := ⟨by omega, by simp only [List.length_append, List.length_cons, List.length_nil]; omega⟩
  have b2 : 0 ≤ ((P.length + A.length : Nat) : Int) ∧ ((P.length + A.length : Nat) : Int) < ((List.length (P ++ (A ++ [y]) ++ x :: T) : Nat) : Int) := ⟨by omega, by simp only [List.length_append, List.length_cons, List.length_nil]; omega⟩
  rw [h, hw, bE (fun _ => b1), bE (fun _ => b2), Int.toNat_natCast, Int.toNat_natCast, g1, g2]
  simp only [dF, cond_true, hc, Option.bind_some, Bool.true_and, decide_eq_true hv]
  rw [bE b2, bE b1, bE b1, bE b2, hs]

theorem UX (C : Cmp ok le cmp) {x : α} (hx : ok x) {a b i : Int} {P : List α} (ha : a = (P.length : Nat)) : ∀ (n : Nat) (A B T : List α), A.length = n → Oks ok A → Oks ok B → Srt le (A ++ B) → (∀ y ∈ B, ¬ le y x) → (P ++ A ++ x :: (B ++ T)).length ≤ 1099511627776 →
    ∃ D, D.Perm (A ++ x :: B) ∧ Srt le D ∧ lp (fun s : List α × Int => lV cmp a b i s.1 s.2) (P ++ A ++ x :: (B ++ T), ((P.length + A.length : Nat) : Int)) = some (P ++ D ++ T) := by
  intro n
  induction n with
  | zero =>
    intro A B T hn _ hB hs hlt hl
    have hA : A = [] := List.length_eq_zero_iff.1 hn
    subst hA
    refine ⟨x :: B, List.Perm.refl _, ?_, ?_⟩
    · refine List.pairwise_cons.2 ⟨fun y hy => ?_, by simpa using hs⟩
      rcases C.total x y hx (hB y hy) with h | h
      · exact h
      · exact absurd h (hlt y hy)
    · rw [cM (DS ha hl (Or.inl rfl))]; simp
  | succ n ih =>
    intro A B T hn hA hB hs hlt hl
    obtain ⟨A', y, rfl⟩ : ∃ A' y, A = A' ++ [y] := by
      rcases List.eq_nil_or_concat A with h | ⟨A', y, h⟩
      · rw [h] at hn; simp at hn
      · exact ⟨A', y, by simpa using h⟩
    have hy : ok y := hA y (by simp)
    obtain ⟨v, hc, hv⟩ := C.ans x y hx hy
    by_cases hneg : v < 0
    · have hb := QJ (i := i) (b := b) ha hl hc hneg
      have hl' : (P ++ A' ++ x :: ((y :: B) ++ T)).length ≤ 1099511627776 := by
        simp only [List.length_append, List.length_cons, List.length_nil] at hl ⊢; omega
      obtain ⟨D, d1, d2, d3⟩ := ih A' (y :: B) T (by simpa using hn) (fun z hz => hA z (by simp [hz])) (fun z hz => by rcases List.mem_cons.1 hz with rfl | hz; exact hy; exact hB z hz) (by simpa using hs)
        (fun z hz => by rcases List.mem_cons.1 hz with rfl | hz; exact hv.1 hneg; exact hlt z hz) hl'
      refine ⟨D, d1.trans ?_, d2, ?_⟩
      · simp only [List.append_assoc, List.singleton_append]
        exact List.Perm.append_left _ (List.Perm.swap ..)
      · rw [dO hb]; simpa using d3
    · refine ⟨A' ++ [y] ++ x :: B, List.Perm.refl _, ?_, ?_⟩
      · have hyx : le y x := Classical.byContradiction fun h => hneg (hv.2 h)
        simp only [Srt, List.pairwise_append] at hs ⊢
        obtain ⟨s1, s2, s3⟩ := hs
        refine ⟨s1, List.pairwise_cons.2 ⟨fun z hz => ?_, s2⟩, ?_⟩
        · rcases C.total x z hx (hB z hz) with h | h
          · exact h
          · exact absurd h (hlt z hz)
        · intro z hz w hw
          rcases List.mem_cons.1 hw with rfl | hw
          · rcases List.mem_append.1 hz with hz' | hz'
            · exact C.trans z y w (hA z hz) hy hx (s1.2.2 z hz' y (by simp)) hyx
            · rw [List.mem_singleton] at hz'; subst hz'; exact hyx
          · exact s3 z hz w hw
      · rw [cM (DS ha hl (Or.inr ⟨A', y, v, rfl, hc, hneg⟩))]
        simp

theorem LI (C : Cmp ok le cmp) {a b : Int} {P : List α} (ha : a = (P.length : Nat)) : ∀ (B A T : List α), Oks ok A → Oks ok B → Srt le A → b = ((P.length + A.length + B.length : Nat) : Int) → (P ++ A ++ (B ++ T)).length ≤ 1099511627776 →
    ∃ D, D.Perm (A ++ B) ∧ Srt le D ∧ lp (fun s : List α × Int => jD cmp a b s.1 s.2) (P ++ A ++ (B ++ T), ((P.length + A.length : Nat) : Int)) = some (P ++ D ++ T)
  | [], A, T, _, _, hs, hb, _ => by
    refine ⟨A, by simp, hs, cM ?_⟩
    have : decide (((P.length + A.length : Nat) : Int) < b) = false := by subst hb; simp
    simp only [jD, this, cond_false, List.nil_append]
  | x :: B, A, T, hA, hB, hs, hb, hl => by
    obtain ⟨D, d1, d2, d3⟩ := UX C (hB x (by simp)) (b := b) (i := ((P.length + A.length : Nat) : Int)) ha A.length A [] (B ++ T) rfl hA (by intro z hz; simp at hz) (by simpa using hs) (by simp) (by simpa using hl)
    have hD : D.length = A.length + 1 := by rw [d1.length_eq]; simp
    have hlt : decide (((P.length + A.length : Nat) : Int) < b) = true := by subst hb; simp; omega
    have hbod : (fun s : List α × Int => jD cmp a b s.1 s.2) (P ++ A ++ (x :: B ++ T), ((P.length + A.length : Nat) : Int)) = some (.inl (P ++ D ++ (B ++ T), ((P.length + D.length : Nat) : Int))) := by
      show jD cmp a b _ _ = _
      simp only [jD, hlt, cond_true, yH]
      rw [show P ++ A ++ (x :: B ++ T) = P ++ A ++ x :: ([] ++ (B ++ T)) by simp, d3]
      simp only [Option.bind_some, yR]
      rw [wr (by omega) (by simp only [List.length_append, List.length_cons] at hl; omega), hD]
      congr 1
    have hl' : (P ++ D ++ (B ++ T)).length ≤ 1099511627776 := by simp only [List.length_append, List.length_cons] at hl ⊢; omega
    obtain ⟨E, e1, e2, e3⟩ := LI C (b := b) ha B D T (fun z hz => by
      have := d1.mem_iff.1 hz
      rcases List.mem_append.1 this with h | h
      · exact hA z h
      · rw [List.mem_singleton] at h; subst h; exact hB z (by simp)) (fun z hz => hB z (by simp [hz])) d2 (by rw [hb]; simp only [List.length_cons]; congr 1; omega) hl'
    refine ⟨E, e1.trans ?_, e2, by rw [dO hbod]; exact e3⟩
    have := d1.append_right B
    simpa using this

theorem VY (C : Cmp ok le cmp) {P A T : List α} {a b : Int} (ha : a = (P.length : Nat)) (hb : b = ((P.length + A.length : Nat) : Int)) (hA : Oks ok A) (hl : (P ++ A ++ T).length ≤ 1099511627776) :
    ∃ D, D.Perm A ∧ Srt le D ∧ nE (P ++ A ++ T) a b cmp = some (P ++ D ++ T) := by
  unfold nE yO
  simp only [List.length_append] at hl
  cases A with
  | nil =>
    refine ⟨[], List.Perm.refl _, List.Pairwise.nil, ?_⟩
    rw [cM (r := P ++ [] ++ T)]
    · rfl
    · have : decide (IntKind.i64.wrap (a + 1) < b) = false := by
        rw [wr (by omega) (by omega)]; subst ha; subst hb; simp; omega
      simp only [jD, this, cond_false]
  | cons x A =>
    simp only [List.length_cons] at hl
    have hw : IntKind.i64.wrap (a + 1) = ((P.length + [x].length : Nat) : Int) := by rw [wr (by omega) (by omega)]; subst ha; simp
    obtain ⟨D, d1, d2, d3⟩ := LI C (b := b) ha A [x] T (fun z hz => by rw [List.mem_singleton] at hz; subst hz; exact hA z (by simp)) (fun z hz => hA z (by simp [hz])) (by simp) (by rw [hb]; simp only [List.length_cons, List.length_nil]; congr 1; omega) (by simp only [List.length_append, List.length_cons, List.length_nil]; omega)
    refine ⟨D, by simpa using d1, d2, ?_⟩
    rw [hw, show P ++ x :: A ++ T = P ++ [x] ++ (A ++ T) by simp, d3]
    rfl

end ins
theorem EZ {cmp : α → α → Option Int} {a b n : Int} : ∀ (X Y Q Z R : List α) (i : Nat), X.length = Y.length → a + i = (Q.length : Nat) → b + i = ((Q.length + X.length + Z.length : Nat) : Int) → n = ((i + X.length : Nat) : Int) → 0 ≤ a → 0 ≤ b → (Q ++ X ++ Z ++ Y ++ R).length ≤ 1099511627776 →
    lp (fun s : List α × Int => oM cmp a b n s.1 s.2) (Q ++ X ++ Z ++ Y ++ R, ((i : Nat) : Int)) = some (Q ++ Y ++ Z ++ X ++ R)
  | [], Y, Q, Z, R, i, hxy, ha, hb, hn, _, _, hl => by
    have : Y = [] := List.length_eq_zero_iff.1 hxy.symm
    subst this
    refine cM ?_
    have : decide (((i : Nat) : Int) < n) = false := by subst hn; simp
    simp only [oM, this, cond_false]
  | x :: X, [], Q, Z, R, i, hxy, _, _, _, _, _, _ => by simp at hxy
  | x :: X, y :: Y, Q, Z, R, i, hxy, ha, hb, hn, ha0, hb0, hl => by
    simp only [List.length_append, List.length_cons] at hl hb hn hxy
    have hlt : decide (((i : Nat) : Int) < n) = true := by subst hn; simp; omega
    have wa : IntKind.i64.wrap (a + i) = ((Q.length : Nat) : Int) := by rw [wr (by omega) (by omega)]; exact ha
    have wb : IntKind.i64.wrap (b + i) = ((Q.length + 1 + (X ++ Z).length : Nat) : Int) := by rw [wr (by omega) (by omega), hb]; simp only [List.length_append]; congr 1; omega
    have wi : IntKind.i64.wrap (((i : Nat) : Int) + 1) = ((i + 1 : Nat) : Int) := by rw [wr (by omega) (by omega)]; omega
    have hd : Q ++ x :: X ++ Z ++ y :: Y ++ R = Q ++ x :: ((X ++ Z) ++ y :: (Y ++ R)) := by simp
    have b1 : 0 ≤ ((Q.length : Nat) : Int) ∧ ((Q.length : Nat) : Int) < ((List.length (Q ++ x :: X ++ Z ++ y :: Y ++ R) : Nat) : Int) := ⟨by omega, by simp only [List.length_append, List.length_cons]; omega⟩
    have b2 : 0 ≤ ((Q.length + 1 + (X ++ Z).length : Nat) : Int) ∧ ((Q.length + 1 + (X ++ Z).length : Nat) : Int) < ((List.length (Q ++ x :: X ++ Z ++ y :: Y ++ R) : Nat) : Int) := ⟨by omega, by simp only [List.length_append, List.length_cons]; omega⟩
    have g1 : (Q ++ x :: X ++ Z ++ y :: Y ++ R).getD Q.length default = x := oY hd rfl
    have g2 : (Q ++ x :: X ++ Z ++ y :: Y ++ R).getD (Q.length + 1 + (X ++ Z).length) default = y := oY (Q := Q ++ x :: X ++ Z) (R := Y ++ R) (by simp) (by simp; omega)
    have hbod : (fun s : List α × Int => oM cmp a b n s.1 s.2) (Q ++ x :: X ++ Z ++ y :: Y ++ R, ((i : Nat) : Int)) = some (.inl ((Q ++ [y]) ++ X ++ (Z ++ [x]) ++ Y ++ R, ((i + 1 : Nat) : Int))) := by
      show oM cmp a b n _ _ = _
      simp only [oM, hlt, cond_true, wa, wb, wi, bE b1, bE b2, Int.toNat_natCast, g1, g2]
      rw [NX hd rfl rfl]
      simp
    rw [dO hbod, EZ X Y (Q ++ [y]) (Z ++ [x]) R (i + 1) (by omega) (by simp; omega) (by simp; omega) (by rw [hn]; congr 1; omega) ha0 hb0 (by simp only [List.length_append, List.length_cons, List.length_nil]; omega)]
    simp

theorem KG {cmp : α → α → Option Int} {a b n : Int} {X Y Q Z R d : List α} (hd : d = Q ++ X ++ Z ++ Y ++ R) (hxy : X.length = Y.length) (ha : a = (Q.length : Nat)) (hb : b = ((Q.length + X.length + Z.length : Nat) : Int)) (hn : n = (X.length : Nat)) (hl : d.length ≤ 1099511627776) :
    tF d a b n cmp = some (Q ++ Y ++ Z ++ X ++ R) := by
  subst hd
  unfold tF CC
  have := EZ (cmp := cmp) (a := a) (b := b) (n := n) X Y Q Z R 0 hxy (by omega) (by omega) (by omega) (by omega) (by omega) hl
  simp only [Int.natCast_zero] at this
  rw [this]; rfl

theorem VG {cmp : α → α → Option Int} {m : Int} : ∀ (n : Nat) (X Y Q R : List α), X.length + Y.length ≤ n → X ≠ [] → Y ≠ [] → m = ((Q.length + X.length : Nat) : Int) → (Q ++ X ++ Y ++ R).length ≤ 1099511627776 →
    (lp (fun s : List α × Int × Int => mC cmp m s.1 s.2.1 s.2.2) (Q ++ X ++ Y ++ R, ((X.length : Nat) : Int), ((Y.length : Nat) : Int))).bind (fun rr => BG cmp rr.1 m rr.2) = some (Q ++ Y ++ X ++ R) := by
  intro n
  induction n with
  | zero => intro X Y Q R hn hX; exact absurd (List.length_eq_zero_iff.1 (by omega)) hX
  | succ n ih =>
    intro X Y Q R hn hX hY hm hl
    have hX' : 0 < X.length := List.length_pos_iff.2 hX
    have hY' : 0 < Y.length := List.length_pos_iff.2 hY
    simp only [List.length_append] at hl
    rcases Nat.lt_trichotomy X.length Y.length with h | h | h
    · -- the second is longer
      obtain ⟨Y1, Y2, rfl, hY2⟩ : ∃ Y1 Y2, Y = Y1 ++ Y2 ∧ Y2.length = X.length := ⟨Y.take (Y.length - X.length), Y.drop (Y.length - X.length), (List.take_append_drop _ _).symm, by rw [List.length_drop]; omega⟩
      simp only [List.length_append] at hn hl h
      have hne : decide (((X.length : Nat) : Int) = (((Y1 ++ Y2).length : Nat) : Int)) = false := by simp only [List.length_append]; simp; omega
      have hlt : decide ((((Y1 ++ Y2).length : Nat) : Int) < ((X.length : Nat) : Int)) = false := by simp only [List.length_append]; simp; omega
      have e1 : IntKind.i64.wrap (m - ((X.length : Nat) : Int)) = ((Q.length : Nat) : Int) := by rw [wr (by omega) (by omega)]; omega
      have e0 : IntKind.i64.wrap (m + (((Y1 ++ Y2).length : Nat) : Int)) = m + (((Y1 ++ Y2).length : Nat) : Int) := by simp only [List.length_append]; exact wr (by omega) (by omega)
      have e2 : IntKind.i64.wrap (m + (((Y1 ++ Y2).length : Nat) : Int) - ((X.length : Nat) : Int)) = ((Q.length + X.length + Y1.length : Nat) : Int) := by simp only [List.length_append]; rw [wr (by omega) (by omega)]; omega
      have e3 : IntKind.i64.wrap ((((Y1 ++ Y2).length : Nat) : Int) - ((X.length : Nat) : Int)) = ((Y1.length : Nat) : Int) := by simp only [List.length_append]; rw [wr (by omega) (by omega)]; omega
      have hbod : (fun s : List α × Int × Int => mC cmp m s.1 s.2.1 s.2.2) (Q ++ X ++ (Y1 ++ Y2) ++ R, ((X.length : Nat) : Int), (((Y1 ++ Y2).length : Nat) : Int)) = some (.inl (Q ++ Y2 ++ Y1 ++ (X ++ R), ((Y2.length : Nat) : Int), ((Y1.length : Nat) : Int))) := by
        show mC cmp m _ _ _ = _
        simp only [mC, hne, Bool.not_false, cond_true, hlt, cond_false, e0, e1, e2, e3]
        rw [KG (X := X) (Y := Y2) (Q := Q) (Z := Y1) (R := R) (by simp) hY2.symm rfl rfl rfl (by simp only [List.length_append]; omega)]
        simp [hY2]
      rw [dO hbod, ih Y2 Y1 Q (X ++ R) (by omega) (fun h => by rw [h] at hY2; simp at hY2; omega) (fun h' => by rw [h'] at h; simp at h; omega) (by rw [hm]; congr 1; omega) (by simp only [List.length_append]; omega)]
      simp
    · -- alike
      have hne : decide (((X.length : Nat) : Int) = ((Y.length : Nat) : Int)) = true := by simp; omega
      rw [cM (r := (Q ++ X ++ Y ++ R, ((X.length : Nat) : Int))) (by show mC cmp m _ _ _ = _; simp only [mC, hne, Bool.not_true, cond_false])]
      simp only [Option.bind_some, BG]
      have e1 : IntKind.i64.wrap (m - ((X.length : Nat) : Int)) = ((Q.length : Nat) : Int) := by rw [wr (by omega) (by omega)]; omega
      rw [e1, KG (X := X) (Y := Y) (Q := Q) (Z := []) (R := R) (by simp) h rfl (by rw [hm]; simp) rfl (by simp only [List.length_append]; omega)]
      simp
    · -- the first is longer
      obtain ⟨X1, X2, rfl, hX1⟩ : ∃ X1 X2, X = X1 ++ X2 ∧ X1.length = Y.length := ⟨X.take Y.length, X.drop Y.length, (List.take_append_drop _ _).symm, by rw [List.length_take]; omega⟩
      simp only [List.length_append] at hn hl h hm
      have hne : decide ((((X1 ++ X2).length : Nat) : Int) = ((Y.length : Nat) : Int)) = false := by simp only [List.length_append]; simp; omega
      have hlt : decide (((Y.length : Nat) : Int) < (((X1 ++ X2).length : Nat) : Int)) = true := by simp only [List.length_append]; simp; omega
      have e1 : IntKind.i64.wrap (m - (((X1 ++ X2).length : Nat) : Int)) = ((Q.length : Nat) : Int) := by simp only [List.length_append]; rw [wr (by omega) (by omega)]; omega
      have e3 : IntKind.i64.wrap ((((X1 ++ X2).length : Nat) : Int) - ((Y.length : Nat) : Int)) = ((X2.length : Nat) : Int) := by simp only [List.length_append]; rw [wr (by omega) (by omega)]; omega
      have hbod : (fun s : List α × Int × Int => mC cmp m s.1 s.2.1 s.2.2) (Q ++ (X1 ++ X2) ++ Y ++ R, (((X1 ++ X2).length : Nat) : Int), ((Y.length : Nat) : Int)) = some (.inl ((Q ++ Y) ++ X2 ++ X1 ++ R, ((X2.length : Nat) : Int), ((X1.length : Nat) : Int))) := by
        show mC cmp m _ _ _ = _
        simp only [mC, hne, Bool.not_false, cond_true, hlt, e1, e3]
        rw [KG (X := X1) (Y := Y) (Q := Q) (Z := X2) (R := R) (by simp) hX1 rfl (by rw [hm]; congr 1; omega) (by rw [hX1]) (by simp only [List.length_append]; omega)]
        simp [hX1]
      rw [dO hbod, ih X2 X1 (Q ++ Y) R (by omega) (fun h' => by rw [h'] at h; simp at h; omega) (fun h => by rw [h] at hX1; simp at hX1; omega) (by rw [hm]; simp only [List.length_append]; congr 1; omega) (by simp only [List.length_append]; omega)]
      simp

theorem aAL {cmp : α → α → Option Int} {a m b : Int} {X Y Q R d : List α} (hd : d = Q ++ X ++ Y ++ R) (hX : X ≠ []) (hY : Y ≠ []) (ha : a = (Q.length : Nat)) (hm : m = ((Q.length + X.length : Nat) : Int)) (hb : b = ((Q.length + X.length + Y.length : Nat) : Int)) (hl : d.length ≤ 1099511627776) :
    AP d a m b cmp = some (Q ++ Y ++ X ++ R) := by
  subst hd
  unfold AP GK
  have hl' := hl
  simp only [List.length_append] at hl'
  rw [show IntKind.i64.wrap (m - a) = ((X.length : Nat) : Int) by rw [wr (by omega) (by omega)]; omega, show IntKind.i64.wrap (b - m) = ((Y.length : Nat) : Int) by rw [wr (by omega) (by omega)]; omega]
  exact VG _ X Y Q R (Nat.le_refl _) hX hY hm hl

end Go.Abs
namespace Go.Abs
open Go
variable {α : Type} [Inhabited α]
theorem half {s : Nat} (h : s ≤ 4398046511104) : IntKind.i64.wrap (Int.fdiv (IntKind.u64.wrap (IntKind.i64.wrap (s : Int))) (2 ^ (min (Int.toNat (1 : Int)) 64))) = ((s / 2 : Nat) : Int) := by
  rw [wr (n := (s : Int)) (by omega) (by omega)]
  have hu : IntKind.u64.wrap (s : Int) = (s : Int) := by
    simp only [IntKind.wrap, IntKind.bits, IntKind.signed]
    simp
    omega
  have hp : (2 : Int) ^ (min (Int.toNat (1 : Int)) 64) = 2 := by decide
  rw [hu, hp, Int.fdiv_eq_ediv_of_nonneg _ (by omega), wr (by omega) (by omega)]
  omega

theorem DK {P B S d : List α} {n k : Nat} (hd : d = P ++ B ++ S) (hn : n = P.length + k) (hk : k < B.length) : d.getD n default = B.getD k default := by
  subst hd; subst hn
  simp only [List.getD_eq_getElem?_getD]
  rw [List.append_assoc, List.getElem?_append_right (by omega), List.getElem?_append_left (by omega)]
  congr 2; omega

theorem CS {l : List α} {t : Nat} {y : α} (h : y ∈ l.take t) : ∃ i, i < t ∧ i < l.length ∧ y = l.getD i default := by
  obtain ⟨i, hi, rfl⟩ := List.mem_iff_getElem.1 h
  rw [List.length_take] at hi
  refine ⟨i, by omega, by omega, ?_⟩
  rw [List.getElem_take, List.getD_eq_getElem?_getD, List.getElem?_eq_getElem (by omega)]; rfl

theorem sY {l : List α} {t : Nat} {y : α} (h : y ∈ l.drop t) : ∃ i, t ≤ i ∧ i < l.length ∧ y = l.getD i default := by
  obtain ⟨i, hi, rfl⟩ := List.mem_iff_getElem.1 h
  rw [List.length_drop] at hi
  refine ⟨t + i, by omega, by omega, ?_⟩
  rw [List.getElem_drop, List.getD_eq_getElem?_getD, List.getElem?_eq_getElem (by omega)]; rfl

theorem dD {l : List α} {i : Nat} (h : i < l.length) : l.getD i default ∈ l := by
  rw [List.getD_eq_getElem?_getD, List.getElem?_eq_getElem h]; exact List.getElem_mem h

section sym
variable {ok : α → Prop} {le : α → α → Prop} {cmp : α → α → Option Int}
theorem Cmp.refl {β : Type} {ok : β → Prop} {le : β → β → Prop} {cmp : β → β → Option Int} (C : Cmp ok le cmp) {x : β} (h : ok x) : le x x := by rcases C.total x x h h with h | h <;> exact h

theorem rW (C : Cmp ok le cmp) {l : List α} (ho : Oks ok l) (hs : Srt le l) {i j : Nat} (hij : i ≤ j) (hj : j < l.length) : le (l.getD i default) (l.getD j default) := by
  rcases Nat.lt_or_eq_of_le hij with h | h
  · have := List.pairwise_iff_getElem.1 hs i j (by omega) hj h
    simpa [List.getD_eq_getElem?_getD, List.getElem?_eq_getElem hj, List.getElem?_eq_getElem (show i < l.length by omega)] using this
  · subst h; exact C.refl (ho _ (dD hj))

theorem OE {β : Type} {le : β → β → Prop} {l : List β} (h : Srt le l) (t : Nat) : Srt le (l.take t) := List.Pairwise.sublist (List.take_sublist t l) h

theorem OC {β : Type} {le : β → β → Prop} {l : List β} (h : Srt le l) (t : Nat) : Srt le (l.drop t) := List.Pairwise.sublist (List.drop_sublist t l) h

theorem OQ {β : Type} {body : (List β × Int × Int) → Option ((List β × Int × Int) ⊕ (List β × Int))} {d : List β} {f : Nat → Prop} {lo hi : Nat}
    (hb : ∀ i j : Nat, lo ≤ i → i < j → j ≤ hi → ∃ t : Bool, (t = true ↔ f ((i + j) / 2)) ∧ body (d, (i : Int), (j : Int)) = some (.inl (if t then (d, (((i + j) / 2 + 1 : Nat) : Int), (j : Int)) else (d, (i : Int), (((i + j) / 2 : Nat) : Int)))))
    (he : ∀ i : Nat, body (d, (i : Int), (i : Int)) = some (.inr (d, (i : Int)))) :
    ∀ (n i j : Nat), j - i ≤ n → lo ≤ i → i ≤ j → j ≤ hi → (i = lo ∨ f (i - 1)) → (j = hi ∨ ¬ f j) → ∃ s, lo ≤ s ∧ s ≤ hi ∧ (s = lo ∨ f (s - 1)) ∧ (s = hi ∨ ¬ f s) ∧ lp body (d, (i : Int), (j : Int)) = some (d, ((s : Nat) : Int)) := by
  intro n
  induction n with
  | zero =>
    intro i j hn h1 h2 h3 h4 h5
    have : i = j := by omega
    subst this
    exact ⟨i, h1, h3, h4, h5, cM (he i)⟩
  | succ n ih =>
    intro i j hn h1 h2 h3 h4 h5
    by_cases hij : i = j
    · subst hij; exact ⟨i, h1, h3, h4, h5, cM (he i)⟩
    · obtain ⟨t, ht, hbt⟩ := hb i j h1 (by omega) h3
      cases t
      · obtain ⟨s, r1, r2, r3, r4, r5⟩ := ih i ((i + j) / 2) (by omega) h1 (by omega) (by omega) h4 (Or.inr (fun h => by have := ht.2 h; cases this))
        refine ⟨s, r1, r2, r3, r4, ?_⟩
        rw [dO hbt]; exact r5
      · obtain ⟨s, r1, r2, r3, r4, r5⟩ := ih ((i + j) / 2 + 1) j (by omega) (by omega) (by omega) h3 (Or.inr (by simpa using ht.1 rfl)) h5
        refine ⟨s, r1, r2, r3, r4, ?_⟩
        rw [dO hbt]; exact r5

def HV (le : α → α → Prop) (P A B S r : List α) : Prop := ∃ D, D.Perm (A ++ B) ∧ Srt le D ∧ r = P ++ D ++ S

theorem YR {cmp : α → α → Option Int} {rec : List α → Int → Int → Int → Option (List α)} {e : Int} {x : α} : ∀ (B Q R : List α) (k : Nat), k = Q.length → e = ((Q.length + B.length + 1 : Nat) : Int) → (Q ++ x :: B ++ R).length ≤ 1099511627776 →
    lp (fun s : List α × Int => nH cmp rec e s.1 s.2) (Q ++ x :: B ++ R, (k : Int)) = some (Q ++ B ++ x :: R)
  | [], Q, R, k, hk, he, hl => by
    simp only [List.length_append, List.length_cons, List.length_nil] at hl he
    refine cM ?_
    show nH cmp rec e _ _ = _
    have : decide ((k : Int) < IntKind.i64.wrap (e - 1)) = false := by rw [wr (by omega) (by omega)]; simp; omega
    simp only [nH, this, cond_false]
    simp
  | y :: B, Q, R, k, hk, he, hl => by
    simp only [List.length_append, List.length_cons] at hl he
    have h1 : decide ((k : Int) < IntKind.i64.wrap (e - 1)) = true := by rw [wr (by omega) (by omega)]; simp; omega
    have hw : IntKind.i64.wrap ((k : Int) + 1) = ((k + 1 : Nat) : Int) := by rw [wr (by omega) (by omega)]; omega
    have b1 : 0 ≤ (k : Int) ∧ (k : Int) < ((List.length (Q ++ x :: y :: B ++ R) : Nat) : Int) := ⟨by omega, by simp only [List.length_append, List.length_cons]; omega⟩
    have b2 : 0 ≤ ((k + 1 : Nat) : Int) ∧ ((k + 1 : Nat) : Int) < ((List.length (Q ++ x :: y :: B ++ R) : Nat) : Int) := ⟨by omega, by simp only [List.length_append, List.length_cons]; omega⟩
    have hd : Q ++ x :: y :: B ++ R = Q ++ x :: ([] ++ y :: (B ++ R)) := by simp
    have g1 : (Q ++ x :: y :: B ++ R).getD k default = x := oY hd hk
    have g2 : (Q ++ x :: y :: B ++ R).getD (k + 1) default = y := oY (Q := Q ++ [x]) (R := B ++ R) (by simp) (by simp; omega)
    have hb : (fun s : List α × Int => nH cmp rec e s.1 s.2) (Q ++ x :: y :: B ++ R, (k : Int)) = some (.inl ((Q ++ [y]) ++ x :: B ++ R, ((k + 1 : Nat) : Int))) := by
      show nH cmp rec e _ _ = _
      simp only [nH, h1, cond_true, hw, bE b1, bE b2, Int.toNat_natCast, g1, g2]
      rw [NX (M := []) hd hk (by simp; omega)]
      simp
    rw [dO hb, YR B (Q ++ [y]) R (k + 1) (by simp; omega) (by rw [he]; simp only [List.length_append, List.length_cons, List.length_nil]; congr 1; omega) (by simp only [List.length_append, List.length_cons, List.length_nil]; omega)]
    simp

theorem aAd {cmp : α → α → Option Int} {rec : List α → Int → Int → Int → Option (List α)} {e : Int} {x : α} {Q : List α} (he : e = (Q.length : Nat)) : ∀ (n : Nat) (A R : List α) (k : Nat), A.length = n → k = Q.length + A.length → (Q ++ A ++ x :: R).length ≤ 1099511627776 →
    lp (fun s : List α × Int => nF cmp rec e s.1 s.2) (Q ++ A ++ x :: R, (k : Int)) = some (Q ++ x :: A ++ R) := by
  intro n
  induction n with
  | zero =>
    intro A R k hn hk hl
    have hA : A = [] := List.length_eq_zero_iff.1 hn
    subst hA
    refine cM ?_
    show nF cmp rec e _ _ = _
    have : decide (e < (k : Int)) = false := by simp only [List.length_nil] at hk; simp; omega
    simp only [nF, this, cond_false]
    simp
  | succ n ih =>
    intro A R k hn hk hl
    obtain ⟨A', y, rfl⟩ : ∃ A' y, A = A' ++ [y] := by
      rcases List.eq_nil_or_concat A with h | ⟨A', y, h⟩
      · rw [h] at hn; simp at hn
      · exact ⟨A', y, by simpa using h⟩
    simp only [List.length_append, List.length_cons, List.length_nil] at hl hk hn
    have h1 : decide (e < (k : Int)) = true := by simp; omega
    have hw : IntKind.i64.wrap ((k : Int) - 1) = ((Q.length + A'.length : Nat) : Int) := by rw [wr (by omega) (by omega)]; omega
    have b1 : 0 ≤ (k : Int) ∧ (k : Int) < ((List.length (Q ++ (A' ++ [y]) ++ x :: R) : Nat) : Int) := ⟨by omega, by simp only [List.length_append, List.length_cons, List.length_nil]; omega⟩
    have b2 : 0 ≤ ((Q.length + A'.length : Nat) : Int) ∧ ((Q.length + A'.length : Nat) : Int) < ((List.length (Q ++ (A' ++ [y]) ++ x :: R) : Nat) : Int) := ⟨by omega, by simp only [List.length_append, List.length_cons, List.length_nil]; omega⟩
    have g1 : (Q ++ (A' ++ [y]) ++ x :: R).getD k default = x := oY (Q := Q ++ (A' ++ [y])) rfl (by simp; omega)
    have g2 : (Q ++ (A' ++ [y]) ++ x :: R).getD (Q.length + A'.length) default = y := oY (Q := Q ++ A') (R := x :: R) (by simp) (by simp)
    have hb : (fun s : List α × Int => nF cmp rec e s.1 s.2) (Q ++ (A' ++ [y]) ++ x :: R, (k : Int)) = some (.inl (Q ++ A' ++ x :: (y :: R), ((Q.length + A'.length : Nat) : Int))) := by
      show nF cmp rec e _ _ = _
      simp only [nF, h1, cond_true, hw, bE b1, bE b2, Int.toNat_natCast, g1, g2]
      rw [BR (Q := Q ++ (A' ++ [y])) (x := x) (R := R) rfl (by simp; omega), BR (Q := Q ++ A') (x := y) (R := y :: R) (by simp) (by simp)]
    rw [dO hb, ih A' (y :: R) (Q.length + A'.length) (by omega) rfl (by simp only [List.length_append, List.length_cons]; omega)]
    simp

def RZ (cmp : α → α → Option Int) (le : α → α → Prop) (P A B S : List α) (d : List α) (a m b : Int) : Prop :=
  (∃ r, HV le P A B S r ∧ ∀ rec, dX cmp rec d a m b = some r) ∨
  (∃ A1 A2 B1 B2, A = A1 ++ A2 ∧ B = B1 ++ B2 ∧ 0 < A1.length + B1.length ∧ 0 < A2.length + B2.length ∧ (∀ x ∈ A1 ++ B1, ∀ y ∈ A2 ++ B2, le x y) ∧
    ∀ rec, dX cmp rec d a m b = (cond (decide (A1 ≠ [] ∧ B1 ≠ [])) (rec (P ++ A1 ++ B1 ++ A2 ++ B2 ++ S) a (a + (A1.length : Nat)) (a + ((A1.length + B1.length : Nat) : Int))) (some (P ++ A1 ++ B1 ++ A2 ++ B2 ++ S))).bind fun x =>
      cond (decide (A2 ≠ [] ∧ B2 ≠ [])) (rec x (a + ((A1.length + B1.length : Nat) : Int)) (a + ((A1.length + B1.length + A2.length : Nat) : Int)) b) (some x))

theorem VS (C : Cmp ok le cmp) {P B S : List α} {x : α} {a m b : Int} (hx : ok x) (hB : Oks ok B) (hs : Srt le B) (ha : a = (P.length : Nat)) (hm : m = ((P.length + 1 : Nat) : Int)) (hb : b = ((P.length + 1 + B.length : Nat) : Int)) (hl : (P ++ x :: B ++ S).length ≤ 1099511627776) :
    ∃ r, HV le P [x] B S r ∧ ∀ rec, dX cmp rec (P ++ x :: B ++ S) a m b = some r := by
  have hl' := hl
  simp only [List.length_append, List.length_cons] at hl'
  have hgx : (P ++ x :: B ++ S).getD P.length default = x := oY (Q := P) (R := B ++ S) (by simp) rfl
  have hgb : ∀ k, k < B.length → (P ++ x :: B ++ S).getD (P.length + 1 + k) default = B.getD k default := fun k hk => DK (P := P ++ [x]) (B := B) (S := S) (by simp) (by simp) hk
  have hbin : ∀ rec, ∃ s : Nat, P.length + 1 ≤ s ∧ s ≤ P.length + 1 + B.length ∧ (s = P.length + 1 ∨ ¬ le x (B.getD (s - 1 - (P.length + 1)) default)) ∧ (s = P.length + 1 + B.length ∨ ¬ ¬ le x (B.getD (s - (P.length + 1)) default)) ∧
      lp (fun s : List α × Int × Int => nC cmp rec a s.1 s.2.1 s.2.2) (P ++ x :: B ++ S, m, b) = some (P ++ x :: B ++ S, ((s : Nat) : Int)) := by
    intro rec
    rw [hm, hb]
    refine OQ (lo := P.length + 1) (hi := P.length + 1 + B.length) (f := fun k => ¬ le x (B.getD (k - (P.length + 1)) default)) ?_ ?_ _ _ _ (Nat.le_refl _) (Nat.le_refl _) (by omega) (Nat.le_refl _) (Or.inl rfl) (Or.inl rfl)
    · intro i j h1 h2 h3
      have hh : (i + j) / 2 - (P.length + 1) < B.length := by omega
      have e1 : (P ++ x :: B ++ S).getD ((i + j) / 2) default = B.getD ((i + j) / 2 - (P.length + 1)) default := by
        have := hgb ((i + j) / 2 - (P.length + 1)) hh
        rwa [show P.length + 1 + ((i + j) / 2 - (P.length + 1)) = (i + j) / 2 by omega] at this
      obtain ⟨v, hc, hv⟩ := C.ans _ x (hB _ (dD hh)) hx
      refine ⟨decide (v < 0), by simpa using hv, ?_⟩
      show nC cmp rec a _ _ _ = _
      have hlt : decide ((i : Int) < (j : Int)) = true := by simpa using h2
      have hadd : ((i : Int) + (j : Int)) = ((i + j : Nat) : Int) := by omega
      have w1 : IntKind.i64.wrap ((((i + j) / 2 : Nat) : Int) + 1) = (((i + j) / 2 + 1 : Nat) : Int) := by rw [wr (by omega) (by omega)]; omega
      simp only [nC, hlt, cond_true, hadd, half (s := i + j) (by omega), Int.toNat_natCast, ha, e1, hgx, hc, Option.bind_some, w1]
      rw [bE (by omega), bE ⟨by omega, by simp only [List.length_append, List.length_cons]; omega⟩, bE ⟨by omega, by simp only [List.length_append, List.length_cons]; omega⟩]
      by_cases hneg : v < 0 <;> simp [hneg]
    · intro i
      show nC cmp rec a _ _ _ = _
      have hlt : decide ((i : Int) < (i : Int)) = false := by simp
      simp only [nC, hlt, cond_false]
  obtain ⟨s, s1, s2, s3, s4, s5⟩ := hbin (fun _ _ _ _ => none)
  obtain ⟨t, rfl⟩ : ∃ t, s = P.length + 1 + t := ⟨s - (P.length + 1), by omega⟩
  have ht : t ≤ B.length := by omega
  have hx1 : ∀ i, i < t → le (B.getD i default) x := fun i hi => by
    have h3 : ¬ le x (B.getD (t - 1) default) := by
      rcases s3 with h | h
      · omega
      · rwa [show P.length + 1 + t - 1 - (P.length + 1) = t - 1 by omega] at h
    have h4 : le (B.getD (t - 1) default) x := by
      rcases C.total x _ hx (hB _ (dD (show t - 1 < B.length by omega))) with h | h
      · exact absurd h h3
      · exact h
    exact C.trans _ _ _ (hB _ (dD (by omega))) (hB _ (dD (by omega))) hx (rW C hB hs (show i ≤ t - 1 by omega) (by omega)) h4
  have hx2 : ∀ j, t ≤ j → j < B.length → le x (B.getD j default) := fun j hj hj' => by
    have h3 : le x (B.getD t default) := by
      rcases s4 with h | h
      · omega
      · rw [show P.length + 1 + t - (P.length + 1) = t by omega] at h
        exact Classical.not_not.1 h
    exact C.trans _ _ _ hx (hB _ (dD (by omega))) (hB _ (dD hj')) h3 (rW C hB hs hj hj')
  have hBs : B.take t ++ B.drop t = B := List.take_append_drop t B
  have hlt : (B.take t).length = t := by rw [List.length_take]; omega
  refine ⟨P ++ (B.take t ++ x :: B.drop t) ++ S, ⟨_, ?_, ?_, rfl⟩, fun rec => ?_⟩
  · have := List.perm_middle (a := x) (l₁ := B.take t) (l₂ := B.drop t)
    rw [hBs] at this; exact this
  · simp only [Srt, List.pairwise_append, List.pairwise_cons]
    refine ⟨OE hs t, ⟨fun z hz => ?_, OC hs t⟩, fun y hy z hz => ?_⟩
    · obtain ⟨j, j1, j2, rfl⟩ := sY hz
      exact hx2 j j1 j2
    · obtain ⟨i, i1, i2, rfl⟩ := CS hy
      rcases List.mem_cons.1 hz with rfl | hz
      · exact hx1 i i1
      · obtain ⟨j, j1, j2, rfl⟩ := sY hz
        exact rW C hB hs (by omega) j2
  · have h1 : decide (IntKind.i64.wrap (m - a) = 1) = true := by rw [wr (by omega) (by omega)]; simp; omega
    have s5' : lp (fun s : List α × Int × Int => nC cmp rec a s.1 s.2.1 s.2.2) (P ++ x :: B ++ S, m, b) = some (P ++ x :: B ++ S, ((P.length + 1 + t : Nat) : Int)) := s5
    simp only [dX, h1, cond_true, CD, s5', Option.bind_some, CB, CF]
    have hmv := YR (cmp := cmp) (rec := rec) (e := ((P.length + 1 + t : Nat) : Int)) (x := x) (B.take t) P (B.drop t ++ S) P.length rfl (by rw [hlt]; congr 1; omega) (by simp only [List.length_append, List.length_cons, List.length_drop]; omega)
    have hd : P ++ x :: B.take t ++ (B.drop t ++ S) = P ++ x :: B ++ S := by
      have : P ++ x :: B.take t ++ (B.drop t ++ S) = P ++ x :: (B.take t ++ B.drop t) ++ S := by simp only [List.append_assoc, List.cons_append]
      rw [this, hBs]
    rw [hd] at hmv
    rw [ha, hmv]
    simp [BS]

theorem XT (C : Cmp ok le cmp) {P A S : List α} {x : α} {a m b : Int} (hx : ok x) (hA : Oks ok A) (hs : Srt le A) (hA1 : A.length ≠ 1) (ha : a = (P.length : Nat)) (hm : m = ((P.length + A.length : Nat) : Int)) (hb : b = ((P.length + A.length + 1 : Nat) : Int)) (hl : (P ++ A ++ x :: S).length ≤ 1099511627776) :
    ∃ r, HV le P A [x] S r ∧ ∀ rec, dX cmp rec (P ++ A ++ x :: S) a m b = some r := by
  have hl' := hl
  simp only [List.length_append, List.length_cons] at hl'
  have hgx : (P ++ A ++ x :: S).getD (P.length + A.length) default = x := oY (Q := P ++ A) (R := S) rfl (by simp)
  have hga : ∀ k, k < A.length → (P ++ A ++ x :: S).getD (P.length + k) default = A.getD k default := fun k hk => DK (P := P) (B := A) (S := x :: S) rfl rfl hk
  have hbin : ∀ rec, ∃ s : Nat, P.length ≤ s ∧ s ≤ P.length + A.length ∧ (s = P.length ∨ le (A.getD (s - 1 - P.length) default) x) ∧ (s = P.length + A.length ∨ ¬ le (A.getD (s - P.length) default) x) ∧
      lp (fun s : List α × Int × Int => nB cmp rec m s.1 s.2.1 s.2.2) (P ++ A ++ x :: S, a, m) = some (P ++ A ++ x :: S, ((s : Nat) : Int)) := by
    intro rec
    rw [ha, hm]
    refine OQ (lo := P.length) (hi := P.length + A.length) (f := fun k => le (A.getD (k - P.length) default) x) ?_ ?_ _ _ _ (Nat.le_refl _) (Nat.le_refl _) (by omega) (Nat.le_refl _) (Or.inl rfl) (Or.inl rfl)
    · intro i j h1 h2 h3
      have hh : (i + j) / 2 - P.length < A.length := by omega
      have e1 : (P ++ A ++ x :: S).getD ((i + j) / 2) default = A.getD ((i + j) / 2 - P.length) default := by
        have := hga ((i + j) / 2 - P.length) hh
        rwa [show P.length + ((i + j) / 2 - P.length) = (i + j) / 2 by omega] at this
      obtain ⟨v, hc, hv⟩ := C.ans x _ hx (hA _ (dD hh))
      refine ⟨!decide (v < 0), by simp only [Bool.not_eq_true', decide_eq_false_iff_not, hv, Classical.not_not], ?_⟩
      show nB cmp rec _ _ _ _ = _
      have hlt : decide ((i : Int) < (j : Int)) = true := by simpa using h2
      have hadd : ((i : Int) + (j : Int)) = ((i + j : Nat) : Int) := by omega
      have w1 : IntKind.i64.wrap ((((i + j) / 2 : Nat) : Int) + 1) = (((i + j) / 2 + 1 : Nat) : Int) := by rw [wr (by omega) (by omega)]; omega
      simp only [nB, hlt, cond_true, hadd, half (s := i + j) (by omega), Int.toNat_natCast, e1, hgx, hc, Option.bind_some, w1]
      rw [bE (by omega), bE ⟨by omega, by simp only [List.length_append, List.length_cons]; omega⟩, bE ⟨by omega, by simp only [List.length_append, List.length_cons]; omega⟩]
      by_cases hneg : v < 0 <;> simp [hneg]
    · intro i
      show nB cmp rec _ _ _ _ = _
      have hlt : decide ((i : Int) < (i : Int)) = false := by simp
      simp only [nB, hlt, cond_false]
  obtain ⟨s, s1, s2, s3, s4, s5⟩ := hbin (fun _ _ _ _ => none)
  obtain ⟨t, rfl⟩ : ∃ t, s = P.length + t := ⟨s - P.length, by omega⟩
  have ht : t ≤ A.length := by omega
  have hx1 : ∀ i, i < t → le (A.getD i default) x := fun i hi => by
    have h4 : le (A.getD (t - 1) default) x := by
      rcases s3 with h | h
      · omega
      · rwa [show P.length + t - 1 - P.length = t - 1 by omega] at h
    exact C.trans _ _ _ (hA _ (dD (by omega))) (hA _ (dD (by omega))) hx (rW C hA hs (show i ≤ t - 1 by omega) (by omega)) h4
  have hx2 : ∀ j, t ≤ j → j < A.length → le x (A.getD j default) := fun j hj hj' => by
    have h3 : le x (A.getD t default) := by
      rcases s4 with h | h
      · omega
      · rw [show P.length + t - P.length = t by omega] at h
        rcases C.total x _ hx (hA _ (dD (show t < A.length by omega))) with h' | h'
        · exact h'
        · exact absurd h' h
    exact C.trans _ _ _ hx (hA _ (dD (by omega))) (hA _ (dD hj')) h3 (rW C hA hs hj hj')
  have hAs : A.take t ++ A.drop t = A := List.take_append_drop t A
  have hlt : (A.take t).length = t := by rw [List.length_take]; omega
  refine ⟨P ++ (A.take t ++ x :: A.drop t) ++ S, ⟨_, ?_, ?_, rfl⟩, fun rec => ?_⟩
  · have := List.perm_middle (a := x) (l₁ := A.take t) (l₂ := A.drop t)
    rw [hAs] at this
    exact this.trans (by simpa using (List.perm_append_comm (l₁ := [x]) (l₂ := A)))
  · simp only [Srt, List.pairwise_append, List.pairwise_cons]
    refine ⟨OE hs t, ⟨fun z hz => ?_, OC hs t⟩, fun y hy z hz => ?_⟩
    · obtain ⟨j, j1, j2, rfl⟩ := sY hz
      exact hx2 j j1 j2
    · obtain ⟨i, i1, i2, rfl⟩ := CS hy
      rcases List.mem_cons.1 hz with rfl | hz
      · exact hx1 i i1
      · obtain ⟨j, j1, j2, rfl⟩ := sY hz
        exact rW C hA hs (by omega) j2
  · have h1 : decide (IntKind.i64.wrap (m - a) = 1) = false := by rw [wr (by omega) (by omega)]; simp; omega
    have h2 : decide (IntKind.i64.wrap (b - m) = 1) = true := by rw [wr (by omega) (by omega)]; simp; omega
    have s5' : lp (fun s : List α × Int × Int => nB cmp rec m s.1 s.2.1 s.2.2) (P ++ A ++ x :: S, a, m) = some (P ++ A ++ x :: S, ((P.length + t : Nat) : Int)) := s5
    simp only [dX, h1, cond_false, yV, h2, cond_true, BO, s5', Option.bind_some, DQ, BQ]
    have hmv := aAd (cmp := cmp) (rec := rec) (e := ((P.length + t : Nat) : Int)) (x := x) (Q := P ++ A.take t) (by simp [hlt]) (A.drop t).length (A.drop t) S (P.length + A.length) rfl (by simp only [List.length_append, List.length_drop, hlt]; omega) (by simp only [List.length_append, List.length_cons, List.length_drop, hlt]; omega)
    have hd : P ++ A.take t ++ A.drop t ++ x :: S = P ++ A ++ x :: S := by
      have : P ++ A.take t ++ A.drop t ++ x :: S = P ++ (A.take t ++ A.drop t) ++ x :: S := by simp only [List.append_assoc]
      rw [this, hAs]
    rw [hd] at hmv
    rw [hm, hmv]
    simp [DU]

theorem aAg (C : Cmp ok le cmp) {P A B S : List α} {a m b : Int} (hA : Oks ok A) (hB : Oks ok B) (hsA : Srt le A) (hsB : Srt le B) (hA2 : 2 ≤ A.length) (hB2 : 2 ≤ B.length)
    (ha : a = (P.length : Nat)) (hm : m = ((P.length + A.length : Nat) : Int)) (hb : b = ((P.length + A.length + B.length : Nat) : Int)) (hl : (P ++ A ++ B ++ S).length ≤ 1099511627776) :
    RZ cmp le P A B S (P ++ A ++ B ++ S) a m b := by
  right
  have hl' := hl
  simp only [List.length_append] at hl'
  -- the middle
  obtain ⟨mid, hmid⟩ : ∃ mid : Nat, mid = (P.length + (P.length + A.length + B.length)) / 2 := ⟨_, rfl⟩
  have hga : ∀ k, P.length ≤ k → k < P.length + A.length → (P ++ A ++ B ++ S).getD k default = A.getD (k - P.length) default := fun k h1 h2 => DK (P := P) (B := A) (S := B ++ S) (by simp) (by omega) (by omega)
  have hgb : ∀ k, P.length + A.length ≤ k → k < P.length + A.length + B.length → (P ++ A ++ B ++ S).getD k default = B.getD (k - (P.length + A.length)) default := fun k h1 h2 => DK (P := P ++ A) (B := B) (S := S) (by simp) (by simp; omega) (by omega)
  -- the search
  obtain ⟨lo, hi, hlo, hhi, hbnd, hlohi, hrange, hinit⟩ : ∃ lo hi : Nat, (lo = P.length ∨ lo + (P.length + A.length + B.length) = mid + (P.length + A.length)) ∧ (hi = P.length + A.length ∨ hi = mid) ∧ (P.length ≤ lo ∧ mid + (P.length + A.length) ≤ lo + (P.length + A.length + B.length) ∧ hi ≤ P.length + A.length ∧ hi ≤ mid) ∧ lo ≤ hi ∧
      (∀ c, lo ≤ c → c < hi → P.length ≤ c ∧ c < P.length + A.length ∧ P.length + A.length ≤ mid + (P.length + A.length) - 1 - c ∧ mid + (P.length + A.length) - 1 - c < P.length + A.length + B.length) ∧
      (∀ rec, vS cmp rec (P ++ A ++ B ++ S) a m b = vI cmp rec (P ++ A ++ B ++ S) a m b (mid : Int) ((mid + (P.length + A.length) : Nat) : Int) (lo : Int) (hi : Int)) := by
    have hw0 : IntKind.i64.wrap (Int.fdiv (IntKind.u64.wrap (IntKind.i64.wrap (a + b))) (2 ^ (min (Int.toNat (1 : Int)) 64))) = ((mid : Nat) : Int) := by
      rw [show a + b = ((P.length + (P.length + A.length + B.length) : Nat) : Int) by omega, half (by omega), hmid]
    have hw1 : IntKind.i64.wrap ((mid : Int) + m) = ((mid + (P.length + A.length) : Nat) : Int) := by rw [wr (by omega) (by omega)]; omega
    by_cases hc : mid < P.length + A.length
    · refine ⟨mid + (P.length + A.length) - (P.length + A.length + B.length), mid, Or.inr (by omega), Or.inr (by omega), by omega, by omega, fun c h1 h2 => ⟨by omega, by omega, by omega, by omega⟩, fun rec => ?_⟩
      have hlt : decide ((mid : Int) < m) = true := by simp; omega
      simp only [vS, hw0, hlt, cond_true, hw1]
      rw [bE (by omega), show IntKind.i64.wrap (((mid + (P.length + A.length) : Nat) : Int) - b) = ((mid + (P.length + A.length) - (P.length + A.length + B.length) : Nat) : Int) by rw [wr (by omega) (by omega)]; omega]
    · refine ⟨P.length, P.length + A.length, Or.inl rfl, Or.inl rfl, by omega, by omega, fun c h1 h2 => ⟨by omega, by omega, by omega, by omega⟩, fun rec => ?_⟩
      have hlt : decide ((mid : Int) < m) = false := by simp; omega
      simp only [vS, hw0, hlt, cond_false, hw1]
      rw [bE (by omega)]
      rw [ha, hm]
  have hbin : ∀ rec, ∃ s : Nat, lo ≤ s ∧ s ≤ hi ∧ (s = lo ∨ le (A.getD (s - 1 - P.length) default) (B.getD (mid + (P.length + A.length) - 1 - (s - 1) - (P.length + A.length)) default)) ∧ (s = hi ∨ ¬ le (A.getD (s - P.length) default) (B.getD (mid + (P.length + A.length) - 1 - s - (P.length + A.length)) default)) ∧
      lp (fun s : List α × Int × Int => nU cmp rec a m b (mid : Int) ((mid + (P.length + A.length) : Nat) : Int) ((mid + (P.length + A.length) - 1 : Nat) : Int) s.1 s.2.1 s.2.2) (P ++ A ++ B ++ S, (lo : Int), (hi : Int)) = some (P ++ A ++ B ++ S, ((s : Nat) : Int)) := by
    intro rec
    refine OQ (lo := lo) (hi := hi) (f := fun k => le (A.getD (k - P.length) default) (B.getD (mid + (P.length + A.length) - 1 - k - (P.length + A.length)) default)) ?_ ?_ _ _ _ (Nat.le_refl _) (Nat.le_refl _) hlohi (Nat.le_refl _) (Or.inl rfl) (Or.inl rfl)
    · intro i j h1 h2 h3
      obtain ⟨r1, r2, r3, r4⟩ := hrange ((i + j) / 2) (by omega) (by omega)
      have e1 := hga ((i + j) / 2) r1 r2
      have e2 := hgb (mid + (P.length + A.length) - 1 - (i + j) / 2) r3 r4
      obtain ⟨v, hc, hv⟩ := C.ans (B.getD (mid + (P.length + A.length) - 1 - (i + j) / 2 - (P.length + A.length)) default) (A.getD ((i + j) / 2 - P.length) default) (hB _ (dD (by omega))) (hA _ (dD (by omega)))
      refine ⟨!decide (v < 0), by simp only [Bool.not_eq_true', decide_eq_false_iff_not, hv, Classical.not_not], ?_⟩
      show nU cmp rec _ _ _ _ _ _ _ _ _ = _
      have hlt : decide ((i : Int) < (j : Int)) = true := by simpa using h2
      have hadd : ((i : Int) + (j : Int)) = ((i + j : Nat) : Int) := by omega
      have w1 : IntKind.i64.wrap ((((i + j) / 2 : Nat) : Int) + 1) = (((i + j) / 2 + 1 : Nat) : Int) := by rw [wr (by omega) (by omega)]; omega
      have w2 : IntKind.i64.wrap (((mid + (P.length + A.length) - 1 : Nat) : Int) - (((i + j) / 2 : Nat) : Int)) = ((mid + (P.length + A.length) - 1 - (i + j) / 2 : Nat) : Int) := by rw [wr (by omega) (by omega)]; omega
      simp only [nU, hlt, cond_true, hadd, half (s := i + j) (by omega), w1, w2, Int.toNat_natCast, e1, e2, hc, Option.bind_some]
      rw [bE (by omega), bE ⟨by omega, by simp only [List.length_append]; omega⟩, bE ⟨by omega, by simp only [List.length_append]; omega⟩]
      by_cases hneg : v < 0 <;> simp [hneg]
    · intro i
      show nU cmp rec _ _ _ _ _ _ _ _ _ = _
      have hlt : decide ((i : Int) < (i : Int)) = false := by simp
      simp only [nU, hlt, cond_false]
  obtain ⟨s, s1, s2, s3, s4, s5⟩ := hbin (fun _ _ _ _ => none)
  have hsA0 : P.length ≤ s ∧ s ≤ P.length + A.length := by
    omega
  have hsB0 : P.length + A.length ≤ mid + (P.length + A.length) - s ∧ mid + (P.length + A.length) - s ≤ P.length + A.length + B.length := by
    omega
  obtain ⟨t, rfl⟩ : ∃ t, s = P.length + t := ⟨s - P.length, by omega⟩
  obtain ⟨u, hu⟩ : ∃ u, mid + (P.length + A.length) - (P.length + t) = P.length + A.length + u := ⟨mid + (P.length + A.length) - (P.length + t) - (P.length + A.length), by omega⟩
  have htA : t ≤ A.length := by omega
  have huB : u ≤ B.length := by omega
  have hmtu : mid = P.length + t + u := by omega
  have hAs : A.take t ++ A.drop t = A := List.take_append_drop t A
  have hBs : B.take u ++ B.drop u = B := List.take_append_drop u B
  have hlA1 : (A.take t).length = t := by rw [List.length_take]; omega
  have hlA2 : (A.drop t).length = A.length - t := by rw [List.length_drop]
  have hlB1 : (B.take u).length = u := by rw [List.length_take]; omega
  have hlB2 : (B.drop u).length = B.length - u := by rw [List.length_drop]
  refine ⟨A.take t, A.drop t, B.take u, B.drop u, hAs.symm, hBs.symm, by rw [hlA1, hlB1]; omega, by rw [hlA2, hlB2]; omega, ?_, fun rec => ?_⟩
  · -- who stands ahead of whom
    intro x hx y hy
    rcases List.mem_append.1 hx with hx | hx
    · obtain ⟨i, i1, i2, rfl⟩ := CS hx
      rcases List.mem_append.1 hy with hy | hy
      · obtain ⟨j, j1, j2, rfl⟩ := sY hy
        exact rW C hA hsA (by omega) j2
      · obtain ⟨j, j1, j2, rfl⟩ := sY hy
        have h3 : le (A.getD (t - 1) default) (B.getD u default) := by
          rcases s3 with h | h
          · rcases hlo with h' | h' <;> omega
          · rwa [show P.length + t - 1 - P.length = t - 1 by omega, show mid + (P.length + A.length) - 1 - (P.length + t - 1) - (P.length + A.length) = u by omega] at h
        exact C.trans _ _ _ (hA _ (dD i2)) (hA _ (dD (by omega))) (hB _ (dD j2)) (rW C hA hsA (show i ≤ t - 1 by omega) (by omega))
          (C.trans _ _ _ (hA _ (dD (by omega))) (hB _ (dD (by omega))) (hB _ (dD j2)) h3 (rW C hB hsB j1 j2))
    · obtain ⟨i, i1, i2, rfl⟩ := CS hx
      rcases List.mem_append.1 hy with hy | hy
      · obtain ⟨j, j1, j2, rfl⟩ := sY hy
        have h3 : le (B.getD (u - 1) default) (A.getD t default) := by
          have h0 : ¬ le (A.getD t default) (B.getD (u - 1) default) := by
            rcases s4 with h | h
            · rcases hhi with h' | h' <;> omega
            · rwa [show P.length + t - P.length = t by omega, show mid + (P.length + A.length) - 1 - (P.length + t) - (P.length + A.length) = u - 1 by omega] at h
          rcases C.total _ _ (hA _ (dD (show t < A.length by omega))) (hB _ (dD (show u - 1 < B.length by omega))) with h | h
          · exact absurd h h0
          · exact h
        exact C.trans _ _ _ (hB _ (dD i2)) (hB _ (dD (by omega))) (hA _ (dD j2)) (rW C hB hsB (show i ≤ u - 1 by omega) (by omega))
          (C.trans _ _ _ (hB _ (dD (by omega))) (hA _ (dD (by omega))) (hA _ (dD j2)) h3 (rW C hA hsA j1 j2))
      · obtain ⟨j, j1, j2, rfl⟩ := sY hy
        exact rW C hB hsB (by omega) j2
  · have h1 : decide (IntKind.i64.wrap (m - a) = 1) = false := by rw [wr (by omega) (by omega)]; simp; omega
    have h2 : decide (IntKind.i64.wrap (b - m) = 1) = false := by rw [wr (by omega) (by omega)]; simp; omega
    have s5' : lp (fun s : List α × Int × Int => nU cmp rec a m b (mid : Int) ((mid + (P.length + A.length) : Nat) : Int) ((mid + (P.length + A.length) - 1 : Nat) : Int) s.1 s.2.1 s.2.2) (P ++ A ++ B ++ S, (lo : Int), (hi : Int)) = some (P ++ A ++ B ++ S, ((P.length + t : Nat) : Int)) := s5
    have hp : IntKind.i64.wrap (((mid + (P.length + A.length) : Nat) : Int) - 1) = ((mid + (P.length + A.length) - 1 : Nat) : Int) := by rw [wr (by omega) (by omega)]; omega
    have he : IntKind.i64.wrap (((mid + (P.length + A.length) : Nat) : Int) - ((P.length + t : Nat) : Int)) = ((P.length + A.length + u : Nat) : Int) := by rw [wr (by omega) (by omega)]; omega
    simp only [dX, h1, cond_false, yV, h2, hinit rec, vI, DT, hp, s5', Option.bind_some, DR, he]
    -- the turn
    have hd : P ++ A ++ B ++ S = (P ++ A.take t) ++ A.drop t ++ B.take u ++ (B.drop u ++ S) := by
      have : (P ++ A.take t) ++ A.drop t ++ B.take u ++ (B.drop u ++ S) = P ++ (A.take t ++ A.drop t) ++ (B.take u ++ B.drop u) ++ S := by simp only [List.append_assoc]
      rw [this, hAs, hBs]
    have hrot : cond (decide (((P.length + t : Nat) : Int) < m) && decide (m < ((P.length + A.length + u : Nat) : Int)))
        ((AP (P ++ A ++ B ++ S) ((P.length + t : Nat) : Int) m ((P.length + A.length + u : Nat) : Int) cmp).bind fun x10 => pK cmp rec x10 a b (mid : Int) ((P.length + t : Nat) : Int) ((P.length + A.length + u : Nat) : Int))
        (pK cmp rec (P ++ A ++ B ++ S) a b (mid : Int) ((P.length + t : Nat) : Int) ((P.length + A.length + u : Nat) : Int))
        = pK cmp rec (P ++ A.take t ++ B.take u ++ A.drop t ++ B.drop u ++ S) a b (mid : Int) ((P.length + t : Nat) : Int) ((P.length + A.length + u : Nat) : Int) := by
      by_cases hc : t < A.length ∧ 0 < u
      · have : (decide (((P.length + t : Nat) : Int) < m) && decide (m < ((P.length + A.length + u : Nat) : Int))) = true := by simp; omega
        rw [this, cond_true, aAL (Q := P ++ A.take t) (X := A.drop t) (Y := B.take u) (R := B.drop u ++ S) hd (fun h => by rw [h] at hlA2; simp at hlA2; omega) (fun h => by rw [h] at hlB1; simp at hlB1; omega)
          (by simp only [List.length_append, hlA1]) (by simp only [List.length_append, hlA1, hlA2]; rw [hm]; congr 1; omega) (by simp only [List.length_append, hlA1, hlA2, hlB1]; congr 1; omega) hl]
        simp
      · have : (decide (((P.length + t : Nat) : Int) < m) && decide (m < ((P.length + A.length + u : Nat) : Int))) = false := by
          rw [Bool.eq_false_iff]; intro h; simp at h; apply hc; omega
        rw [this, cond_false, hd]
        congr 1
        by_cases h0 : t < A.length
        · have : u = 0 := by omega
          subst this; simp
        · have hz : A.drop t = [] := List.drop_eq_nil_of_le (by omega)
          simp only [hz, List.append_nil, List.append_assoc, List.nil_append]
    rw [hrot]
    have hne1 : decide (A.take t ≠ [] ∧ B.take u ≠ []) = (decide (a < ((P.length + t : Nat) : Int)) && decide (((P.length + t : Nat) : Int) < (mid : Int))) := by
      have q1 : A.take t ≠ [] ↔ 0 < t := by rw [← List.length_pos_iff, hlA1]
      have q2 : B.take u ≠ [] ↔ 0 < u := by rw [← List.length_pos_iff, hlB1]
      rw [Bool.eq_iff_iff]; simp [q1, q2]; omega
    have hne2 : decide (A.drop t ≠ [] ∧ B.drop u ≠ []) = (decide ((mid : Int) < ((P.length + A.length + u : Nat) : Int)) && decide (((P.length + A.length + u : Nat) : Int) < b)) := by
      have q1 : A.drop t ≠ [] ↔ t < A.length := by rw [← List.length_pos_iff, hlA2]; omega
      have q2 : B.drop u ≠ [] ↔ u < B.length := by rw [← List.length_pos_iff, hlB2]; omega
      rw [Bool.eq_iff_iff]; simp [q1, q2]; omega
    rw [hne1, hne2, hlA1, hlB1, hlA2]
    have f1 : a + ((t : Nat) : Int) = ((P.length + t : Nat) : Int) := by omega
    have f2 : a + ((t + u : Nat) : Int) = (mid : Int) := by omega
    have f3 : a + ((t + u + (A.length - t) : Nat) : Int) = ((P.length + A.length + u : Nat) : Int) := by omega
    rw [f1, f2, f3]
    simp only [pK, yY]
    cases (decide (a < ((P.length + t : Nat) : Int)) && decide (((P.length + t : Nat) : Int) < (mid : Int))) <;> simp only [cond_true, cond_false, Option.bind_some, Option.bind_fun_some]

end sym
end Go.Abs
namespace Go.Abs
open Go
variable {α : Type} [Inhabited α] {ok : α → Prop} {le : α → α → Prop} {cmp : α → α → Option Int}
theorem aAb (C : Cmp ok le cmp) {P A B S : List α} {a m b : Int} (hA : A ≠ []) (hB : B ≠ []) (oA : Oks ok A) (oB : Oks ok B) (sA : Srt le A) (sB : Srt le B)
    (ha : a = (P.length : Nat)) (hm : m = ((P.length + A.length : Nat) : Int)) (hb : b = ((P.length + A.length + B.length : Nat) : Int)) (hl : (P ++ A ++ B ++ S).length ≤ 1099511627776) : RZ cmp le P A B S (P ++ A ++ B ++ S) a m b := by
  by_cases h1 : A.length = 1
  · obtain ⟨x, rfl⟩ := List.length_eq_one_iff.1 h1
    left
    obtain ⟨r, h, h'⟩ := VS C (P := P) (S := S) (x := x) (oA x (by simp)) oB sB ha (by simpa using hm) (by simpa using hb) (by simpa using hl)
    exact ⟨r, h, fun rec => by have := h' rec; simpa using this⟩
  · by_cases h2 : B.length = 1
    · obtain ⟨x, rfl⟩ := List.length_eq_one_iff.1 h2
      left
      obtain ⟨r, h, h'⟩ := XT C (P := P) (S := S) (x := x) (oB x (by simp)) oA sA h1 ha hm (by simpa using hb) (by simpa using hl)
      exact ⟨r, h, fun rec => by have := h' rec; simpa using this⟩
    · have p1 := List.length_pos_iff.2 hA
      have p2 := List.length_pos_iff.2 hB
      exact aAg C oA oB sA sB (by omega) (by omega) ha hm hb hl

theorem HB (C : Cmp ok le cmp) : ∀ (k : Nat) (P A B S : List α) (a m b : Int), A ≠ [] → B ≠ [] → Oks ok A → Oks ok B → Srt le A → Srt le B →
    a = (P.length : Nat) → m = ((P.length + A.length : Nat) : Int) → b = ((P.length + A.length + B.length : Nat) : Int) → (P ++ A ++ B ++ S).length ≤ 1099511627776 →
    (∀ r, eA cmp k (P ++ A ++ B ++ S) a m b = some r → HV le P A B S r) ∧ (A.length + B.length ≤ k → ∃ r, eA cmp k (P ++ A ++ B ++ S) a m b = some r)
  | 0, P, A, B, S, a, m, b, hA, hB, oA, oB, sA, sB, ha, hm, hb, hl => by
    refine ⟨fun r h => by simp [eA] at h, fun h => ?_⟩
    exact absurd (List.length_eq_zero_iff.1 (by omega)) hA
  | k + 1, P, A, B, S, a, m, b, hA, hB, oA, oB, sA, sB, ha, hm, hb, hl => by
    have part : ∀ (P' A' B' S' : List α) (a' m' b' : Int), Oks ok A' → Oks ok B' → Srt le A' → Srt le B' → a' = (P'.length : Nat) → m' = ((P'.length + A'.length : Nat) : Int) → b' = ((P'.length + A'.length + B'.length : Nat) : Int) → (P' ++ A' ++ B' ++ S').length ≤ 1099511627776 →
        (∀ r, cond (decide (A' ≠ [] ∧ B' ≠ [])) (eA cmp k (P' ++ A' ++ B' ++ S') a' m' b') (some (P' ++ A' ++ B' ++ S')) = some r → HV le P' A' B' S' r) ∧
        (A'.length + B'.length ≤ k → ∃ r, cond (decide (A' ≠ [] ∧ B' ≠ [])) (eA cmp k (P' ++ A' ++ B' ++ S') a' m' b') (some (P' ++ A' ++ B' ++ S')) = some r) := by
      intro P' A' B' S' a' m' b' oA' oB' sA' sB' ha' hm' hb' hl'
      by_cases h : A' ≠ [] ∧ B' ≠ []
      · rw [decide_eq_true h, cond_true]
        exact HB C k P' A' B' S' a' m' b' h.1 h.2 oA' oB' sA' sB' ha' hm' hb' hl'
      · rw [decide_eq_false h, cond_false]
        refine ⟨fun r hr => ?_, fun _ => ⟨_, rfl⟩⟩
        cases hr
        refine ⟨A' ++ B', List.Perm.refl _, ?_, by simp⟩
        by_cases h1 : A' = []
        · subst h1; simpa using sB'
        · have h2 : B' = [] := Classical.byContradiction fun h2 => h ⟨h1, h2⟩
          subst h2; simpa using sA'
    rcases aAb C hA hB oA oB sA sB ha hm hb hl with ⟨r, hr, hs⟩ | ⟨A1, A2, B1, B2, rfl, rfl, p1, p2, hcross, hs⟩
    · have e : eA cmp (k + 1) (P ++ A ++ B ++ S) a m b = some r := hs _
      exact ⟨fun r' h => by rw [e] at h; cases h; exact hr, fun _ => ⟨r, e⟩⟩
    · have e := hs (eA cmp k)
      rw [show dX cmp (eA cmp k) = eA cmp (k + 1) from rfl] at e
      have q1 := part P A1 B1 (A2 ++ B2 ++ S) a (a + (A1.length : Nat)) (a + ((A1.length + B1.length : Nat) : Int)) (fun x hx => oA x (by simp [hx])) (fun x hx => oB x (by simp [hx]))
        (List.pairwise_append.1 sA).1 (List.pairwise_append.1 sB).1 ha (by omega) (by omega) (by simp only [List.length_append] at hl ⊢; omega)
      have hd1 : P ++ A1 ++ B1 ++ A2 ++ B2 ++ S = P ++ A1 ++ B1 ++ (A2 ++ B2 ++ S) := by simp
      rw [hd1] at e
      have q2 : ∀ D1 : List α, D1.Perm (A1 ++ B1) → _ := fun D1 hD1 => part (P ++ D1) A2 B2 S (a + ((A1.length + B1.length : Nat) : Int)) (a + ((A1.length + B1.length + A2.length : Nat) : Int)) b (fun x hx => oA x (by simp [hx])) (fun x hx => oB x (by simp [hx]))
        (List.pairwise_append.1 sA).2.1 (List.pairwise_append.1 sB).2.1 (by have := hD1.length_eq; simp only [List.length_append] at this ⊢; omega) (by have := hD1.length_eq; simp only [List.length_append] at this ⊢; omega)
        (by have := hD1.length_eq; rw [hb]; simp only [List.length_append] at this ⊢; congr 1; omega) (by have := hD1.length_eq; simp only [List.length_append] at hl this ⊢; omega)
      refine ⟨fun r h => ?_, fun hk => ?_⟩
      · rw [e] at h
        obtain ⟨x, h1, h2⟩ := Option.bind_eq_some_iff.1 h
        obtain ⟨D1, d1, d2, rfl⟩ := q1.1 x h1
        have h2' : cond (decide (A2 ≠ [] ∧ B2 ≠ [])) (eA cmp k (P ++ D1 ++ A2 ++ B2 ++ S) (a + ((A1.length + B1.length : Nat) : Int)) (a + ((A1.length + B1.length + A2.length : Nat) : Int)) b) (some (P ++ D1 ++ A2 ++ B2 ++ S)) = some r := by
          have : P ++ D1 ++ (A2 ++ B2 ++ S) = P ++ D1 ++ A2 ++ B2 ++ S := by simp
          rw [this] at h2; exact h2
        obtain ⟨D2, f1, f2, rfl⟩ := (q2 D1 d1).1 r h2'
        refine ⟨D1 ++ D2, ?_, ?_, by simp⟩
        · refine (d1.append f1).trans ?_
          have : (B1 ++ (A2 ++ B2)).Perm (A2 ++ (B1 ++ B2)) := by
            have := (List.perm_append_comm (l₁ := B1) (l₂ := A2)).append_right B2
            simpa using this
          have := this.append_left A1
          simpa using this
        · rw [Srt, List.pairwise_append]
          exact ⟨d2, f2, fun x hx y hy => hcross x (d1.mem_iff.1 hx) y (f1.mem_iff.1 hy)⟩
      · simp only [List.length_append] at hk
        obtain ⟨x, hx⟩ := q1.2 (by omega)
        obtain ⟨D1, d1, d2, rfl⟩ := q1.1 x hx
        obtain ⟨r, hr⟩ := (q2 D1 d1).2 (by omega)
        refine ⟨r, ?_⟩
        rw [e, hx]
        have : P ++ D1 ++ (A2 ++ B2 ++ S) = P ++ D1 ++ A2 ++ B2 ++ S := by simp
        rw [this]; exact hr

theorem TJ {β : Type} {g : Nat → Option β} (h : ∃ k r, g k = some r) : ∃ r, HC g = some r := by
  unfold HC
  rw [dif_pos h]
  exact Classical.choose_spec h

end Go.Abs
