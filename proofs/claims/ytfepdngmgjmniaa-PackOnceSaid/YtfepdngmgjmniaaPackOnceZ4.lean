/- What the law PackOnce stands on: the framework, the given functions as plain functions, their walks, and the plain laws; part 4. -/
import Derived.Test.YtfepdngmgjmniaaPackOnceZ3
set_option linter.unusedSimpArgs false
set_option linter.unusedVariables false
namespace Go.Abs
open Go Go.RowKit Go.Proofs
theorem wG (lo0p : Nat) (aA : (List aB)) (n1 : Int) (cmp2_f : Nat) (cmp2_a cmp2_c : List V) (cmp2 : aB → aB → Option Int) (cmp2_h : ∀ a0 a1 r, cmp2 a0 a1 = some r → bU Try.prog cmp2_f (cmp2_a ++ [(aD a0), (aD a1)] ++ cmp2_c) (eI r)) (r : List aB) (h0 : fB aA n1 cmp2 = some r) : kX Try.prog 133 lo0p 2 (List.map aD aA) (List.map aD r) [(.msl 2 lo0p 0 (List.length aA)), (eI n1), (.fn (.func cmp2_f) cmp2_a cmp2_c)] (.tup []) := by
  intro H0 hl0
  refine cI Try.func133 ?_
  have hO := aP.pS hl0
  clear hl0
  obtain ⟨N0, hN0⟩ : ∃ n, n = List.length aA := ⟨_, rfl⟩
  have hN : List.length aA = N0 := hN0.symm
  unfold fB at h0
  refine aX aG 1 [] [(6, (eI (20 : Int)))] ?_
  refine aX aG 3 [] [(7, (eI (0 : Int))), (8, (eI (20 : Int)))] ?_
  refine dO (fun T H => ∃ aA : List aB, ∃ aO : Int, ∃ a7 : Int, Has T [(0, (.msl 2 lo0p 0 (List.length aA))), (1, (eI n1)), (2, (.fn (.func cmp2_f) cmp2_a cmp2_c)), (6, (eI aO)), (7, (eI a7))] ∧ aP ⟨H0, [lo0p], []⟩ H [(lo0p, 2, List.map aD aA)] ∧ List.length aA = N0 ∧ eX cmp2 aA n1 aO a7 = some r) ?_ ?_
  · clear hO hN h0
    rintro T H ⟨aA, aO, a7, hT, hO, hN, h0⟩
    refine bB hT ?_
    clear hT
    unfold eX at h0
    refine aQ ?_
    refine aU aG 5 ?_
    refine bK 4 ?_
    obtain ⟨x1, hx2, h0⟩ := aW h0
    refine nW [(lo0p, 2, List.map aD x1)] 0 (mT lo0p aA a7 n1 cmp2_f cmp2_a cmp2_c cmp2 cmp2_h _ hx2) hO ?_
    intro H hO hl3
    simp only [List.length_map] at hl3
    replace hN := hl3.trans hN
    refine cH ?_
    refine cS (l := [(0, (.msl 2 lo0p 0 (List.length x1))), (1, (eI n1)), (2, (.fn (.func cmp2_f) cmp2_a cmp2_c)), (6, (eI aO))]) ⟨[(0, (.msl 2 lo0p 0 (List.length aA))), (1, (eI n1)), (2, (.fn (.func cmp2_f) cmp2_a cmp2_c)), (6, (eI aO))], by kernel_rfl, rfl, ⟨aV.eq (by simp [hl3]), aV.refl _, aV.refl _, aV.refl _, trivial⟩⟩ ?_
    refine aJ (aI (?_))
    refine bQ 2 ?_
    refine cU [(0, (.msl 2 lo0p 0 (List.length x1))), (1, (eI n1)), (2, (.fn (.func cmp2_f) cmp2_a cmp2_c)), (6, (eI aO))] ?_
    refine cO (fun T H => ∃ aA : List aB, ∃ aO : Int, Has T [(0, (.msl 2 lo0p 0 (List.length aA))), (1, (eI n1)), (2, (.fn (.func cmp2_f) cmp2_a cmp2_c)), (6, (eI aO))] ∧ aP ⟨H0, [lo0p], []⟩ H [(lo0p, 2, List.map aD aA)] ∧ List.length aA = N0 ∧ gW cmp2 aA n1 aO = some r) ?_ ⟨x1, aO, .eq (by kernel_rfl), hO, hN, h0⟩
    clear hO hN h0
    rintro T H ⟨aA, aO, hT, hO, hN, h0⟩
    refine bB hT ?_
    clear hT
    unfold gW at h0
    obtain ⟨rr0, hl0, h0⟩ := aW h0
    refine cF (by kernel_rfl) (fun (s : List aB × Int) T H => Has T [(0, (.msl 2 lo0p 0 (List.length s.1))), (1, (eI n1)), (2, (.fn (.func cmp2_f) cmp2_a cmp2_c)), (6, (eI s.2))] ∧ aP ⟨H0, [lo0p], []⟩ H [(lo0p, 2, List.map aD s.1)] ∧ List.length s.1 = N0) hl0 ⟨.eq (by kernel_rfl), hO, hN⟩ ?_
    clear hO hN
    rintro k0 s out1 T H ⟨hT, hO, hN⟩ h1 ho0
    obtain ⟨aA, aO⟩ := s
    replace h1 : gQ cmp2 n1 aA aO = some out1 := h1
    try dsimp only at hT
    refine bB hT ?_
    clear hT
    unfold gQ at h1
    refine aQ ?_
    refine aX aG 3 [] [(30, (aK (decide (aO < n1))))] ?_
    refine bM h1 (fun h1 => ?_) (fun h1 => ?_)
    · refine bN ?_
      refine bF [(0, (.msl 2 lo0p 0 (List.length aA))), (1, (eI n1)), (2, (.fn (.func cmp2_f) cmp2_a cmp2_c)), (6, (eI aO))] ?_
      refine bQ 3 ?_
      refine aX aG 4 [] [(7, (eI (0 : Int))), (8, (eI (wR ((2 : Int) * aO))))] ?_
      refine dO (fun T H => ∃ aA : List aB, ∃ a7 : Int, Has T [(0, (.msl 2 lo0p 0 (List.length aA))), (1, (eI n1)), (2, (.fn (.func cmp2_f) cmp2_a cmp2_c)), (6, (eI aO)), (7, (eI a7))] ∧ aP ⟨H0, [lo0p], []⟩ H [(lo0p, 2, List.map aD aA)] ∧ List.length aA = N0 ∧ eR cmp2 aA n1 aO a7 = some out1) ?_ ?_
      · clear hO hN h1
        rintro T H ⟨aA, a7, hT, hO, hN, h1⟩
        refine bB hT ?_
        clear hT
        unfold eR at h1
        refine dO (fun T H => ∃ aA : List aB, Has T [(0, (.msl 2 lo0p 0 (List.length aA))), (1, (eI n1)), (2, (.fn (.func cmp2_f) cmp2_a cmp2_c)), (6, (eI aO))] ∧ aP ⟨H0, [lo0p], []⟩ H [(lo0p, 2, List.map aD aA)] ∧ List.length aA = N0 ∧ iE cmp2 aA n1 aO = some out1) ?_ ?_
        · clear hO hN h1
          rintro T H ⟨aA, hT, hO, hN, h1⟩
          refine bB hT ?_
          clear hT
          unfold iE at h1
          refine aU aG 3 ?_
          refine bC ?_
          exact aJ (aZ (aI (⟨rfl, _, (oI h1).symm, .eq (by kernel_rfl), hO, hN⟩)))
        refine aX aG 4 [] [(9, (eI (wR (a7 + aO))))] ?_
        refine aX aG 3 [] [(54, (aK (decide ((wR (a7 + aO)) < n1))))] ?_
        refine bM h1 (fun h1 => ?_) (fun h1 => ?_)
        · refine aU aG 6 ?_
          refine bK 5 ?_
          obtain ⟨x6, hx7, h1⟩ := aW h1
          refine nW [(lo0p, 2, List.map aD x6)] 0 (oD lo0p aA a7 (wR (a7 + aO)) n1 cmp2_f cmp2_a cmp2_c cmp2 cmp2_h _ hx7) hO ?_
          intro H hO hl8
          simp only [List.length_map] at hl8
          replace hN := hl8.trans hN
          refine cH ?_
          refine cS (l := [(0, (.msl 2 lo0p 0 (List.length x6))), (1, (eI n1)), (2, (.fn (.func cmp2_f) cmp2_a cmp2_c)), (6, (eI aO))]) ⟨[(0, (.msl 2 lo0p 0 (List.length aA))), (1, (eI n1)), (2, (.fn (.func cmp2_f) cmp2_a cmp2_c)), (6, (eI aO))], by kernel_rfl, rfl, ⟨aV.eq (by simp [hl8]), aV.refl _, aV.refl _, aV.refl _, trivial⟩⟩ ?_
          exact aJ (aI (⟨rfl, _, .eq (by kernel_rfl), hO, hN, h1⟩))
        refine bN ?_
        exact aJ (aI (⟨rfl, _, .eq (by kernel_rfl), hO, hN, h1⟩))
      refine bQ 4 ?_
      refine cU [(0, (.msl 2 lo0p 0 (List.length aA))), (1, (eI n1)), (2, (.fn (.func cmp2_f) cmp2_a cmp2_c)), (6, (eI aO)), (7, (eI (0 : Int))), (8, (eI (wR ((2 : Int) * aO))))] ?_
      refine cO (fun T H => ∃ aA : List aB, ∃ a7 : Int, ∃ b8 : Int, Has T [(0, (.msl 2 lo0p 0 (List.length aA))), (1, (eI n1)), (2, (.fn (.func cmp2_f) cmp2_a cmp2_c)), (6, (eI aO)), (7, (eI a7)), (8, (eI b8))] ∧ aP ⟨H0, [lo0p], []⟩ H [(lo0p, 2, List.map aD aA)] ∧ List.length aA = N0 ∧ gZ cmp2 aA n1 aO a7 b8 = some out1) ?_ ⟨aA, (0 : Int), wR ((2 : Int) * aO), .eq (by kernel_rfl), hO, hN, h1⟩
      clear hO hN h1
      rintro T H ⟨aA, a7, b8, hT, hO, hN, h1⟩
      refine bB hT ?_
      clear hT
      unfold gZ at h1
      obtain ⟨rr1, hl1, h1⟩ := aW h1
      refine cF (by kernel_rfl) (fun (s : List aB × Int × Int) T H => Has T [(0, (.msl 2 lo0p 0 (List.length s.1))), (1, (eI n1)), (2, (.fn (.func cmp2_f) cmp2_a cmp2_c)), (6, (eI aO)), (7, (eI s.2.1)), (8, (eI s.2.2))] ∧ aP ⟨H0, [lo0p], []⟩ H [(lo0p, 2, List.map aD s.1)] ∧ List.length s.1 = N0) hl1 ⟨.eq (by kernel_rfl), hO, hN⟩ ?_
      clear hO hN
      rintro k1 s out2 T H ⟨hT, hO, hN⟩ h2 ho1
      obtain ⟨aA, a7, b8⟩ := s
      replace h2 : iG cmp2 n1 aO aA a7 b8 = some out2 := h2
      try dsimp only at hT
      refine bB hT ?_
      clear hT
      unfold iG at h2
      refine aQ ?_
      refine aX aG 3 [] [(35, (aK (decide (b8 ≤ n1))))] ?_
      refine bM h2 (fun h2 => ?_) (fun h2 => ?_)
      · refine bN ?_
        refine bF [(0, (.msl 2 lo0p 0 (List.length aA))), (1, (eI n1)), (2, (.fn (.func cmp2_f) cmp2_a cmp2_c)), (6, (eI aO)), (7, (eI a7)), (8, (eI b8))] ?_
        refine bQ 5 ?_
        refine aQ ?_
        refine aU aG 8 ?_
        refine bK 7 ?_
        obtain ⟨x10, hx11, h2⟩ := aW h2
        refine nW [(lo0p, 2, List.map aD x10)] 0 (oD lo0p aA a7 (wR (a7 + aO)) b8 cmp2_f cmp2_a cmp2_c cmp2 cmp2_h _ hx11) hO ?_
        intro H hO hl12
        simp only [List.length_map] at hl12
        replace hN := hl12.trans hN
        refine cH ?_
        refine cS (l := [(0, (.msl 2 lo0p 0 (List.length x10))), (1, (eI n1)), (2, (.fn (.func cmp2_f) cmp2_a cmp2_c)), (6, (eI aO)), (8, (eI b8))]) ⟨[(0, (.msl 2 lo0p 0 (List.length aA))), (1, (eI n1)), (2, (.fn (.func cmp2_f) cmp2_a cmp2_c)), (6, (eI aO)), (8, (eI b8))], by kernel_rfl, rfl, ⟨aV.eq (by simp [hl12]), aV.refl _, aV.refl _, aV.refl _, aV.refl _, trivial⟩⟩ ?_
        refine aJ (aI (?_))
        refine aX aG 2 [] [(7, (eI b8))] ?_
        refine aU aG 5 ?_
        refine bC ?_
        exact aJ (aZ (aI (⟨rfl, _, (oI h2).symm, .eq (by kernel_rfl), hO, hN⟩)))
      refine eB 4 ?_
      obtain rfl := oI h2
      obtain rfl : _ = rr1 := ho1
      replace h1 : eR cmp2 aA n1 aO a7 = some out1 := h1
      exact aJ (aY (aY (bP (aI (⟨rfl, _, _, .eq (by kernel_rfl), hO, hN, h1⟩)))))
    refine eB 2 ?_
    obtain rfl := oI h1
    obtain rfl : _ = rr0 := ho0
    replace h0 : some aA = some r := h0
    obtain rfl := oI h0
    exact aJ (aY (aY (bP (qD (x := (.tup [])) (by kernel_rfl) (aV.refl _) ⟨rfl, hO.ext, hO.at 0 (by kernel_rfl), by simp only [List.length_map]; exact hN.trans hN0⟩))))
  refine bQ 0 ?_
  refine cU [(0, (.msl 2 lo0p 0 (List.length aA))), (1, (eI n1)), (2, (.fn (.func cmp2_f) cmp2_a cmp2_c)), (6, (eI (20 : Int))), (7, (eI (0 : Int))), (8, (eI (20 : Int)))] ?_
  refine cO (fun T H => ∃ aA : List aB, ∃ aO : Int, ∃ a7 : Int, ∃ b8 : Int, Has T [(0, (.msl 2 lo0p 0 (List.length aA))), (1, (eI n1)), (2, (.fn (.func cmp2_f) cmp2_a cmp2_c)), (6, (eI aO)), (7, (eI a7)), (8, (eI b8))] ∧ aP ⟨H0, [lo0p], []⟩ H [(lo0p, 2, List.map aD aA)] ∧ List.length aA = N0 ∧ gS cmp2 aA n1 aO a7 b8 = some r) ?_ ⟨aA, (20 : Int), (0 : Int), (20 : Int), .eq (by kernel_rfl), hO, hN, h0⟩
  clear hO hN h0
  rintro T H ⟨aA, aO, a7, b8, hT, hO, hN, h0⟩
  refine bB hT ?_
  clear hT
  unfold gS at h0
  obtain ⟨rr0, hl0, h0⟩ := aW h0
  refine cF (by kernel_rfl) (fun (s : List aB × Int × Int) T H => Has T [(0, (.msl 2 lo0p 0 (List.length s.1))), (1, (eI n1)), (2, (.fn (.func cmp2_f) cmp2_a cmp2_c)), (6, (eI aO)), (7, (eI s.2.1)), (8, (eI s.2.2))] ∧ aP ⟨H0, [lo0p], []⟩ H [(lo0p, 2, List.map aD s.1)] ∧ List.length s.1 = N0) hl0 ⟨.eq (by kernel_rfl), hO, hN⟩ ?_
  clear hO hN
  rintro k0 s out1 T H ⟨hT, hO, hN⟩ h1 ho0
  obtain ⟨aA, a7, b8⟩ := s
  replace h1 : iC cmp2 n1 aO aA a7 b8 = some out1 := h1
  try dsimp only at hT
  refine bB hT ?_
  clear hT
  unfold iC at h1
  refine aQ ?_
  refine aX aG 3 [] [(13, (aK (decide (b8 ≤ n1))))] ?_
  refine bM h1 (fun h1 => ?_) (fun h1 => ?_)
  · refine bN ?_
    refine bF [(0, (.msl 2 lo0p 0 (List.length aA))), (1, (eI n1)), (2, (.fn (.func cmp2_f) cmp2_a cmp2_c)), (6, (eI aO)), (7, (eI a7)), (8, (eI b8))] ?_
    refine bQ 1 ?_
    refine aQ ?_
    refine aU aG 5 ?_
    refine bK 4 ?_
    obtain ⟨x14, hx15, h1⟩ := aW h1
    refine nW [(lo0p, 2, List.map aD x14)] 0 (mT lo0p aA a7 b8 cmp2_f cmp2_a cmp2_c cmp2 cmp2_h _ hx15) hO ?_
    intro H hO hl16
    simp only [List.length_map] at hl16
    replace hN := hl16.trans hN
    refine cH ?_
    refine cS (l := [(0, (.msl 2 lo0p 0 (List.length x14))), (1, (eI n1)), (2, (.fn (.func cmp2_f) cmp2_a cmp2_c)), (6, (eI aO)), (8, (eI b8))]) ⟨[(0, (.msl 2 lo0p 0 (List.length aA))), (1, (eI n1)), (2, (.fn (.func cmp2_f) cmp2_a cmp2_c)), (6, (eI aO)), (8, (eI b8))], by kernel_rfl, rfl, ⟨aV.eq (by simp [hl16]), aV.refl _, aV.refl _, aV.refl _, aV.refl _, trivial⟩⟩ ?_
    refine aJ (aI (?_))
    refine aX aG 2 [] [(7, (eI b8))] ?_
    refine aU aG 4 ?_
    refine bC ?_
    exact aJ (aZ (aI (⟨rfl, _, (oI h1).symm, .eq (by kernel_rfl), hO, hN⟩)))
  refine eB 0 ?_
  obtain rfl := oI h1
  obtain rfl : _ = rr0 := ho0
  replace h0 : eX cmp2 aA n1 aO a7 = some r := h0
  exact aJ (aY (aY (bP (aI (⟨rfl, _, _, _, .eq (by kernel_rfl), hO, hN, h0⟩)))))

theorem qS (lo0p : Nat) (x0 : (List aB)) (cmp1_f : Nat) (cmp1_a cmp1_c : List V) (cmp1 : aB → aB → Option Int) (cmp1_h : ∀ a0 a1 r, cmp1 a0 a1 = some r → bU Try.prog cmp1_f (cmp1_a ++ [(aD a0), (aD a1)] ++ cmp1_c) (eI r)) (r : List aB) (h0 : cX x0 cmp1 = some r) : kX Try.prog 112 lo0p 2 (List.map aD x0) (List.map aD r) [(.msl 2 lo0p 0 (List.length x0)), (.fn (.func cmp1_f) cmp1_a cmp1_c)] (.tup []) := by
  intro H0 hl0
  refine cI Try.func112 ?_
  have hO := aP.pS hl0
  clear hl0
  obtain ⟨N0, hN0⟩ : ∃ n, n = List.length x0 := ⟨_, rfl⟩
  have hN : List.length x0 = N0 := hN0.symm
  unfold cX at h0
  refine aU aG 5 ?_
  refine bK 4 ?_
  obtain ⟨x1, hx2, h0⟩ := aW h0
  refine nW [(lo0p, 2, List.map aD x1)] 0 (wG lo0p x0 (lN x0) cmp1_f cmp1_a cmp1_c cmp1 cmp1_h _ hx2) hO ?_
  intro H hO hl3
  simp only [List.length_map] at hl3
  replace hN := hl3.trans hN
  refine cH ?_
  refine cS (l := [(0, (.msl 2 lo0p 0 (List.length x1)))]) ⟨[(0, (.msl 2 lo0p 0 (List.length x0)))], by kernel_rfl, rfl, ⟨aV.eq (by simp [hl3]), trivial⟩⟩ ?_
  obtain rfl := oI h0
  exact aJ (qD (x := (.tup [])) (by kernel_rfl) (aV.refl _) ⟨rfl, hO.ext, hO.at 0 (by kernel_rfl), by simp only [List.length_map]; exact hN.trans hN0⟩)

theorem NO (a0 : aB) (b1 : aB) (r : Int) (h0 : mL a0 b1 = some r) : bU Try.prog 113 [(aD a0), (aD b1)] (eI r) := by
  intro H0
  refine cI Try.func113 ?_
  have hO := aP.start H0
  unfold mL at h0
  refine aQ ?_
  refine aU aG 3 ?_
  refine gO 2 (aD a0) (by kernel_rfl) (by kernel_rfl) ?_
  refine gO 2 (aD b1) (by kernel_rfl) (by kernel_rfl) ?_
  refine bC ?_
  refine bF [(2, (.rp (aD a0))), (3, (.rp (aD b1)))] ?_
  refine aQ ?_
  refine aU aG 6 ?_
  refine bK 4 ?_
  obtain ⟨x1, hx2, h0⟩ := aW h0
  refine cM (uJ a0.At b1.At _ hx2) hO ?_
  intro H hO
  refine bC ?_
  refine bF [(4, (eI x1))] ?_
  refine bI ?_
  obtain rfl := oI h0
  exact aJ (Q_r hO)

theorem zH (f0 : (List aB)) (r : Bool) (h0 : nT f0 = some r) : bU Try.prog 68 [(eL aD f0)] (aK r) := by
  intro H0
  refine cI Try.func68 ?_
  have hO := aP.start H0
  unfold nT at h0
  refine aX aG 1 [] [] ?_
  refine aQ ?_
  refine aX aG 3 [] [(8, (aK (decide ((1024 : Int) < (lN f0)))))] ?_
  refine bM h0 (fun h0 => ?_) (fun h0 => ?_)
  · refine bY aG 1 [(2, (aK false))] ?_
    refine bI ?_
    obtain rfl := oI h0
    exact aJ (bA (Q_r hO))
  refine bN ?_
  refine bF [(0, (eL aD f0))] ?_
  refine aX aG 1 [] [(3, (eI (-2 : Int)))] ?_
  refine dO (fun T H => Has T [] ∧ aP ⟨H0, [], []⟩ H [] ∧ uU  = some r) ?_ ?_
  · clear hO h0
    rintro T H ⟨hT, hO, h0⟩
    refine bB hT ?_
    clear hT
    unfold uU at h0
    refine bY aG 1 [(2, (aK true))] ?_
    refine bI ?_
    obtain rfl := oI h0
    exact aJ (Q_r hO)
  refine aX aG 3 [0] [(9, (eL aD f0)), (10, (eI (lN f0))), (11, (eI (0 : Int)))] ?_
  refine bQ 0 ?_
  refine cU [(3, (eI (-2 : Int))), (9, (eL aD f0)), (10, (eI (lN f0))), (11, (eI (0 : Int)))] ?_
  refine cO (fun T H => ∃ qC : Int, ∃ t9 : (List aB), ∃ t10 : Int, ∃ t11 : Int, Has T [(3, (eI qC)), (9, (eL aD t9)), (10, (eI t10)), (11, (eI t11))] ∧ aP ⟨H0, [], []⟩ H [] ∧ yA qC t9 t10 t11 = some r) ?_ ⟨(-2 : Int), f0, (lN f0), (0 : Int), .eq (by kernel_rfl), hO, h0⟩
  clear hO h0
  rintro T H ⟨qC, t9, t10, t11, hT, hO, h0⟩
  refine bB hT ?_
  clear hT
  unfold yA at h0
  obtain ⟨rr0, hl0, h0⟩ := aW h0
  refine cF (by kernel_rfl) (fun (s : Int × Int) T H => Has T [(3, (eI s.1)), (9, (eL aD t9)), (10, (eI t10)), (11, (eI s.2))] ∧ aP ⟨H0, [], []⟩ H []) hl0 ⟨.eq (by kernel_rfl), hO⟩ ?_
  clear hO
  rintro k0 s out1 T H ⟨hT, hO⟩ h1 ho0
  obtain ⟨qC, t11⟩ := s
  replace h1 : lZ t9 t10 qC t11 = some out1 := h1
  try dsimp only at hT
  refine bB hT ?_
  clear hT
  unfold lZ at h1
  refine aX aG 1 [] [(12, (aK (decide (t11 < t10))))] ?_
  refine aQ ?_
  refine bM h1 (fun h1 => ?_) (fun h1 => ?_)
  · refine bN ?_
    refine bF [(3, (eI qC)), (9, (eL aD t9)), (10, (eI t10)), (11, (eI t11))] ?_
    refine aQ ?_
    refine bQ 1 ?_
    refine aQ ?_
    refine aU aG 4 ?_
    obtain ⟨c3, h1⟩ := bL h1
    refine sL 2 [0 ≤ t11 ∧ t11 < (lN t9)] ⟨c3, trivial⟩ ?_
    refine nC 2 (aD (aB.mk 0 0)) (by kernel_rfl) (by kernel_rfl) hO ?_
    intro lo4 H hO
    refine jR 0 lo4 2 0 (aD (aB.mk 0 0)) (aD (gD t9 t11)) [(aD (aB.mk 0 0))] [(lo4, 2, [(aD (gD t9 t11))])] hO rfl (by kernel_rfl) ?_
    intro H hO
    refine cH ?_
    refine bS [] [(5, (.lp lo4 0 0))] ?_
    refine aQ ?_
    refine aQ ?_
    refine aU aG 20 ?_
    refine bK 1 ?_
    refine lJ 0 lo4 2 0 (aD (gD t9 t11)) (eI ((gD t9 t11).At)) [(aD (gD t9 t11))] hO rfl ?_
    refine bK 6 ?_
    refine xH [(19, false)] 0 lo4 2 0 (aD (gD t9 t11)) (eI ((gD t9 t11).At)) [(aD (gD t9 t11))] (by kernel_rfl) (by kernel_rfl) hO (by kernel_rfl) (!(decide (((gD t9 t11).At) ≤ qC))) (by kernel_rfl) (fun hb5 => rfl) ?_
    refine bK 11 ?_
    refine xH [(24, false)] 0 lo4 2 0 (aD (gD t9 t11)) (eI ((gD t9 t11).Net)) [(aD (gD t9 t11))] (by kernel_rfl) (by kernel_rfl) hO (by kernel_rfl) (!((decide (((gD t9 t11).At) ≤ qC)) || (decide ((1125899906842624 : Int) ≤ ((gD t9 t11).At))))) (by kernel_rfl) (fun hb6 => rfl) ?_
    refine bK 16 ?_
    refine xH [(29, false)] 0 lo4 2 0 (aD (gD t9 t11)) (eI ((gD t9 t11).Net)) [(aD (gD t9 t11))] (by kernel_rfl) (by kernel_rfl) hO (by kernel_rfl) (!(((decide (((gD t9 t11).At) ≤ qC)) || (decide ((1125899906842624 : Int) ≤ ((gD t9 t11).At)))) || (decide (((gD t9 t11).Net) = (0 : Int))))) (by kernel_rfl) (fun hb7 => rfl) ?_
    obtain ⟨x8, hx9, h1⟩ := aW h1
    refine iT [(29, false)] 109 [(eI ((gD t9 t11).Net))] (aK x8) (!(((decide (((gD t9 t11).At) ≤ qC)) || (decide ((1125899906842624 : Int) ≤ ((gD t9 t11).At)))) || (decide (((gD t9 t11).Net) = (0 : Int))))) (by kernel_rfl) (by kernel_rfl) (by kernel_rfl) (fun hb10 => (HE ((gD t9 t11).Net) _ (kI hx9 hb10))) hO ?_
    intro H hO
    refine bC ?_
    refine bS [3] [(34, (aK ((((decide (((gD t9 t11).At) ≤ qC)) || (decide ((1125899906842624 : Int) ≤ ((gD t9 t11).At)))) || (decide (((gD t9 t11).Net) = (0 : Int)))) || (!x8))))] ?_
    refine bM h1 (fun h1 => ?_) (fun h1 => ?_)
    · refine aQ ?_
      refine aU aG 1 ?_
      refine bC ?_
      refine dP [(2, (aK false))] ?_
      replace hO := hO.pick (L' := []) [] (by decide) (by kernel_rfl)
      refine aJ (aI (?_))
      refine bI ?_
      obtain rfl := oI h1
      obtain rfl : _ = rr0 := ho0
      replace h0 : some false = some r := h0
      obtain rfl := oI h0
      exact aJ (bA (bX (bA (bA (bX (bA (Q_r hO)))))))
    refine bN ?_
    refine bF [(5, (.lp lo4 0 0)), (9, (eL aD t9)), (10, (eI t10)), (11, (eI t11))] ?_
    refine aU aG 3 ?_
    refine bK 1 ?_
    refine lJ 0 lo4 2 0 (aD (gD t9 t11)) (eI ((gD t9 t11).At)) [(aD (gD t9 t11))] hO rfl ?_
    refine bC ?_
    refine dP [(3, (eI ((gD t9 t11).At))), (9, (eL aD t9)), (10, (eI t10)), (11, (eI t11))] ?_
    replace hO := hO.pick (L' := []) [] (by decide) (by kernel_rfl)
    refine aJ (aZ (aI (?_)))
    refine aU aG 2 ?_
    refine bC ?_
    exact aJ (aI (⟨rfl, _, (oI h1).symm, .eq (by kernel_rfl), hO⟩))
  refine eB 0 ?_
  obtain rfl := oI h1
  obtain rfl : _ = rr0 := ho0
  replace h0 : uU  = some r := h0
  exact aJ (aY (aY (bP (aI (⟨rfl, .eq (by kernel_rfl), hO, h0⟩)))))

theorem SK (f0 : (List aB)) (r : ((List aB) × Int)) (h0 : sG f0 = some r) : bU Try.prog 114 [(eL aD f0)] (.tup [(eL aD r.1), (eI r.2)]) := by
  intro H0
  refine cI Try.func114 ?_
  have hO := aP.start H0
  unfold sG at h0
  refine aX aG 2 [] [] ?_
  refine aQ ?_
  refine aQ ?_
  refine aU aG 3 ?_
  refine bK 1 ?_
  obtain ⟨x1, hx2, h0⟩ := aW h0
  refine cM (zH f0 _ hx2) hO ?_
  intro H hO
  refine bC ?_
  refine bS [] [(6, (aK (!x1)))] ?_
  refine bM h0 (fun h0 => ?_) (fun h0 => ?_)
  · refine bY aG 2 [(2, (.sl true 0 (fun _ => .bad))), (3, (eI (7 : Int)))] ?_
    refine bI ?_
    refine cS (l := [(2, (eL aD ([]))), (3, (eI (7 : Int)))]) ⟨[(2, (.sl true 0 (fun _ => .bad))), (3, (eI (7 : Int)))], by kernel_rfl, rfl, ⟨gP, aV.refl _, trivial⟩⟩ ?_
    obtain rfl := oI h0
    exact aJ (bA (Q_r hO))
  refine bN ?_
  refine bF [(0, (eL aD f0))] ?_
  refine bY aG 3 [(2, (eL aD f0)), (3, (eI (0 : Int)))] ?_
  refine bI ?_
  obtain rfl := oI h0
  exact aJ (Q_r hO)

theorem RV (l0 : (List aB)) (r : ((List aB) × Int)) (h0 : uW l0 = some r) : bU Try.prog 67 [(eL aD l0)] (.tup [(eL aD r.1), (eI r.2)]) := by
  intro H0
  refine cI Try.func67 ?_
  have hO := aP.start H0
  unfold uW at h0
  refine aX aG 2 [] [] ?_
  refine aQ ?_
  refine aQ ?_
  refine aU aG 2 ?_
  refine bK 1 ?_
  obtain ⟨x1, hx2, h0⟩ := aW h0
  refine cM (mN l0 108 [] [] (fun y0 => rF y0) (fun y0 r h => NC y0 r h) _ hx2) hO ?_
  intro H hO
  refine cH ?_
  refine bS [] [(9, (aK x1))] ?_
  refine bM h0 (fun h0 => ?_) (fun h0 => ?_)
  · refine bY aG 2 [(2, (.sl true 0 (fun _ => .bad))), (3, (eI (2 : Int)))] ?_
    refine bI ?_
    refine cS (l := [(2, (eL aD ([]))), (3, (eI (2 : Int)))]) ⟨[(2, (.sl true 0 (fun _ => .bad))), (3, (eI (2 : Int)))], by kernel_rfl, rfl, ⟨gP, aV.refl _, trivial⟩⟩ ?_
    obtain rfl := oI h0
    exact aJ (bA (Q_r hO))
  refine bN ?_
  refine bF [(0, (eL aD l0))] ?_
  refine aQ ?_
  refine aQ ?_
  refine aU aG 2 ?_
  refine bK 1 ?_
  obtain ⟨x5, hx6, h0⟩ := aW h0
  refine cM (mN l0 110 [] [] (fun y0 => sD y0) (fun y0 r h => MZ y0 r h) _ hx6) hO ?_
  intro H hO
  refine cH ?_
  refine bS [] [(11, (aK x5))] ?_
  refine bM h0 (fun h0 => ?_) (fun h0 => ?_)
  · refine bY aG 2 [(2, (.sl true 0 (fun _ => .bad))), (3, (eI (13 : Int)))] ?_
    refine bI ?_
    refine cS (l := [(2, (eL aD ([]))), (3, (eI (13 : Int)))]) ⟨[(2, (.sl true 0 (fun _ => .bad))), (3, (eI (13 : Int)))], by kernel_rfl, rfl, ⟨gP, aV.refl _, trivial⟩⟩ ?_
    obtain rfl := oI h0
    exact aJ (bA (Q_r hO))
  refine bN ?_
  refine bF [(0, (eL aD l0))] ?_
  refine aQ ?_
  refine aU aG 3 ?_
  refine bK 1 ?_
  obtain ⟨x9, hx10, h0⟩ := aW h0
  refine SO (L' := fun lo11 => [(lo11, 2, List.map aD x9)]) 2 (List.map aD x9) 111 [(eL aD l0)] (fun lo11 => (.msl 2 lo11 0 (List.length x9))) (by kernel_rfl) (by kernel_rfl) (vX l0 _ hx10) hO (fun _ => by kernel_rfl) ?_
  intro lo11 H hO
  refine bC ?_
  refine bF [(4, (.msl 2 lo11 0 (List.length x9)))] ?_
  refine aQ ?_
  refine aU aG 2 ?_
  refine bK 1 ?_
  obtain ⟨x12, hx13, h0⟩ := aW h0
  refine nW [(lo11, 2, List.map aD x12)] 0 (qS lo11 x9 113 [] [] (fun y0 y1 => mL y0 y1) (fun y0 y1 r h => NO y0 y1 r h) _ hx13) hO ?_
  intro H hO hl14
  simp only [List.length_map] at hl14
  refine cH ?_
  refine cS (l := [(4, (.msl 2 lo11 0 (List.length x12)))]) ⟨[(4, (.msl 2 lo11 0 (List.length x9)))], by kernel_rfl, rfl, ⟨aV.eq (by simp [hl14]), trivial⟩⟩ ?_
  refine aJ (aI (?_))
  refine aQ ?_
  refine aU aG 2 ?_
  refine tT (xs := []) (k := 2) (by kernel_rfl) (by kernel_rfl) ?_
  refine bC ?_
  refine bS [] [(5, (.sl true 0 (fun _ => .bad)))] ?_
  refine dO (fun T H => ∃ out5 : List aB, ∃ lo15 : Nat, Has T [(5, (.msl 2 lo15 0 (List.length out5)))] ∧ aP ⟨H0, [], []⟩ H [(lo15, 2, List.map aD out5)] ∧ tN out5 = some r) ?_ ?_
  · clear hO h0
    rintro T H ⟨out5, lo15, hT, hO, h0⟩
    refine bB hT ?_
    clear hT
    unfold tN at h0
    refine aQ ?_
    refine aU aG 6 ?_
    refine yG (e := aD) out5 0 5 2 lo15 (List.length out5) [] (by kernel_rfl) hO (by kernel_rfl) (by kernel_rfl) (by kernel_rfl) (by kernel_rfl) ?_
    intro H hO
    refine bK 1 ?_
    obtain ⟨x16, hx17, h0⟩ := aW h0
    refine cM (SK out5 _ hx17) hO ?_
    intro H hO
    refine bC ?_
    refine bF [(2, (eL aD x16.1)), (3, (eI x16.2))] ?_
    refine bI ?_
    obtain rfl := oI h0
    exact aJ (Q_r hO)
  refine aX aG 1 [] [(6, (eI (0 : Int)))] ?_
  refine bQ 0 ?_
  refine cU [(4, (.msl 2 lo11 0 (List.length x12))), (5, (.sl true 0 (fun _ => .bad))), (6, (eI (0 : Int)))] ?_
  refine PM (el := (fun _ => .bad)) 1 5 2 hO (by kernel_rfl) ?_
  intro lo40 H41 hO
  refine cO (fun T H => ∃ all4 : List aB, ∃ out5 : List aB, ∃ i6 : Int, ∃ lo21 : Nat, ∃ lo22 : Nat, Has T [(4, (.msl 2 lo21 0 (List.length all4))), (5, (.msl 2 lo22 0 (List.length out5))), (6, (eI i6))] ∧ aP ⟨H0, [], []⟩ H [(lo21, 2, List.map aD all4), (lo22, 2, List.map aD out5)] ∧ xB all4 out5 i6 = some r) ?_ ⟨x12, ([] : List aB), (0 : Int), lo11, lo40, .eq (by kernel_rfl), hO, h0⟩
  clear hO h0
  rintro T H ⟨all4, out5, i6, lo21, lo22, hT, hO, h0⟩
  refine bB hT ?_
  clear hT
  unfold xB at h0
  obtain ⟨rr0, hl0, h0⟩ := aW h0
  refine cF (by kernel_rfl) (fun (s : List aB × List aB × Int) T H => ∃ lo21 : Nat, ∃ lo22 : Nat, Has T [(4, (.msl 2 lo21 0 (List.length s.1))), (5, (.msl 2 lo22 0 (List.length s.2.1))), (6, (eI s.2.2))] ∧ aP ⟨H0, [], []⟩ H [(lo21, 2, List.map aD s.1), (lo22, 2, List.map aD s.2.1)]) hl0 ⟨lo21, lo22, .eq (by kernel_rfl), hO⟩ ?_
  clear hO
  rintro k0 s out1 T H ⟨lo21, lo22, hT, hO⟩ h1 ho0
  obtain ⟨all4, out5, i6⟩ := s
  replace h1 : lA all4 out5 i6 = some out1 := h1
  try dsimp only at hT
  refine bB hT ?_
  clear hT
  unfold lA at h1
  refine aQ ?_
  refine aX aG 4 [] [(20, (aK (decide (i6 < (lN all4)))))] ?_
  refine bM h1 (fun h1 => ?_) (fun h1 => ?_)
  · refine bN ?_
    refine bF [(4, (.msl 2 lo21 0 (List.length all4))), (5, (.msl 2 lo22 0 (List.length out5))), (6, (eI i6))] ?_
    refine bQ 1 ?_
    refine aQ ?_
    refine aU aG 8 ?_
    obtain ⟨c24, h1⟩ := bL h1
    refine sL 4 [0 ≤ i6 ∧ i6 < (lN all4)] ⟨c24, trivial⟩ ?_
    refine lJ 0 lo21 2 (0 + Int.toNat i6) (aD (gD all4 i6)) (eI ((gD all4 i6).At)) (List.map aD all4) hO (cN c24) ?_
    refine bK 6 ?_
    refine nC 2 (aD (aB.mk 0 0)) (by kernel_rfl) (by kernel_rfl) hO ?_
    intro lo25 H hO
    refine jR 2 lo25 2 0 (aD (aB.mk 0 0)) (aD (aB.mk ((gD all4 i6).At) 0)) [(aD (aB.mk 0 0))] [(lo21, 2, List.map aD all4), (lo22, 2, List.map aD out5), (lo25, 2, [(aD (aB.mk ((gD all4 i6).At) 0))])] hO rfl (by kernel_rfl) ?_
    intro H hO
    refine cH ?_
    refine bS [] [(7, (.lp lo25 0 0))] ?_
    refine dO (fun T H => ∃ all4 : List aB, ∃ out5 : List aB, ∃ i6 : Int, ∃ j7 : aB, ∃ lo26 : Nat, ∃ lo27 : Nat, Has T [(4, (.msl 2 lo26 0 (List.length all4))), (5, (.msl 2 lo27 0 (List.length out5))), (6, (eI i6)), (7, (.lp lo25 0 0))] ∧ aP ⟨H0, [], []⟩ H [(lo26, 2, List.map aD all4), (lo27, 2, List.map aD out5), (lo25, 2, [(aD j7)])] ∧ tA all4 out5 i6 j7 = some out1) ?_ ?_
    · clear hO h1
      rintro T H ⟨all4, out5, i6, j7, lo26, lo27, hT, hO, h1⟩
      refine bB hT ?_
      clear hT
      unfold tA at h1
      refine aQ ?_
      refine aU aG 8 ?_
      refine bK 1 ?_
      refine lJ 2 lo25 2 0 (aD j7) (eI j7.Net) [(aD j7)] hO rfl ?_
      refine bK 5 ?_
      refine xH [(55, true)] 2 lo25 2 0 (aD j7) (eI j7.At) [(aD j7)] (by kernel_rfl) (by kernel_rfl) hO (by kernel_rfl) (!decide (j7.Net = (0 : Int))) (by kernel_rfl) (fun hb28 => rfl) ?_
      refine bC ?_
      refine bS [] [(59, (aK ((!decide (j7.Net = (0 : Int))) && (decide (j7.At < (1125899906842624 : Int))))))] ?_
      refine bM h1 (fun h1 => ?_) (fun h1 => ?_)
      · refine aU aG 5 ?_
        refine bK 1 ?_
        refine lJ 2 lo25 2 0 (aD j7) (aD j7) [(aD j7)] hO rfl ?_
        refine tT (xs := [(aD j7)]) (k := 2) (by kernel_rfl) (by kernel_rfl) ?_
        obtain ⟨c31, h1⟩ := bL h1
        refine BY (e := aD) out5 ([j7]) 1 lo27 2 16 (eT [(aD j7)]) (fun lo30 => [(lo26, 2, List.map aD all4), (lo30, 2, List.map aD (out5 ++ ([j7]))), (lo25, 2, [(aD j7)])]) (by kernel_rfl) (by kernel_rfl) hO (by kernel_rfl) (by kernel_rfl) c31 (fun _ => by kernel_rfl) ?_
        intro lo30 H hO
        refine bC ?_
        replace hO := hO.pick (L' := [(lo26, 2, List.map aD all4), (lo30, 2, List.map aD (out5 ++ ([j7])))]) [0, 1] (by decide) (by kernel_rfl)
        exact aJ (aZ (aI (⟨rfl, _, (oI h1).symm, _, _, .eq (by kernel_rfl), hO⟩)))
      refine bN ?_
      replace hO := hO.pick (L' := [(lo26, 2, List.map aD all4), (lo27, 2, List.map aD out5)]) [0, 1] (by decide) (by kernel_rfl)
      exact aJ (aZ (aI (⟨rfl, _, (oI h1).symm, _, _, .eq (by kernel_rfl), hO⟩)))
    refine bQ 2 ?_
    refine cU [(4, (.msl 2 lo21 0 (List.length all4))), (5, (.msl 2 lo22 0 (List.length out5))), (6, (eI i6)), (7, (.lp lo25 0 0))] ?_
    refine cO (fun T H => ∃ all4 : List aB, ∃ out5 : List aB, ∃ i6 : Int, ∃ j7 : aB, ∃ lo34 : Nat, ∃ lo35 : Nat, Has T [(4, (.msl 2 lo34 0 (List.length all4))), (5, (.msl 2 lo35 0 (List.length out5))), (6, (eI i6)), (7, (.lp lo25 0 0))] ∧ aP ⟨H0, [], []⟩ H [(lo34, 2, List.map aD all4), (lo35, 2, List.map aD out5), (lo25, 2, [(aD j7)])] ∧ wV all4 out5 i6 j7 = some out1) ?_ ⟨all4, out5, i6, aB.mk ((gD all4 i6).At) 0, lo21, lo22, .eq (by kernel_rfl), hO, h1⟩
    clear hO h1
    rintro T H ⟨all4, out5, i6, j7, lo34, lo35, hT, hO, h1⟩
    refine bB hT ?_
    clear hT
    unfold wV at h1
    obtain ⟨rr1, hl1, h1⟩ := aW h1
    refine cF (by kernel_rfl) (fun (s : List aB × List aB × Int × aB) T H => ∃ lo34 : Nat, ∃ lo35 : Nat, Has T [(4, (.msl 2 lo34 0 (List.length s.1))), (5, (.msl 2 lo35 0 (List.length s.2.1))), (6, (eI s.2.2.1)), (7, (.lp lo25 0 0))] ∧ aP ⟨H0, [], []⟩ H [(lo34, 2, List.map aD s.1), (lo35, 2, List.map aD s.2.1), (lo25, 2, [(aD s.2.2.2)])]) hl1 ⟨lo34, lo35, .eq (by kernel_rfl), hO⟩ ?_
    clear hO
    rintro k1 s out2 T H ⟨lo34, lo35, hT, hO⟩ h2 ho1
    obtain ⟨all4, out5, i6, j7⟩ := s
    replace h2 : jH all4 out5 i6 j7 = some out2 := h2
    try dsimp only at hT
    refine bB hT ?_
    clear hT
    unfold jH at h2
    refine aQ ?_
    refine aQ ?_
    obtain ⟨c36, h2⟩ := bL h2
    refine kU (kP []) aG 14 ?_
    refine EK (K := fun T H => Has (lift T) [(4, (.msl 2 lo34 0 (List.length all4))), (5, (.msl 2 lo35 0 (List.length out5))), (6, (eI i6)), (7, (.lp lo25 0 0)), (40, (aK ((decide (i6 < (lN all4))) && (decide (((gD all4 i6).At) = j7.At)))))] ∧ aP ⟨H0, [], []⟩ H [(lo34, 2, List.map aD all4), (lo35, 2, List.map aD out5), (lo25, 2, [(aD j7)])]) ?_ ?_
    · refine uM 5 ?_
      refine GG (t := 31) (e := decide (i6 < (lN all4))) (by kernel_rfl) (fun hg37 => ?_) (fun hg37 => ?_)
      · refine dK 9 [0 ≤ i6 ∧ i6 < (lN all4)] ⟨(c36 hg37), trivial⟩ ?_
        refine zM 0 lo34 2 (0 + Int.toNat i6) (aD (gD all4 i6)) (eI ((gD all4 i6).At)) (List.map aD all4) (by kernel_rfl) (by kernel_rfl) (by kernel_rfl) hO (by kernel_rfl) (cN (c36 hg37)) ?_
        refine uM 11 ?_
        refine zM 2 lo25 2 0 (aD j7) (eI j7.At) [(aD j7)] (by kernel_rfl) (by kernel_rfl) (by kernel_rfl) hO (by kernel_rfl) rfl ?_
        refine qO ?_
        exact ⟨⟨[(4, (.msl 2 lo34 0 (List.length all4))), (5, (.msl 2 lo35 0 (List.length out5))), (6, (eI i6)), (7, (.lp lo25 0 0)), (40, (aK (decide (((gD all4 i6).At) = j7.At))))], by kernel_rfl, rfl, ⟨aV.refl _, aV.refl _, aV.refl _, aV.refl _, aV.eq (congrArg aK (GC hg37 rfl).symm), trivial⟩⟩, hO⟩
      refine qO ?_
      exact ⟨⟨[(4, (.msl 2 lo34 0 (List.length all4))), (5, (.msl 2 lo35 0 (List.length out5))), (6, (eI i6)), (7, (.lp lo25 0 0)), (40, (aK false))], by kernel_rfl, rfl, ⟨aV.refl _, aV.refl _, aV.refl _, aV.refl _, aV.eq (congrArg aK (GC hg37 rfl).symm), trivial⟩⟩, hO⟩
    · rintro T H ⟨hT, hO⟩
      refine cS hT ?_
      clear hT
      refine aJ (aI ?_)
      refine bM h2 (fun h2 => ?_) (fun h2 => ?_)
      · refine bN ?_
        refine bF [(4, (.msl 2 lo34 0 (List.length all4))), (5, (.msl 2 lo35 0 (List.length out5))), (6, (eI i6)), (7, (.lp lo25 0 0))] ?_
        refine aQ ?_
        refine bQ 3 ?_
        refine kU (kP []) aG 10 ?_
        refine uM 1 ?_
        refine kT 2 lo25 2 0 (aD j7) (eI j7.Net) [(aD j7)] hO rfl ?_
        obtain ⟨c39, h2⟩ := bL h2
        refine dK 6 [0 ≤ i6 ∧ i6 < (lN all4)] ⟨c39, trivial⟩ ?_
        refine kT 0 lo34 2 (0 + Int.toNat i6) (aD (gD all4 i6)) (eI ((gD all4 i6).Net)) (List.map aD all4) hO (cN c39) ?_
        refine uM 9 ?_
        refine qT 2 lo25 2 0 (aD j7) (aD (aB.mk j7.At (wR (j7.Net + ((gD all4 i6).Net))))) [(aD j7)] [(lo34, 2, List.map aD all4), (lo35, 2, List.map aD out5), (lo25, 2, [(aD (aB.mk j7.At (wR (j7.Net + ((gD all4 i6).Net)))))])] hO rfl (by kernel_rfl) ?_
        intro H hO
        refine wT (by kernel_rfl) ?_
        refine dP [(4, (.msl 2 lo34 0 (List.length all4))), (5, (.msl 2 lo35 0 (List.length out5))), (6, (eI i6)), (7, (.lp lo25 0 0))] ?_
        refine aJ (aZ (aI (?_)))
        refine aU aG 3 ?_
        refine bC ?_
        exact aJ (aI (⟨rfl, _, (oI h2).symm, _, _, .eq (by kernel_rfl), hO⟩))
      refine eB 2 ?_
      obtain rfl := oI h2
      obtain rfl : _ = rr1 := ho1
      replace h1 : tA all4 out5 i6 j7 = some out1 := h1
      exact aJ (aY (aY (bP (aI (⟨rfl, _, _, _, _, _, _, .eq (by kernel_rfl), hO, h1⟩)))))
  refine eB 0 ?_
  replace hO := hO.pick (L' := [(lo22, 2, List.map aD out5)]) [1] (by decide) (by kernel_rfl)
  obtain rfl := oI h1
  obtain rfl : _ = rr0 := ho0
  replace h0 : tN out5 = some r := h0
  exact aJ (aY (aY (bP (aI (⟨rfl, _, _, .eq (by kernel_rfl), hO, h0⟩)))))

theorem NQ (f0 : (List aB)) (r : ((List aB) × Int)) (h0 : rY f0 = some r) : bU Try.prog 66 [(eL aD f0)] (.tup [(eL aD r.1), (eI r.2)]) := by
  intro H0
  refine cI Try.func66 ?_
  have hO := aP.start H0
  unfold rY at h0
  refine aX aG 2 [] [] ?_
  refine aQ ?_
  refine aU aG 6 ?_
  refine bK 1 ?_
  obtain ⟨x1, hx2, h0⟩ := aW h0
  refine cM (RV f0 _ hx2) hO ?_
  intro H hO
  refine bC ?_
  refine bF [(2, (eL aD x1.1)), (3, (eI x1.2))] ?_
  refine bI ?_
  obtain rfl := oI h0
  exact aJ (Q_r hO)

theorem RK (l0 : (List aC)) (r : ((List aC) × Int)) (h0 : uN l0 = some r) : bU Try.prog 28 [(eL aE l0)] (.tup [(eL aE r.1), (eI r.2)]) := by
  intro H0
  refine cI Try.func28 ?_
  have hO := aP.start H0
  unfold uN at h0
  refine aX aG 2 [] [] ?_
  refine aQ ?_
  refine aQ ?_
  refine aU aG 2 ?_
  refine bK 1 ?_
  obtain ⟨x1, hx2, h0⟩ := aW h0
  refine cM (mP l0 56 [] [] (fun y0 => rU y0) (fun y0 r h => NF y0 r h) _ hx2) hO ?_
  intro H hO
  refine cH ?_
  refine bS [] [(6, (aK x1))] ?_
  refine bM h0 (fun h0 => ?_) (fun h0 => ?_)
  · refine bY aG 2 [(2, (.sl true 0 (fun _ => .bad))), (3, (eI (2 : Int)))] ?_
    refine bI ?_
    refine cS (l := [(2, (eL aE ([]))), (3, (eI (2 : Int)))]) ⟨[(2, (.sl true 0 (fun _ => .bad))), (3, (eI (2 : Int)))], by kernel_rfl, rfl, ⟨gP, aV.refl _, trivial⟩⟩ ?_
    obtain rfl := oI h0
    exact aJ (bA (Q_r hO))
  refine bN ?_
  refine bF [(0, (eL aE l0))] ?_
  refine aQ ?_
  refine aQ ?_
  refine aU aG 2 ?_
  refine bK 1 ?_
  obtain ⟨x5, hx6, h0⟩ := aW h0
  refine cM (mP l0 58 [] [] (fun y0 => rM y0) (fun y0 r h => ND y0 r h) _ hx6) hO ?_
  intro H hO
  refine cH ?_
  refine bS [] [(8, (aK x5))] ?_
  refine bM h0 (fun h0 => ?_) (fun h0 => ?_)
  · refine bY aG 2 [(2, (.sl true 0 (fun _ => .bad))), (3, (eI (13 : Int)))] ?_
    refine bI ?_
    refine cS (l := [(2, (eL aE ([]))), (3, (eI (13 : Int)))]) ⟨[(2, (.sl true 0 (fun _ => .bad))), (3, (eI (13 : Int)))], by kernel_rfl, rfl, ⟨gP, aV.refl _, trivial⟩⟩ ?_
    obtain rfl := oI h0
    exact aJ (bA (Q_r hO))
  refine bN ?_
  refine bF [(0, (eL aE l0))] ?_
  refine aQ ?_
  refine aU aG 3 ?_
  refine bK 1 ?_
  obtain ⟨x9, hx10, h0⟩ := aW h0
  refine SO (L' := fun lo11 => [(lo11, 3, List.map aE x9)]) 3 (List.map aE x9) 59 [(eL aE l0)] (fun lo11 => (.msl 3 lo11 0 (List.length x9))) (by kernel_rfl) (by kernel_rfl) (vZ l0 _ hx10) hO (fun _ => by kernel_rfl) ?_
  intro lo11 H hO
  refine bC ?_
  refine bF [(4, (.msl 3 lo11 0 (List.length x9)))] ?_
  refine aQ ?_
  refine aU aG 2 ?_
  refine bK 1 ?_
  obtain ⟨x12, hx13, h0⟩ := aW h0
  refine nW [(lo11, 3, List.map aE x12)] 0 (qQ lo11 x9 61 [] [] (fun y0 y1 => mQ y0 y1) (fun y0 y1 r h => NN y0 y1 r h) _ hx13) hO ?_
  intro H hO hl14
  simp only [List.length_map] at hl14
  refine cH ?_
  refine cS (l := [(4, (.msl 3 lo11 0 (List.length x12)))]) ⟨[(4, (.msl 3 lo11 0 (List.length x9)))], by kernel_rfl, rfl, ⟨aV.eq (by simp [hl14]), trivial⟩⟩ ?_
  refine aJ (aI (?_))
  refine aQ ?_
  refine aU aG 6 ?_
  refine yG (e := aE) x12 0 4 3 lo11 (List.length x12) [] (by kernel_rfl) hO (by kernel_rfl) (by kernel_rfl) (by kernel_rfl) (by kernel_rfl) ?_
  intro H hO
  refine bK 1 ?_
  obtain ⟨x15, hx16, h0⟩ := aW h0
  refine cM (NB x12 66 [] [] (fun y0 => rY y0) (fun y0 r h => NQ y0 r h) _ hx16) hO ?_
  intro H hO
  refine bC ?_
  refine bF [(2, (eL aE x15.1)), (3, (eI x15.2))] ?_
  refine bI ?_
  obtain rfl := oI h0
  exact aJ (Q_r hO)

theorem QV (l0 : (List aM)) (r : ((List aC) × Int)) (h0 : sU l0 = some r) : bU Try.prog 33 [(eL aH l0)] (.tup [(eL aE r.1), (eI r.2)]) := by
  intro H0
  refine cI Try.func33 ?_
  have hO := aP.start H0
  unfold sU at h0
  refine aX aG 2 [] [] ?_
  refine aQ ?_
  refine aQ ?_
  refine aU aG 2 ?_
  refine bK 1 ?_
  obtain ⟨x1, hx2, h0⟩ := aW h0
  refine cM (qR l0 75 [] [] (fun y0 => qN y0) (fun y0 r h => KU y0 r h) _ hx2) hO ?_
  intro H hO
  refine cH ?_
  refine bS [] [(8, (aK x1))] ?_
  refine bM h0 (fun h0 => ?_) (fun h0 => ?_)
  · refine bY aG 2 [(2, (.sl true 0 (fun _ => .bad))), (3, (eI (2 : Int)))] ?_
    refine bI ?_
    refine cS (l := [(2, (eL aE ([]))), (3, (eI (2 : Int)))]) ⟨[(2, (.sl true 0 (fun _ => .bad))), (3, (eI (2 : Int)))], by kernel_rfl, rfl, ⟨gP, aV.refl _, trivial⟩⟩ ?_
    obtain rfl := oI h0
    exact aJ (bA (Q_r hO))
  refine bN ?_
  refine bF [(0, (eL aH l0))] ?_
  refine aQ ?_
  refine aX aG 3 [] [(11, (aK (decide ((4096 : Int) < (lN l0)))))] ?_
  refine bM h0 (fun h0 => ?_) (fun h0 => ?_)
  · refine bY aG 2 [(2, (.sl true 0 (fun _ => .bad))), (3, (eI (7 : Int)))] ?_
    refine bI ?_
    refine cS (l := [(2, (eL aE ([]))), (3, (eI (7 : Int)))]) ⟨[(2, (.sl true 0 (fun _ => .bad))), (3, (eI (7 : Int)))], by kernel_rfl, rfl, ⟨gP, aV.refl _, trivial⟩⟩ ?_
    obtain rfl := oI h0
    exact aJ (bA (Q_r hO))
  refine bN ?_
  refine bF [(0, (eL aH l0))] ?_
  refine aQ ?_
  refine aU aG 5 ?_
  refine bK 3 ?_
  obtain ⟨c6, h0⟩ := bL h0
  refine GF 3 40 (wR ((2 : Int) * (lN l0))) (by kernel_rfl) (by kernel_rfl) c6 hO ?_
  intro lo7 H hO
  refine bC ?_
  refine bS [] [(4, (.msl 3 lo7 0 (List.length ([] : List aC))))] ?_
  refine dO (fun T H => ∃ out4 : List aC, ∃ lo8 : Nat, Has T [(4, (.msl 3 lo8 0 (List.length out4)))] ∧ aP ⟨H0, [], []⟩ H [(lo8, 3, List.map aE out4)] ∧ rP out4 = some r) ?_ ?_
  · clear hO h0
    rintro T H ⟨out4, lo8, hT, hO, h0⟩
    refine bB hT ?_
    clear hT
    unfold rP at h0
    refine aQ ?_
    refine aU aG 6 ?_
    refine yG (e := aE) out4 0 4 3 lo8 (List.length out4) [] (by kernel_rfl) hO (by kernel_rfl) (by kernel_rfl) (by kernel_rfl) (by kernel_rfl) ?_
    intro H hO
    refine bK 1 ?_
    obtain ⟨x9, hx10, h0⟩ := aW h0
    refine cM (RK out4 _ hx10) hO ?_
    intro H hO
    refine bC ?_
    refine bF [(2, (eL aE x9.1)), (3, (eI x9.2))] ?_
    refine bI ?_
    obtain rfl := oI h0
    exact aJ (Q_r hO)
  refine aX aG 3 [0] [(16, (eL aH l0)), (17, (eI (lN l0))), (18, (eI (0 : Int)))] ?_
  refine bQ 0 ?_
  refine cU [(4, (.msl 3 lo7 0 (List.length ([] : List aC)))), (16, (eL aH l0)), (17, (eI (lN l0))), (18, (eI (0 : Int)))] ?_
  refine cO (fun T H => ∃ out4 : List aC, ∃ t16 : (List aM), ∃ t17 : Int, ∃ t18 : Int, ∃ lo13 : Nat, Has T [(4, (.msl 3 lo13 0 (List.length out4))), (16, (eL aH t16)), (17, (eI t17)), (18, (eI t18))] ∧ aP ⟨H0, [], []⟩ H [(lo13, 3, List.map aE out4)] ∧ vT out4 t16 t17 t18 = some r) ?_ ⟨([] : List aC), l0, (lN l0), (0 : Int), lo7, .eq (by kernel_rfl), hO, h0⟩
  clear hO h0
  rintro T H ⟨out4, t16, t17, t18, lo13, hT, hO, h0⟩
  refine bB hT ?_
  clear hT
  unfold vT at h0
  obtain ⟨rr0, hl0, h0⟩ := aW h0
  refine cF (by kernel_rfl) (fun (s : List aC × Int) T H => ∃ lo13 : Nat, Has T [(4, (.msl 3 lo13 0 (List.length s.1))), (16, (eL aH t16)), (17, (eI t17)), (18, (eI s.2))] ∧ aP ⟨H0, [], []⟩ H [(lo13, 3, List.map aE s.1)]) hl0 ⟨lo13, .eq (by kernel_rfl), hO⟩ ?_
  clear hO
  rintro k0 s out1 T H ⟨lo13, hT, hO⟩ h1 ho0
  obtain ⟨out4, t18⟩ := s
  replace h1 : mJ t16 t17 out4 t18 = some out1 := h1
  try dsimp only at hT
  refine bB hT ?_
  clear hT
  unfold mJ at h1
  refine aX aG 1 [] [(19, (aK (decide (t18 < t17))))] ?_
  refine aQ ?_
  refine bM h1 (fun h1 => ?_) (fun h1 => ?_)
  · refine bN ?_
    refine bF [(4, (.msl 3 lo13 0 (List.length out4))), (16, (eL aH t16)), (17, (eI t17)), (18, (eI t18))] ?_
    refine aQ ?_
    refine bQ 1 ?_
    refine aQ ?_
    refine aU aG 4 ?_
    obtain ⟨c15, h1⟩ := bL h1
    refine sL 2 [0 ≤ t18 ∧ t18 < (lN t16)] ⟨c15, trivial⟩ ?_
    refine rB 3 (.agg [(.sl true 0 (fun _ => .bad)), (eI 0), (eI 0)]) (aH (aM.mk ([]) (aS.mk 0 0))) (by kernel_rfl) (by kernel_rfl) (by kernel_rfl) (EW (xs := [(.sl true 0 (fun _ => .bad)), (eI 0), (eI 0)]) (ys := [(eL aL ([])), (eI 0), (eI 0)]) ⟨gP, aV.refl _, aV.refl _, trivial⟩) (by kernel_rfl) (by kernel_rfl) hO ?_
    intro lo16 H hO
    refine jR 1 lo16 3 0 (aH (aM.mk ([]) (aS.mk 0 0))) (aH (gD t16 t18)) [(aH (aM.mk ([]) (aS.mk 0 0)))] [(lo13, 3, List.map aE out4), (lo16, 3, [(aH (gD t16 t18))])] hO rfl (by kernel_rfl) ?_
    intro H hO
    refine cH ?_
    refine bS [] [(6, (.lp lo16 0 0))] ?_
    refine aU aG 16 ?_
    refine bK 2 ?_
    refine lJ 1 lo16 3 0 (aH (gD t16 t18)) (eL aL ((gD t16 t18).Row)) [(aH (gD t16 t18))] hO rfl ?_
    refine bK 5 ?_
    refine lJ 1 lo16 3 0 (aH (gD t16 t18)) (eI (((gD t16 t18).Span).From)) [(aH (gD t16 t18))] hO rfl ?_
    refine bK 8 ?_
    refine lJ 1 lo16 3 0 (aH (gD t16 t18)) (eL aL ((gD t16 t18).Row)) [(aH (gD t16 t18))] hO rfl ?_
    refine bK 11 ?_
    refine lJ 1 lo16 3 0 (aH (gD t16 t18)) (eI (((gD t16 t18).Span).To)) [(aH (gD t16 t18))] hO rfl ?_
    refine bK 13 ?_
    refine tT (xs := [(aE (aC.mk ((gD t16 t18).Row) (((gD t16 t18).Span).From) (1 : Int))), (aE (aC.mk ((gD t16 t18).Row) (((gD t16 t18).Span).To) (-1 : Int)))]) (k := 3) (by kernel_rfl) (by kernel_rfl) ?_
    obtain ⟨c18, h1⟩ := bL h1
    refine BY (e := aE) out4 ([aC.mk ((gD t16 t18).Row) (((gD t16 t18).Span).From) (1 : Int), aC.mk ((gD t16 t18).Row) (((gD t16 t18).Span).To) (-1 : Int)]) 0 lo13 3 40 (eT [(aE (aC.mk ((gD t16 t18).Row) (((gD t16 t18).Span).From) (1 : Int))), (aE (aC.mk ((gD t16 t18).Row) (((gD t16 t18).Span).To) (-1 : Int)))]) (fun lo17 => [(lo17, 3, List.map aE (out4 ++ ([aC.mk ((gD t16 t18).Row) (((gD t16 t18).Span).From) (1 : Int), aC.mk ((gD t16 t18).Row) (((gD t16 t18).Span).To) (-1 : Int)]))), (lo16, 3, [(aH (gD t16 t18))])]) (by kernel_rfl) (by kernel_rfl) hO (by kernel_rfl) (by kernel_rfl) c18 (fun _ => by kernel_rfl) ?_
    intro lo17 H hO
    refine bC ?_
    refine dP [(4, (.msl 3 lo17 0 (List.length (out4 ++ ([aC.mk ((gD t16 t18).Row) (((gD t16 t18).Span).From) (1 : Int), aC.mk ((gD t16 t18).Row) (((gD t16 t18).Span).To) (-1 : Int)]))))), (16, (eL aH t16)), (17, (eI t17)), (18, (eI t18))] ?_
    replace hO := hO.pick (L' := [(lo17, 3, List.map aE (out4 ++ ([aC.mk ((gD t16 t18).Row) (((gD t16 t18).Span).From) (1 : Int), aC.mk ((gD t16 t18).Row) (((gD t16 t18).Span).To) (-1 : Int)])))]) [0] (by decide) (by kernel_rfl)
    refine aJ (aZ (aI (?_)))
    refine aU aG 2 ?_
    refine bC ?_
    exact aJ (aI (⟨rfl, _, (oI h1).symm, _, .eq (by kernel_rfl), hO⟩))
  refine eB 0 ?_
  obtain rfl := oI h1
  obtain rfl : _ = rr0 := ho0
  replace h0 : rP out4 = some r := h0
  exact aJ (aY (aY (bP (aI (⟨rfl, _, _, .eq (by kernel_rfl), hO, h0⟩)))))

theorem HH (l0 : (List aC)) (holds1_f : Nat) (holds1_a holds1_c : List V) (sY : (List aB) → Option Bool) (holds1_h : ∀ a0 r, sY a0 = some r → bU Try.prog holds1_f (holds1_a ++ [(eL aD a0)] ++ holds1_c) (aK r)) (r : Bool) (h0 : sI l0 sY = some r) : bU Try.prog 88 [(eL aE l0), (.fn (.func holds1_f) holds1_a holds1_c)] (aK r) := by
  intro H0
  refine BR aG Try.func88 (by kernel_rfl) (by kernel_rfl) (by kernel_rfl) ?_
  have hO := aP.start H0
  unfold sI at h0
  refine aQ ?_
  refine aU aG 2 ?_
  refine gO 1 (.fn (.func holds1_f) holds1_a holds1_c) (by kernel_rfl) (by kernel_rfl) ?_
  refine nC 1 (aK false) (by kernel_rfl) (by kernel_rfl) hO ?_
  intro lo1 H hO
  refine cH ?_
  refine bS [1] [(3, (.rp (.fn (.func holds1_f) holds1_a holds1_c))), (4, (.lp lo1 0 0))] ?_
  refine aQ ?_
  refine aX aG 3 [] [(11, (aK (decide ((4096 : Int) < (lN l0)))))] ?_
  refine bM h0 (fun h0 => ?_) (fun h0 => ?_)
  · refine aQ ?_
    refine aU aG 1 ?_
    refine jR 0 lo1 1 0 (aK false) (aK false) [(aK false)] [(lo1, 1, [(aK false)])] hO rfl (by kernel_rfl) ?_
    intro H hO
    refine cH ?_
    refine bF [(4, (.lp lo1 0 0))] ?_
    refine bI ?_
    obtain rfl := oI h0
    exact aJ (bA (QM0 (.inr rfl) (rs := [.cell 4 4]) (xs := [(aK false)]) (x := (aK false)) (by kernel_rfl) (wE (lo := lo1) (k := 1) (y := (aK false)) (x := (aK false)) 0 hO (by kernel_rfl) (by kernel_rfl) (by kernel_rfl) (by kernel_rfl) qG) (by kernel_rfl) ⟨rfl, hO.out⟩))
  refine bN ?_
  refine bF [(0, (eL aE l0)), (3, (.rp (.fn (.func holds1_f) holds1_a holds1_c))), (4, (.lp lo1 0 0))] ?_
  refine aQ ?_
  refine aU aG 1 ?_
  refine rB 1 (.sl true 0 (fun _ => .bad)) (eL aL ([])) (by kernel_rfl) (by kernel_rfl) (by kernel_rfl) (gP) (by kernel_rfl) (by kernel_rfl) hO ?_
  intro lo3 H hO
  refine cH ?_
  refine bS [] [(5, (.lp lo3 0 0))] ?_
  refine aQ ?_
  refine aU aG 2 ?_
  refine nC 1 (aK false) (by kernel_rfl) (by kernel_rfl) hO ?_
  intro lo4 H hO
  refine jR 2 lo4 1 0 (aK false) (aK false) [(aK false)] [(lo1, 1, [(aK false)]), (lo3, 1, [(eL aL ([]))]), (lo4, 1, [(aK false)])] hO rfl (by kernel_rfl) ?_
  intro H hO
  refine cH ?_
  refine bS [] [(6, (.lp lo4 0 0))] ?_
  refine aQ ?_
  refine aQ ?_
  refine aU aG 2 ?_
  refine bK 1 ?_
  obtain ⟨x5, hx6, h0⟩ := aW h0
  refine cM (BI l0 _ hx6) hO ?_
  intro H hO
  refine cH ?_
  refine bS [0] [(13, (.fn (.func 131) [] [(.rp (eL aE x5))]))] ?_
  refine bQ 0 ?_
  refine cU [(3, (.rp (.fn (.func holds1_f) holds1_a holds1_c))), (4, (.lp lo1 0 0)), (5, (.lp lo3 0 0)), (6, (.lp lo4 0 0)), (13, (.fn (.func 131) [] [(.rp (eL aE x5))]))] ?_
  refine cO (fun T H => ∃ t4 : Bool, ∃ nU : (List aF), ∃ jA : Bool, ∃ kH : (List aC), Has T [(3, (.rp (.fn (.func holds1_f) holds1_a holds1_c))), (4, (.lp lo1 0 0)), (5, (.lp lo3 0 0)), (6, (.lp lo4 0 0)), (13, (.fn (.func 131) [] [(.rp (eL aE kH))]))] ∧ aP ⟨H0, [], []⟩ H [(lo1, 1, [(aK t4)]), (lo3, 1, [(eL aL nU)]), (lo4, 1, [(aK jA)])] ∧ wK sY t4 nU jA kH = some r) ?_ ⟨false, [], false, x5, .eq (by kernel_rfl), hO, h0⟩
  clear hO h0
  rintro T H ⟨t4, nU, jA, kH, hT, hO, h0⟩
  refine bB (l := [(3, (.rp (.fn (.func holds1_f) holds1_a holds1_c))), (4, (.lp lo1 0 0)), (5, (.lp lo3 0 0)), (6, (.lp lo4 0 0)), (13, (.fn (.func 131) [] [(.rp (eL aE kH))]))]) hT ?_
  clear hT
  unfold wK at h0
  obtain ⟨o0, hl0, h0⟩ := aW h0
  refine AI (fid := 131) (ys := []) (cs := [(.rp (eL aE kH))]) #[14, 15] (fun (A : xY) (b lL : Nat) (st : (Bool × (List aF) × Bool) ⊕ (Bool × (List aF) × Bool)) (G' : Gs) => Sum.elim (fun (s : Bool × (List aF) × Bool) => G' = (lL, .raw (jZ b A .ready none)) :: (up [(lo1, 1, [(aK s.1)]), (lo3, 1, [(eL aL s.2.1)]), (lo4, 1, [(aK s.2.2)])] ++ [])) (fun (s : Bool × (List aF) × Bool) => G' = (lL, .raw (jZ b A .done (some .ret))) :: (up [(lo1, 1, [(aK s.1)]), (lo3, 1, [(eL aL s.2.1)]), (lo4, 1, [(aK s.2.2)])] ++ [])) st) (.inl (t4, nU, jA)) o0 (.tup []) (by kernel_rfl) (by kernel_rfl) (by kernel_rfl) hO (fun _ _ => rfl) ?_ ?_
  · intro b lL
    clear hO h0
    refine wQ _ b (fun st t14 t15 => rnd (fun (s : Bool × (List aF) × Bool) => oV sY kH s.1 s.2.1 s.2.2 t14 t15) st) ?_ kH _ _ hl0
    intro st t14 t15 out1 rr hr
    obtain ⟨s, rfl, h1, rfl⟩ := OD hr
    clear hr
    intro Hr Gr hi hg
    obtain ⟨t4, nU, jA⟩ := s
    dsimp only [Sum.elim_inl] at hi
    obtain rfl := hi
    replace h1 : oV sY kH t4 nU jA t14 t15 = some out1 := h1
    unfold oV at h1
    obtain ⟨E1, hE, hO⟩ := uY hg
    refine uQ (zW (hO.gm 0 _ rfl).2 (by kernel_rfl) (by kernel_rfl) ?_)
    refine cU [(3, (.rp (.fn (.func holds1_f) holds1_a holds1_c))), (4, (.lp lo1 0 0)), (5, (.lp lo3 0 0)), (6, (.lp lo4 0 0)), (13, (.fn (.func 131) [] [(.rp (eL aE kH))])), (14, (eL aL t14)), (15, (eL aD t15))] ?_
    refine aX aG 1 [13, 14] [(7, (eL aL t14))] ?_
    refine aU aG 1 ?_
    refine bC ?_
    refine dP [(3, (.rp (.fn (.func holds1_f) holds1_a holds1_c))), (4, (.lp lo1 0 0)), (5, (.lp lo3 0 0)), (6, (.lp lo4 0 0)), (7, (eL aL t14)), (8, (eL aD t15))] ?_
    refine aJ (⟨rfl, rfl, (hO.gm 0 _ rfl).2, ?_⟩)
    intro o1 ho1
    replace hO := hO.uG o1
    refine bQ 1 ?_
    refine aQ ?_
    refine aQ ?_
    refine aU aG 18 ?_
    refine bK 1 ?_
    obtain ⟨x7, hx8, h1⟩ := aW h1
    refine cM (yO t14 _ hx8) hO ?_
    intro H hO
    refine bK 4 ?_
    refine xH [(19, false)] 2 lo4 1 0 (aK jA) (aK jA) [(aK jA)] (by kernel_rfl) (by kernel_rfl) hO (by kernel_rfl) (!(!x7)) (by kernel_rfl) (fun hb10 => rfl) ?_
    refine bK 6 ?_
    refine xH [(21, true), (19, false)] 1 lo3 1 0 (eL aL nU) (eL aL nU) [(eL aL nU)] (by kernel_rfl) (by kernel_rfl) hO (by kernel_rfl) (jA && (!(!x7))) (by kernel_rfl) (fun hb11 => rfl) ?_
    refine bK 8 ?_
    obtain ⟨x12, hx13, h1⟩ := aW h1
    refine iT [(21, true), (19, false)] 63 [(eL aL nU), (eL aL t14)] (eI x12) (jA && (!(!x7))) (by kernel_rfl) (by kernel_rfl) (by kernel_rfl) (fun hb14 => (DZ nU t14 _ (kI hx13 hb14))) hO ?_
    intro H hO
    refine bK 15 ?_
    obtain ⟨x15, hx16, h1⟩ := aW h1
    refine iT [(28, false)] holds1_f (holds1_a ++ [(eL aD t15)] ++ holds1_c) (aK x15) (!((!x7) || (jA && (decide ((0 : Int) ≤ x12))))) (by kernel_rfl) (by kernel_rfl) (by kernel_rfl) (fun hb17 => (holds1_h t15 _ (kI hx16 hb17))) hO ?_
    intro H hO
    refine bC ?_
    refine bS [3, 8] [(33, (aK (((!x7) || (jA && (decide ((0 : Int) ≤ x12)))) || (!x15))))] ?_
    refine bM h1 (fun h1 => ?_) (fun h1 => ?_)
    · refine aQ ?_
      refine aU aG 1 ?_
      refine jR 0 lo1 1 0 (aK t4) (aK false) [(aK t4)] [(lo1, 1, [(aK false)]), (lo3, 1, [(eL aL nU)]), (lo4, 1, [(aK jA)])] hO rfl (by kernel_rfl) ?_
      intro H hO
      refine cH ?_
      refine bS [7, 33] [] ?_
      refine bI ?_
      refine dP [(4, (.lp lo1 0 0)), (5, (.lp lo3 0 0)), (6, (.lp lo4 0 0))] ?_
      obtain rfl := oI h1
      exact aJ (bA (bX (⟨(fR hO hE ho1 .dead).1, rfl, _, rfl, (fR hO hE ho1 _).2⟩)))
    refine bN ?_
    refine bF [(4, (.lp lo1 0 0)), (5, (.lp lo3 0 0)), (6, (.lp lo4 0 0)), (7, (eL aL t14))] ?_
    refine aU aG 3 ?_
    refine bK 1 ?_
    refine jR 1 lo3 1 0 (eL aL nU) (eL aL t14) [(eL aL nU)] [(lo1, 1, [(aK t4)]), (lo3, 1, [(eL aL t14)]), (lo4, 1, [(aK jA)])] hO rfl (by kernel_rfl) ?_
    intro H hO
    refine jR 2 lo4 1 0 (aK jA) (aK true) [(aK jA)] [(lo1, 1, [(aK t4)]), (lo3, 1, [(eL aL t14)]), (lo4, 1, [(aK true)])] hO rfl (by kernel_rfl) ?_
    intro H hO
    refine cH ?_
    refine dP [(4, (.lp lo1 0 0)), (5, (.lp lo3 0 0)), (6, (.lp lo4 0 0))] ?_
    obtain rfl := oI h1
    exact aJ (aZ (⟨(fR hO hE ho1 .dead).1, rfl, _, rfl, (fR hO hE ho1 _).2⟩))
  · intro b lD19 lL H' G' hi hO
    rcases o0 with s | s
    · dsimp only [Sum.elim_inl] at hi
      obtain rfl := hi
      replace h0 : (some true) = some r := h0
      obtain ⟨hlL, hO⟩ := pN hO
      refine ⟨_, _, hlL, (by intro e; cases e), ?_⟩
      refine dP [(4, (.lp lo1 0 0))] ?_
      replace hO := hO.pick (L' := [(lo1, 1, [(aK s.1)])]) [0] (by decide) (by kernel_rfl)
      refine aJ (aZ (aI (?_)))
      refine aQ ?_
      refine aU aG 1 ?_
      refine jR 0 lo1 1 0 (aK s.1) (aK true) [(aK s.1)] [(lo1, 1, [(aK true)])] hO rfl (by kernel_rfl) ?_
      intro H hO
      refine cH ?_
      refine bF [(4, (.lp lo1 0 0))] ?_
      refine bI ?_
      obtain rfl := oI h0
      have hD := (hO.gm 0 _ rfl).2
      replace hO := (hO.uG .dead).tX
      exact aJ (QM1 (.inr rfl) hD (rs := [.cell 4 4]) (xs := [(aK true)]) (x := (aK true)) (by kernel_rfl) (wE (lo := lo1) (k := 1) (y := (aK true)) (x := (aK true)) 0 hO (by kernel_rfl) (by kernel_rfl) (by kernel_rfl) (by kernel_rfl) qG) (by kernel_rfl) ⟨rfl, hO.out⟩)
    · dsimp only [Sum.elim_inr] at hi
      obtain rfl := hi
      replace h0 : (some s.1) = some r := h0
      obtain ⟨hlL, hO⟩ := pN hO
      refine ⟨_, _, hlL, (by intro e; cases e), ?_⟩
      refine bI ?_
      replace hO := hO.pick (L' := [(lo1, 1, [(aK s.1)])]) [0] (by decide) (by kernel_rfl)
      obtain rfl := oI h0
      have hD := (hO.gm 0 _ rfl).2
      replace hO := (hO.uG .dead).tX
      exact aJ (bX (bA (QM1 (.inr rfl) hD (rs := [.cell 4 4]) (xs := [(aK s.1)]) (x := (aK s.1)) (by kernel_rfl) (wE (lo := lo1) (k := 1) (y := (aK s.1)) (x := (aK s.1)) 0 hO (by kernel_rfl) (by kernel_rfl) (by kernel_rfl) (by kernel_rfl) qG) (by kernel_rfl) ⟨rfl, hO.out⟩)))

theorem JZ (l0 : (List aC)) (r : Bool) (h0 : uA l0 = some r) : bU Try.prog 49 [(eL aE l0)] (aK r) := by
  intro H0
  refine cI Try.func49 ?_
  have hO := aP.start H0
  unfold uA at h0
  refine aX aG 1 [] [] ?_
  refine aQ ?_
  refine aU aG 3 ?_
  refine bK 1 ?_
  obtain ⟨x1, hx2, h0⟩ := aW h0
  refine cM (HH l0 68 [] [] (fun y0 => nT y0) (fun y0 r h => zH y0 r h) _ hx2) hO ?_
  intro H hO
  refine bC ?_
  refine bF [(2, (aK x1))] ?_
  refine bI ?_
  obtain rfl := oI h0
  exact aJ (Q_r hO)

theorem PN (f0 : (List aB)) (r : Int) (h0 : tI f0 = some r) : bU Try.prog 69 [(eL aD f0)] (eI r) := by
  intro H0
  refine cI Try.func69 ?_
  have hO := aP.start H0
  unfold tI at h0
  refine aX aG 1 [] [] ?_
  refine aQ ?_
  refine aQ ?_
  refine aU aG 8 ?_
  refine bK 1 ?_
  obtain ⟨x1, hx2, h0⟩ := aW h0
  refine cM (zH f0 _ hx2) hO ?_
  intro H hO
  refine bC ?_
  refine bS [] [(14, (aK ((!x1) || (decide ((lN f0) = (0 : Int))))))] ?_
  refine bM h0 (fun h0 => ?_) (fun h0 => ?_)
  · refine bY aG 1 [(2, (eI (0 : Int)))] ?_
    refine bI ?_
    obtain rfl := oI h0
    exact aJ (bA (Q_r hO))
  refine bN ?_
  refine bF [(0, (eL aD f0))] ?_
  refine aX aG 2 [] [(3, (eI (0 : Int))), (4, (eI (0 : Int)))] ?_
  refine dO (fun T H => ∃ v3 : Int, ∃ fC : Int, Has T [(0, (eL aD f0)), (3, (eI v3)), (4, (eI fC))] ∧ aP ⟨H0, [], []⟩ H [] ∧ pI f0 v3 fC = some r) ?_ ?_
  · clear hO h0
    rintro T H ⟨v3, fC, hT, hO, h0⟩
    refine bB hT ?_
    clear hT
    unfold pI at h0
    refine dO (fun T H => ∃ fC : Int, Has T [(4, (eI fC))] ∧ aP ⟨H0, [], []⟩ H [] ∧ rX fC = some r) ?_ ?_
    · clear hO h0
      rintro T H ⟨fC, hT, hO, h0⟩
      refine bB hT ?_
      clear hT
      unfold rX at h0
      refine bY aG 2 [(2, (eI fC))] ?_
      refine bI ?_
      obtain rfl := oI h0
      exact aJ (Q_r hO)
    refine aX aG 3 [0] [(24, (eL aD f0)), (25, (eI (lN f0))), (26, (eI (0 : Int)))] ?_
    refine bQ 0 ?_
    refine cU [(3, (eI v3)), (4, (eI fC)), (24, (eL aD f0)), (25, (eI (lN f0))), (26, (eI (0 : Int)))] ?_
    refine cO (fun T H => ∃ v3 : Int, ∃ fC : Int, ∃ t24 : (List aB), ∃ t25 : Int, ∃ t26 : Int, Has T [(3, (eI v3)), (4, (eI fC)), (24, (eL aD t24)), (25, (eI t25)), (26, (eI t26))] ∧ aP ⟨H0, [], []⟩ H [] ∧ rT v3 fC t24 t25 t26 = some r) ?_ ⟨v3, fC, f0, (lN f0), (0 : Int), .eq (by kernel_rfl), hO, h0⟩
    clear hO h0
    rintro T H ⟨v3, fC, t24, t25, t26, hT, hO, h0⟩
    refine bB hT ?_
    clear hT
    unfold rT at h0
    obtain ⟨rr0, hl0, h0⟩ := aW h0
    refine cF (by kernel_rfl) (fun (s : Int × Int × Int) T H => Has T [(3, (eI s.1)), (4, (eI s.2.1)), (24, (eL aD t24)), (25, (eI t25)), (26, (eI s.2.2))] ∧ aP ⟨H0, [], []⟩ H []) hl0 ⟨.eq (by kernel_rfl), hO⟩ ?_
    clear hO
    rintro k0 s out1 T H ⟨hT, hO⟩ h1 ho0
    obtain ⟨v3, fC, t26⟩ := s
    replace h1 : mM t24 t25 v3 fC t26 = some out1 := h1
    try dsimp only at hT
    refine bB hT ?_
    clear hT
    unfold mM at h1
    refine aX aG 1 [] [(27, (aK (decide (t26 < t25))))] ?_
    refine aQ ?_
    refine bM h1 (fun h1 => ?_) (fun h1 => ?_)
    · refine bN ?_
      refine bF [(3, (eI v3)), (4, (eI fC)), (24, (eL aD t24)), (25, (eI t25)), (26, (eI t26))] ?_
      refine aQ ?_
      refine bQ 1 ?_
      refine aQ ?_
      refine aU aG 4 ?_
      obtain ⟨c6, h1⟩ := bL h1
      refine sL 2 [0 ≤ t26 ∧ t26 < (lN t24)] ⟨c6, trivial⟩ ?_
      refine nC 2 (aD (aB.mk 0 0)) (by kernel_rfl) (by kernel_rfl) hO ?_
      intro lo7 H hO
      refine jR 0 lo7 2 0 (aD (aB.mk 0 0)) (aD (gD t24 t26)) [(aD (aB.mk 0 0))] [(lo7, 2, [(aD (gD t24 t26))])] hO rfl (by kernel_rfl) ?_
      intro H hO
      refine cH ?_
      refine bS [] [(6, (.lp lo7 0 0))] ?_
      refine aQ ?_
      refine aU aG 5 ?_
      refine bK 2 ?_
      refine lJ 0 lo7 2 0 (aD (gD t24 t26)) (eI ((gD t24 t26).Net)) [(aD (gD t24 t26))] hO rfl ?_
      refine bC ?_
      replace hO := hO.pick (L' := []) [] (by decide) (by kernel_rfl)
      refine bS [3, 6] [(3, (eI (wR (v3 + ((gD t24 t26).Net)))))] ?_
      refine aU aG 4 ?_
      refine bC ?_
      refine dP [(3, (eI (wR (v3 + ((gD t24 t26).Net))))), (4, (eI (if (wR (v3 + ((gD t24 t26).Net))) < fC then (wR (v3 + ((gD t24 t26).Net))) else fC))), (24, (eL aD t24)), (25, (eI t25)), (26, (eI t26))] ?_
      refine aJ (aZ (aI (?_)))
      refine aU aG 2 ?_
      refine bC ?_
      exact aJ (aI (⟨rfl, _, (oI h1).symm, .eq (by kernel_rfl), hO⟩))
    refine eB 0 ?_
    obtain rfl := oI h1
    obtain rfl : _ = rr0 := ho0
    replace h0 : rX fC = some r := h0
    exact aJ (aY (aY (bP (aI (⟨rfl, _, .eq (by kernel_rfl), hO, h0⟩)))))
  refine aQ ?_
  refine aU aG 5 ?_
  obtain ⟨c8, h0⟩ := bL h0
  refine yR [0 ≤ (0 : Int) ∧ (0 : Int) < (lN f0)] ⟨c8, trivial⟩ ?_
  refine bS [] [(19, (aK (decide (((gD f0 (0 : Int)).At) = (-1 : Int)))))] ?_
  refine bM h0 (fun h0 => ?_) (fun h0 => ?_)
  · refine aU aG 5 ?_
    obtain ⟨c10, h0⟩ := bL h0
    refine yR [0 ≤ (0 : Int) ∧ (0 : Int) < (lN f0)] ⟨c10, trivial⟩ ?_
    exact aJ (aI (⟨rfl, _, _, .eq (by kernel_rfl), hO, h0⟩))
  refine bN ?_
  exact aJ (aI (⟨rfl, _, _, .eq (by kernel_rfl), hO, h0⟩))

theorem KN (f0 : (List aB)) (r : Bool) (h0 : qF f0 = some r) : bU Try.prog 119 [(eL aD f0)] (aK r) := by
  intro H0
  refine cI Try.func119 ?_
  have hO := aP.start H0
  unfold qF at h0
  refine aX aG 1 [] [] ?_
  refine aQ ?_
  refine aU aG 8 ?_
  refine bK 1 ?_
  obtain ⟨x1, hx2, h0⟩ := aW h0
  refine cM (zH f0 _ hx2) hO ?_
  intro H hO
  refine bK 4 ?_
  obtain ⟨x4, hx5, h0⟩ := aW h0
  refine iT [(5, true)] 69 [(eL aD f0)] (eI x4) x1 (by kernel_rfl) (by kernel_rfl) (by kernel_rfl) (fun hb6 => (PN f0 _ (kI hx5 hb6))) hO ?_
  intro H hO
  refine bC ?_
  refine bF [(2, (aK (x1 && (decide ((0 : Int) ≤ x4)))))] ?_
  refine bI ?_
  obtain rfl := oI h0
  exact aJ (Q_r hO)

theorem OY (l0 : (List aC)) (r : Bool) (h0 : tB l0 = some r) : bU Try.prog 86 [(eL aE l0)] (aK r) := by
  intro H0
  refine cI Try.func86 ?_
  have hO := aP.start H0
  unfold tB at h0
  refine aX aG 1 [] [] ?_
  refine aQ ?_
  refine aU aG 3 ?_
  refine bK 1 ?_
  obtain ⟨x1, hx2, h0⟩ := aW h0
  refine cM (HH l0 119 [] [] (fun y0 => qF y0) (fun y0 r h => KN y0 r h) _ hx2) hO ?_
  intro H hO
  refine bC ?_
  refine bF [(2, (aK x1))] ?_
  refine bI ?_
  obtain rfl := oI h0
  exact aJ (Q_r hO)

theorem DX (l0 : (List aC)) (r : (List aC)) (h0 : pK l0 = some r) : bU Try.prog 77 [(eL aE l0)] (.fn (.func 117) [] [(.rp (eL aE r))]) := by
  intro H0
  refine cI Try.func77 ?_
  have hO := aP.start H0
  unfold pK at h0
  refine aQ ?_
  refine aU aG 2 ?_
  refine gO 1 (eL aE l0) (by kernel_rfl) (by kernel_rfl) ?_
  refine bC ?_
  refine bF [(1, (.rp (eL aE l0)))] ?_
  refine bY aG 2 [(2, (.fn (.func 117) [] [(.rp (eL aE l0))]))] ?_
  refine bI ?_
  obtain rfl := oI h0
  exact aJ (pO (x := (.fn (.func 117) [] [(.rp (eL aE l0))])) (by kernel_rfl) (aV.refl _) ⟨rfl, hO.out⟩)

theorem yW {σ : Type} (I : σ → Gs → Prop) (yield0_b : Nat) (eF : σ → (List aF) → (List aB) → Option (σ × Bool)) (yield0_h : ∀ st a0 a1 st2 r, eF st a0 a1 = some (st2, r) → GI Try.prog (yv yield0_b) I st [(eL aL a0), (eL aD a1)] st2 (aK r)) (t1 : (List aC)) (sg0 : σ) (r : σ) (h0 : mH eF t1 sg0 = some r) : zF Try.prog 117 I sg0 [(yv yield0_b), (.rp (eL aE t1))] r (.tup []) := by
  intro H0 G0 hI hg
  refine BR aG Try.func117 (by kernel_rfl) (by kernel_rfl) (by kernel_rfl) ?_
  obtain ⟨G, hO, hI⟩ : ∃ G, aP ⟨H0, List.map (fun p : Nat × cT => p.1) G0, G⟩ H0 [] ∧ I sg0 G := ⟨G0, aP.IT hg, hI⟩
  clear hg
  unfold mH at h0
  refine aQ ?_
  refine aU aG 1 ?_
  refine gO 1 (yv yield0_b) (by kernel_rfl) (by kernel_rfl) ?_
  refine cH ?_
  refine bS [0] [(2, (.rp (yv yield0_b)))] ?_
  refine aQ ?_
  refine aQ ?_
  refine aU aG 3 ?_
  refine bK 1 ?_
  obtain ⟨x1, hx2, h0⟩ := aW h0
  refine cM (JZ t1 _ hx2) hO ?_
  intro H hO
  refine bC ?_
  refine bS [] [(7, (aK (!x1)))] ?_
  refine bM h0 (fun h0 => ?_) (fun h0 => ?_)
  · refine bI ?_
    obtain rfl := oI h0
    exact aJ (bA (QM0 (.inr rfl) (rs := []) (xs := []) (x := (.tup [])) (by kernel_rfl) qG (by kernel_rfl) ⟨rfl, G, hI, hO.FL⟩))
  refine bN ?_
  refine bF [(1, (.rp (eL aE t1))), (2, (.rp (yv yield0_b)))] ?_
  refine aQ ?_
  refine aU aG 2 ?_
  refine bK 1 ?_
  obtain ⟨x5, hx6, h0⟩ := aW h0
  refine cM (BI t1 _ hx6) hO ?_
  intro H hO
  refine cH ?_
  refine bS [1] [(9, (.fn (.func 131) [] [(.rp (eL aE x5))]))] ?_
  refine bQ 0 ?_
  refine cU [(2, (.rp (yv yield0_b))), (9, (.fn (.func 131) [] [(.rp (eL aE x5))]))] ?_
  refine cO (fun T H => ∃ sg : σ, ∃ t9c0 : (List aC), ∃ G : Gs, Has T [(2, (.rp (yv yield0_b))), (9, (.fn (.func 131) [] [(.rp (eL aE t9c0))]))] ∧ aP ⟨H0, List.map (fun p : Nat × cT => p.1) G0, G⟩ H [] ∧ I sg G ∧ pQ eF sg t9c0 = some r) ?_ ⟨sg0, x5, G, .eq (by kernel_rfl), hO, hI, h0⟩
  clear hO hI h0
  rintro T H ⟨sg, t9c0, G, hT, hO, hI, h0⟩
  refine bB (l := [(2, (.rp (yv yield0_b))), (9, (.fn (.func 131) [] [(.rp (eL aE t9c0))]))]) hT ?_
  clear hT
  unfold pQ at h0
  obtain ⟨o0, hl0, h0⟩ := aW h0
  refine AI (fid := 131) (ys := []) (cs := [(.rp (eL aE t9c0))]) #[10, 11] (fun (A : xY) (b lL : Nat) (st : (σ) ⊕ (σ)) (G' : Gs) => Sum.elim (fun (s : σ) => ∃ G : Gs, I s G ∧ G' = (lL, .raw (jZ b A .ready none)) :: (up [] ++ G)) (fun (s : σ) => ∃ G : Gs, I s G ∧ G' = (lL, .raw (jZ b A .done (some .ret))) :: (up [] ++ G)) st) (.inl sg) o0 (.tup []) (by kernel_rfl) (by kernel_rfl) (by kernel_rfl) hO (fun _ _ => ⟨G, hI, rfl⟩) ?_ ?_
  · intro b lL
    clear hO hI h0
    refine wQ _ b (fun st t10 t11 => rnd (fun (s : σ) => jF eF t9c0 s t10 t11) st) ?_ t9c0 _ _ hl0
    intro st t10 t11 out1 rr hr
    obtain ⟨s, rfl, h1, rfl⟩ := OD hr
    clear hr
    intro Hr Gr hi hg
    obtain ⟨sg, rfl⟩ : ∃ x, x = s := ⟨_, rfl⟩
    dsimp only [Sum.elim_inl] at hi
    obtain ⟨G, hI, rfl⟩ := hi
    replace h1 : jF eF t9c0 sg t10 t11 = some out1 := h1
    unfold jF at h1
    obtain ⟨E1, hE, hO⟩ := uY hg
    refine uQ (zW (hO.gm 0 _ rfl).2 (by kernel_rfl) (by kernel_rfl) ?_)
    refine cU [(2, (.rp (yv yield0_b))), (9, (.fn (.func 131) [] [(.rp (eL aE t9c0))])), (10, (eL aL t10)), (11, (eL aD t11))] ?_
    refine aX aG 1 [9, 10] [(3, (eL aL t10))] ?_
    refine aU aG 1 ?_
    refine bC ?_
    refine dP [(2, (.rp (yv yield0_b))), (3, (eL aL t10)), (4, (eL aD t11))] ?_
    refine aJ (⟨rfl, rfl, (hO.gm 0 _ rfl).2, ?_⟩)
    intro o1 ho1
    replace hO := hO.uG o1
    refine bQ 1 ?_
    refine aQ ?_
    refine aU aG 5 ?_
    refine bK 3 ?_
    obtain ⟨x7, hx8, h1⟩ := aW h1
    refine ZX (I := I) (yv yield0_b) [(eL aL t10), (eL aD t11)] (aK x7.2) (by kernel_rfl) (by kernel_rfl) (yield0_h _ t10 t11 x7.1 x7.2 hx8) hO hI ?_
    intro G H hO hI
    refine bC ?_
    refine bF [(16, (aK (!x7.2)))] ?_
    refine bM h1 (fun h1 => ?_) (fun h1 => ?_)
    · refine bI ?_
      refine dP [] ?_
      obtain rfl := oI h1
      exact aJ (bX (⟨(fR hO hE ho1 .dead).1, rfl, _, ⟨G, hI, rfl⟩, (fR hO hE ho1 _).2⟩))
    refine bN ?_
    refine dP [] ?_
    obtain rfl := oI h1
    exact aJ (aZ (⟨(fR hO hE ho1 .dead).1, rfl, _, ⟨G, hI, rfl⟩, (fR hO hE ho1 _).2⟩))
  · intro b lD10 lL H' G' hi hO
    rcases o0 with s | s
    · dsimp only [Sum.elim_inl] at hi
      obtain ⟨G, hI, rfl⟩ := hi
      replace h0 : (some s) = some r := h0
      obtain ⟨hlL, hO⟩ := pN hO
      refine ⟨_, _, hlL, (by intro e; cases e), ?_⟩
      obtain rfl := oI h0
      have hD := (hO.gm 0 _ rfl).2
      replace hO := (hO.uG .dead).tX
      exact aJ (aZ (QM1 (.inl rfl) hD (rs := []) (xs := []) (x := (.tup [])) (by kernel_rfl) qG (by kernel_rfl) ⟨rfl, G, hI, hO.FL⟩))
    · dsimp only [Sum.elim_inr] at hi
      obtain ⟨G, hI, rfl⟩ := hi
      replace h0 : (some s) = some r := h0
      obtain ⟨hlL, hO⟩ := pN hO
      refine ⟨_, _, hlL, (by intro e; cases e), ?_⟩
      refine bI ?_
      obtain rfl := oI h0
      have hD := (hO.gm 0 _ rfl).2
      replace hO := (hO.uG .dead).tX
      exact aJ (bX (QM1 (.inr rfl) hD (rs := []) (xs := []) (x := (.tup [])) (by kernel_rfl) qG (by kernel_rfl) ⟨rfl, G, hI, hO.FL⟩))

theorem GX (f0 : (List aB)) (r : Int) (h0 : pX f0 = some r) : bU Try.prog 70 [(eL aD f0)] (eI r) := by
  intro H0
  refine cI Try.func70 ?_
  have hO := aP.start H0
  unfold pX at h0
  refine aX aG 1 [] [] ?_
  refine aX aG 1 [] [(3, (eI (0 : Int)))] ?_
  refine dO (fun T H => ∃ n3 : Int, Has T [(3, (eI n3))] ∧ aP ⟨H0, [], []⟩ H [] ∧ tK n3 = some r) ?_ ?_
  · clear hO h0
    rintro T H ⟨n3, hT, hO, h0⟩
    refine bB hT ?_
    clear hT
    unfold tK at h0
    refine bY aG 2 [(2, (eI n3))] ?_
    refine bI ?_
    obtain rfl := oI h0
    exact aJ (Q_r hO)
  refine aX aG 3 [0] [(6, (eL aD f0)), (7, (eI (lN f0))), (8, (eI (0 : Int)))] ?_
  refine bQ 0 ?_
  refine cU [(3, (eI (0 : Int))), (6, (eL aD f0)), (7, (eI (lN f0))), (8, (eI (0 : Int)))] ?_
  refine cO (fun T H => ∃ n3 : Int, ∃ t6 : (List aB), ∃ t7 : Int, ∃ t8 : Int, Has T [(3, (eI n3)), (6, (eL aD t6)), (7, (eI t7)), (8, (eI t8))] ∧ aP ⟨H0, [], []⟩ H [] ∧ xC n3 t6 t7 t8 = some r) ?_ ⟨(0 : Int), f0, (lN f0), (0 : Int), .eq (by kernel_rfl), hO, h0⟩
  clear hO h0
  rintro T H ⟨n3, t6, t7, t8, hT, hO, h0⟩
  refine bB hT ?_
  clear hT
  unfold xC at h0
  obtain ⟨rr0, hl0, h0⟩ := aW h0
  refine cF (by kernel_rfl) (fun (s : Int × Int) T H => Has T [(3, (eI s.1)), (6, (eL aD t6)), (7, (eI t7)), (8, (eI s.2))] ∧ aP ⟨H0, [], []⟩ H []) hl0 ⟨.eq (by kernel_rfl), hO⟩ ?_
  clear hO
  rintro k0 s out1 T H ⟨hT, hO⟩ h1 ho0
  obtain ⟨n3, t8⟩ := s
  replace h1 : nJ t6 t7 n3 t8 = some out1 := h1
  try dsimp only at hT
  refine bB hT ?_
  clear hT
  unfold nJ at h1
  refine aX aG 1 [] [(9, (aK (decide (t8 < t7))))] ?_
  refine aQ ?_
  refine bM h1 (fun h1 => ?_) (fun h1 => ?_)
  · refine bN ?_
    refine bF [(3, (eI n3)), (6, (eL aD t6)), (7, (eI t7)), (8, (eI t8))] ?_
    refine aQ ?_
    refine bQ 1 ?_
    refine aQ ?_
    refine aU aG 4 ?_
    obtain ⟨c2, h1⟩ := bL h1
    refine sL 2 [0 ≤ t8 ∧ t8 < (lN t6)] ⟨c2, trivial⟩ ?_
    refine nC 2 (aD (aB.mk 0 0)) (by kernel_rfl) (by kernel_rfl) hO ?_
    intro lo3 H hO
    refine jR 0 lo3 2 0 (aD (aB.mk 0 0)) (aD (gD t6 t8)) [(aD (aB.mk 0 0))] [(lo3, 2, [(aD (gD t6 t8))])] hO rfl (by kernel_rfl) ?_
    intro H hO
    refine cH ?_
    refine bS [] [(5, (.lp lo3 0 0))] ?_
    refine aU aG 6 ?_
    refine bK 2 ?_
    refine lJ 0 lo3 2 0 (aD (gD t6 t8)) (eI ((gD t6 t8).Net)) [(aD (gD t6 t8))] hO rfl ?_
    refine bC ?_
    refine dP [(3, (eI (wR (n3 + (if (0 : Int) > ((gD t6 t8).Net) then (0 : Int) else ((gD t6 t8).Net)))))), (6, (eL aD t6)), (7, (eI t7)), (8, (eI t8))] ?_
    replace hO := hO.pick (L' := []) [] (by decide) (by kernel_rfl)
    refine aJ (aZ (aI (?_)))
    refine aU aG 2 ?_
    refine bC ?_
    exact aJ (aI (⟨rfl, _, (oI h1).symm, .eq (by kernel_rfl), hO⟩))
  refine eB 0 ?_
  obtain rfl := oI h1
  obtain rfl : _ = rr0 := ho0
  replace h0 : tK n3 = some r := h0
  exact aJ (aY (aY (bP (aI (⟨rfl, _, .eq (by kernel_rfl), hO, h0⟩)))))

theorem yN (t0 : Int) (lo1p : Nat) (lo1q : Nat) (t1 : (List aS)) (lo2p : Nat) (t2 : Int) (r : ((List aS) × Int)) (h0 : lP t0 t1 t2 = some r) : KK Try.prog 115 [(eI t0), (.lp lo1p 0 0), (.lp lo2p 0 0)] [(lo1p, 1, [(.msl 2 lo1q 0 (List.length t1))]), (lo1q, 2, List.map bH t1), (lo2p, 1, [(eI t2)])] (fun x L => ∃ lo1n : Nat, x = (.tup []) ∧ L = [(lo1p, 1, [(.msl 2 lo1n 0 (List.length r.1))]), (lo1n, 2, List.map bH r.1), (lo2p, 1, [(eI r.2)])]) := by
  intro F H0 hO
  obtain ⟨Fh, Fe, Fg⟩ := F
  refine cI Try.func115 ?_
  unfold lP at h0
  refine aQ ?_
  refine aU aG 6 ?_
  refine lJ 0 lo1p 1 0 (.msl 2 lo1q 0 (List.length t1)) (.msl 2 lo1q 0 (List.length t1)) [(.msl 2 lo1q 0 (List.length t1))] hO rfl ?_
  refine lJ 2 lo2p 1 0 (eI t2) (eI t2) [(eI t2)] hO rfl ?_
  obtain ⟨c1, h0⟩ := bL h0
  refine sL 5 [0 ≤ t2 ∧ t2 < (lN t1)] ⟨c1, trivial⟩ ?_
  refine jR 1 lo1q 2 (0 + Int.toNat t2) (bH (gD t1 t2)) (bH (aS.mk (gD t1 t2).From t0)) (List.map bH t1) [(lo1p, 1, [(.msl 2 lo1q 0 (List.length t1))]), (lo1q, 2, List.map bH (List.set t1 (Int.toNat t2) (aS.mk (gD t1 t2).From t0))), (lo2p, 1, [(eI t2)])] hO (cN c1) (by simp only [List.set, nH]) ?_
  intro H hO
  refine cH ?_
  replace hO : aP ⟨Fh, Fe, Fg⟩ H [(lo1p, 1, [(.msl 2 lo1q 0 (List.length (List.set t1 (Int.toNat t2) (aS.mk (gD t1 t2).From t0))))]), (lo1q, 2, List.map bH (List.set t1 (Int.toNat t2) (aS.mk (gD t1 t2).From t0))), (lo2p, 1, [(eI t2)])] := by simpa only [List.length_set] using hO
  refine bS [0] [] ?_
  refine aU aG 3 ?_
  refine lJ 2 lo2p 1 0 (eI t2) (eI t2) [(eI t2)] hO rfl ?_
  refine bK 2 ?_
  refine jR 2 lo2p 1 0 (eI t2) (eI (wR (t2 + (1 : Int)))) [(eI t2)] [(lo1p, 1, [(.msl 2 lo1q 0 (List.length (List.set t1 (Int.toNat t2) (aS.mk (gD t1 t2).From t0))))]), (lo1q, 2, List.map bH (List.set t1 (Int.toNat t2) (aS.mk (gD t1 t2).From t0))), (lo2p, 1, [(eI (wR (t2 + (1 : Int))))])] hO rfl (by kernel_rfl) ?_
  intro H hO
  refine cH ?_
  obtain rfl := oI h0
  exact aJ (aBO hO ⟨lo1q, rfl, rfl⟩)

theorem QO (f0 : (List aB)) (r : (List aS)) (h0 : sV f0 = some r) : bU Try.prog 71 [(eL aD f0)] (eL bH r) := by
  intro H0
  refine cI Try.func71 ?_
  have hO := aP.start H0
  unfold sV at h0
  refine aX aG 1 [] [] ?_
  refine aQ ?_
  refine aU aG 5 ?_
  refine bK 1 ?_
  obtain ⟨x1, hx2, h0⟩ := aW h0
  refine cM (GX f0 _ hx2) hO ?_
  intro H hO
  obtain ⟨c4, h0⟩ := bL h0
  refine GF 2 16 x1 (by kernel_rfl) (by kernel_rfl) c4 hO ?_
  intro lo5 H hO
  refine rB 1 (.sl true 0 (fun _ => .bad)) (eL bH ([])) (by kernel_rfl) (by kernel_rfl) (by kernel_rfl) (gP) (by kernel_rfl) (by kernel_rfl) hO ?_
  intro lo6 H hO
  refine jR 1 lo6 1 0 (eL bH ([])) (.msl 2 lo5 0 (List.length ([] : List aS))) [(eL bH ([]))] [(lo5, 2, List.map bH ([] : List aS)), (lo6, 1, [(.msl 2 lo5 0 (List.length ([] : List aS)))])] hO rfl (by kernel_rfl) ?_
  intro H hO
  refine cH ?_
  replace hO := hO.pick (L' := [(lo6, 1, [(.msl 2 lo5 0 (List.length ([] : List aS)))]), (lo5, 2, List.map bH ([] : List aS))]) [1, 0] (by decide) (by kernel_rfl)
  refine bS [] [(3, (.lp lo6 0 0))] ?_
  refine aQ ?_
  refine aU aG 2 ?_
  refine nC 1 (eI 0) (by kernel_rfl) (by kernel_rfl) hO ?_
  intro lo7 H hO
  refine jR 2 lo7 1 0 (eI 0) (eI (0 : Int)) [(eI 0)] [(lo6, 1, [(.msl 2 lo5 0 (List.length ([] : List aS)))]), (lo5, 2, List.map bH ([] : List aS)), (lo7, 1, [(eI (0 : Int))])] hO rfl (by kernel_rfl) ?_
  intro H hO
  refine cH ?_
  refine bS [] [(4, (.lp lo7 0 0))] ?_
  refine aX aG 2 [] [(5, (.fn (.func 115) [] [(.lp lo6 0 0), (.lp lo7 0 0)]))] ?_
  refine dO (fun T H => ∃ out3 : List aS, ∃ bZ : Int, ∃ lo8 : Nat, Has T [(3, (.lp lo6 0 0)), (4, (.lp lo7 0 0)), (5, (.fn (.func 115) [] [(.lp lo6 0 0), (.lp lo7 0 0)]))] ∧ aP ⟨H0, [], []⟩ H [(lo6, 1, [(.msl 2 lo8 0 (List.length out3))]), (lo8, 2, List.map bH out3), (lo7, 1, [(eI bZ)])] ∧ rS out3 bZ = some r) ?_ ?_
  · clear hO h0
    rintro T H ⟨out3, bZ, lo8, hT, hO, h0⟩
    refine bB hT ?_
    clear hT
    unfold rS at h0
    refine dO (fun T H => ∃ out3 : List aS, ∃ lo9 : Nat, Has T [(3, (.lp lo6 0 0))] ∧ aP ⟨H0, [], []⟩ H [(lo6, 1, [(.msl 2 lo9 0 (List.length out3))]), (lo9, 2, List.map bH out3)] ∧ vD out3 = some r) ?_ ?_
    · clear hO h0
      rintro T H ⟨out3, lo9, hT, hO, h0⟩
      refine bB hT ?_
      clear hT
      unfold vD at h0
      refine aQ ?_
      refine aU aG 2 ?_
      refine lJ 0 lo6 1 0 (.msl 2 lo9 0 (List.length out3)) (.msl 2 lo9 0 (List.length out3)) [(.msl 2 lo9 0 (List.length out3))] hO rfl ?_
      refine bC ?_
      refine dP [(2, (.msl 2 lo9 0 (List.length out3)))] ?_
      replace hO := hO.pick (L' := [(lo9, 2, List.map bH out3)]) [1] (by decide) (by kernel_rfl)
      refine aJ (aI (?_))
      refine bI ?_
      refine dP [(2, (.msl 2 lo9 0 (List.length out3)))] ?_
      refine FI (en := bH) out3 0 0 2 2 lo9 (List.length out3) hO (by kernel_rfl) (by kernel_rfl) (by kernel_rfl) (L' := []) (by kernel_rfl) ?_
      intro H10 hO
      obtain rfl := oI h0
      exact aJ (Q_r hO)
    refine bQ 6 ?_
    refine cU [(3, (.lp lo6 0 0)), (4, (.lp lo7 0 0)), (5, (.fn (.func 115) [] [(.lp lo6 0 0), (.lp lo7 0 0)]))] ?_
    refine cO (fun T H => ∃ out3 : List aS, ∃ bZ : Int, ∃ lo12 : Nat, Has T [(3, (.lp lo6 0 0)), (4, (.lp lo7 0 0)), (5, (.fn (.func 115) [] [(.lp lo6 0 0), (.lp lo7 0 0)]))] ∧ aP ⟨H0, [], []⟩ H [(lo6, 1, [(.msl 2 lo12 0 (List.length out3))]), (lo12, 2, List.map bH out3), (lo7, 1, [(eI bZ)])] ∧ vP out3 bZ = some r) ?_ ⟨out3, bZ, lo8, .eq (by kernel_rfl), hO, h0⟩
    clear hO h0
    rintro T H ⟨out3, bZ, lo12, hT, hO, h0⟩
    refine bB hT ?_
    clear hT
    unfold vP at h0
    obtain ⟨rr0, hl0, h0⟩ := aW h0
    refine cF (by kernel_rfl) (fun (s : List aS × Int) T H => ∃ lo12 : Nat, Has T [(3, (.lp lo6 0 0)), (4, (.lp lo7 0 0)), (5, (.fn (.func 115) [] [(.lp lo6 0 0), (.lp lo7 0 0)]))] ∧ aP ⟨H0, [], []⟩ H [(lo6, 1, [(.msl 2 lo12 0 (List.length s.1))]), (lo12, 2, List.map bH s.1), (lo7, 1, [(eI s.2)])]) hl0 ⟨lo12, .eq (by kernel_rfl), hO⟩ ?_
    clear hO
    rintro k0 s out1 T H ⟨lo12, hT, hO⟩ h1 ho0
    obtain ⟨out3, bZ⟩ := s
    replace h1 : lF out3 bZ = some out1 := h1
    try dsimp only at hT
    refine bB hT ?_
    clear hT
    unfold lF at h1
    refine aQ ?_
    refine aQ ?_
    refine aU aG 4 ?_
    refine lJ 2 lo7 1 0 (eI bZ) (eI bZ) [(eI bZ)] hO rfl ?_
    refine lJ 0 lo6 1 0 (.msl 2 lo12 0 (List.length out3)) (.msl 2 lo12 0 (List.length out3)) [(.msl 2 lo12 0 (List.length out3))] hO rfl ?_
    refine bC ?_
    refine bS [] [(43, (aK (decide (bZ < (lN out3)))))] ?_
    refine bM h1 (fun h1 => ?_) (fun h1 => ?_)
    · refine bN ?_
      refine bF [(3, (.lp lo6 0 0)), (4, (.lp lo7 0 0)), (5, (.fn (.func 115) [] [(.lp lo6 0 0), (.lp lo7 0 0)]))] ?_
      refine bQ 7 ?_
      refine aU aG 2 ?_
      refine bK 1 ?_
      obtain ⟨x14, hx15, h1⟩ := aW h1
      refine aBd [] [0, 1, 2] (yN (1125899906842624 : Int) lo6 lo12 out3 lo7 bZ _ hx15) hO ?_
      intro r17 L18 H hP19 hO
      obtain ⟨lo16, rfl, rfl⟩ := hP19
      replace hO : aP ⟨H0, [], []⟩ H [(lo6, 1, [(.msl 2 lo16 0 (List.length x14.1))]), (lo16, 2, List.map bH x14.1), (lo7, 1, [(eI x14.2)])] := hO
      refine cH ?_
      exact aJ (aZ (aI (⟨rfl, _, (oI h1).symm, _, .eq (by kernel_rfl), hO⟩)))
    refine eB 6 ?_
    replace hO := hO.pick (L' := [(lo6, 1, [(.msl 2 lo12 0 (List.length out3))]), (lo12, 2, List.map bH out3)]) [0, 1] (by decide) (by kernel_rfl)
    obtain rfl := oI h1
    obtain rfl : _ = rr0 := ho0
    replace h0 : vD out3 = some r := h0
    exact aJ (aY (aY (bP (aI (⟨rfl, _, _, .eq (by kernel_rfl), hO, h0⟩)))))
  refine bY aG 3 [(3, (.lp lo6 0 0)), (4, (.lp lo7 0 0)), (5, (.fn (.func 115) [] [(.lp lo6 0 0), (.lp lo7 0 0)])), (12, (eL aD f0)), (13, (eI (lN f0))), (14, (eI (0 : Int)))] ?_
  refine bQ 0 ?_
  refine cU [(3, (.lp lo6 0 0)), (4, (.lp lo7 0 0)), (5, (.fn (.func 115) [] [(.lp lo6 0 0), (.lp lo7 0 0)])), (12, (eL aD f0)), (13, (eI (lN f0))), (14, (eI (0 : Int)))] ?_
  refine cO (fun T H => ∃ out3 : List aS, ∃ bZ : Int, ∃ t12 : (List aB), ∃ t13 : Int, ∃ t14 : Int, ∃ lo21 : Nat, Has T [(3, (.lp lo6 0 0)), (4, (.lp lo7 0 0)), (5, (.fn (.func 115) [] [(.lp lo6 0 0), (.lp lo7 0 0)])), (12, (eL aD t12)), (13, (eI t13)), (14, (eI t14))] ∧ aP ⟨H0, [], []⟩ H [(lo6, 1, [(.msl 2 lo21 0 (List.length out3))]), (lo21, 2, List.map bH out3), (lo7, 1, [(eI bZ)])] ∧ vJ out3 bZ t12 t13 t14 = some r) ?_ ⟨([] : List aS), (0 : Int), f0, (lN f0), (0 : Int), lo5, .eq (by kernel_rfl), hO, h0⟩
  clear hO h0
  rintro T H ⟨out3, bZ, t12, t13, t14, lo21, hT, hO, h0⟩
  refine bB hT ?_
  clear hT
  unfold vJ at h0
  obtain ⟨rr0, hl0, h0⟩ := aW h0
  refine cF (by kernel_rfl) (fun (s : List aS × Int × Int) T H => ∃ lo21 : Nat, Has T [(3, (.lp lo6 0 0)), (4, (.lp lo7 0 0)), (5, (.fn (.func 115) [] [(.lp lo6 0 0), (.lp lo7 0 0)])), (12, (eL aD t12)), (13, (eI t13)), (14, (eI s.2.2))] ∧ aP ⟨H0, [], []⟩ H [(lo6, 1, [(.msl 2 lo21 0 (List.length s.1))]), (lo21, 2, List.map bH s.1), (lo7, 1, [(eI s.2.1)])]) hl0 ⟨lo21, .eq (by kernel_rfl), hO⟩ ?_
  clear hO
  rintro k0 s out1 T H ⟨lo21, hT, hO⟩ h1 ho0
  obtain ⟨out3, bZ, t14⟩ := s
  replace h1 : mK t12 t13 out3 bZ t14 = some out1 := h1
  try dsimp only at hT
  refine bB hT ?_
  clear hT
  unfold mK at h1
  refine aX aG 1 [] [(15, (aK (decide (t14 < t13))))] ?_
  refine aQ ?_
  refine bM h1 (fun h1 => ?_) (fun h1 => ?_)
  · refine bN ?_
    refine bF [(3, (.lp lo6 0 0)), (4, (.lp lo7 0 0)), (5, (.fn (.func 115) [] [(.lp lo6 0 0), (.lp lo7 0 0)])), (12, (eL aD t12)), (13, (eI t13)), (14, (eI t14))] ?_
    refine dO (fun T H => ∃ out3 : List aS, ∃ bZ : Int, ∃ lo23 : Nat, Has T [(3, (.lp lo6 0 0)), (4, (.lp lo7 0 0)), (5, (.fn (.func 115) [] [(.lp lo6 0 0), (.lp lo7 0 0)])), (12, (eL aD t12)), (13, (eI t13)), (14, (eI t14))] ∧ aP ⟨H0, [], []⟩ H [(lo6, 1, [(.msl 2 lo23 0 (List.length out3))]), (lo23, 2, List.map bH out3), (lo7, 1, [(eI bZ)])] ∧ rO out3 bZ t12 t13 t14 = some out1) ?_ ?_
    · clear hO h1
      rintro T H ⟨out3, bZ, lo23, hT, hO, h1⟩
      refine bB hT ?_
      clear hT
      unfold rO at h1
      refine aU aG 2 ?_
      refine bC ?_
      exact aJ (aI (⟨rfl, _, (oI h1).symm, _, .eq (by kernel_rfl), hO⟩))
    refine bQ 1 ?_
    refine aQ ?_
    refine aU aG 4 ?_
    obtain ⟨c24, h1⟩ := bL h1
    refine sL 2 [0 ≤ t14 ∧ t14 < (lN t12)] ⟨c24, trivial⟩ ?_
    refine nC 2 (aD (aB.mk 0 0)) (by kernel_rfl) (by kernel_rfl) hO ?_
    intro lo25 H hO
    refine jR 3 lo25 2 0 (aD (aB.mk 0 0)) (aD (gD t12 t14)) [(aD (aB.mk 0 0))] [(lo6, 1, [(.msl 2 lo21 0 (List.length out3))]), (lo21, 2, List.map bH out3), (lo7, 1, [(eI bZ)]), (lo25, 2, [(aD (gD t12 t14))])] hO rfl (by kernel_rfl) ?_
    intro H hO
    refine cH ?_
    refine bS [] [(7, (.lp lo25 0 0))] ?_
    refine dO (fun T H => ∃ out3 : List aS, ∃ bZ : Int, ∃ j7 : aB, ∃ lo26 : Nat, Has T [(3, (.lp lo6 0 0)), (4, (.lp lo7 0 0)), (5, (.fn (.func 115) [] [(.lp lo6 0 0), (.lp lo7 0 0)])), (7, (.lp lo25 0 0)), (12, (eL aD t12)), (13, (eI t13)), (14, (eI t14))] ∧ aP ⟨H0, [], []⟩ H [(lo6, 1, [(.msl 2 lo26 0 (List.length out3))]), (lo26, 2, List.map bH out3), (lo7, 1, [(eI bZ)]), (lo25, 2, [(aD j7)])] ∧ sC out3 bZ j7 t12 t13 t14 = some out1) ?_ ?_
    · clear hO h1
      rintro T H ⟨out3, bZ, j7, lo26, hT, hO, h1⟩
      refine bB hT ?_
      clear hT
      unfold sC at h1
      refine aQ ?_
      refine aU aG 4 ?_
      refine bK 1 ?_
      refine lJ 3 lo25 2 0 (aD j7) (eI j7.Net) [(aD j7)] hO rfl ?_
      refine bC ?_
      refine bS [] [(31, (eI (wR (0 - j7.Net)))), (32, (eI (0 : Int)))] ?_
      refine bQ 4 ?_
      refine cU [(3, (.lp lo6 0 0)), (4, (.lp lo7 0 0)), (5, (.fn (.func 115) [] [(.lp lo6 0 0), (.lp lo7 0 0)])), (7, (.lp lo25 0 0)), (12, (eL aD t12)), (13, (eI t13)), (14, (eI t14)), (31, (eI (wR (0 - j7.Net)))), (32, (eI (0 : Int)))] ?_
      refine cO (fun T H => ∃ out3 : List aS, ∃ bZ : Int, ∃ j7 : aB, ∃ t31 : Int, ∃ t32 : Int, ∃ lo28 : Nat, Has T [(3, (.lp lo6 0 0)), (4, (.lp lo7 0 0)), (5, (.fn (.func 115) [] [(.lp lo6 0 0), (.lp lo7 0 0)])), (7, (.lp lo25 0 0)), (12, (eL aD t12)), (13, (eI t13)), (14, (eI t14)), (31, (eI t31)), (32, (eI t32))] ∧ aP ⟨H0, [], []⟩ H [(lo6, 1, [(.msl 2 lo28 0 (List.length out3))]), (lo28, 2, List.map bH out3), (lo7, 1, [(eI bZ)]), (lo25, 2, [(aD j7)])] ∧ vS out3 bZ j7 t12 t13 t14 t31 t32 = some out1) ?_ ⟨out3, bZ, j7, wR (0 - j7.Net), (0 : Int), lo26, .eq (by kernel_rfl), hO, h1⟩
      clear hO h1
      rintro T H ⟨out3, bZ, j7, t31, t32, lo28, hT, hO, h1⟩
      refine bB hT ?_
      clear hT
      unfold vS at h1
      obtain ⟨rr1, hl1, h1⟩ := aW h1
      refine cF (by kernel_rfl) (fun (s : List aS × Int × aB × Int) T H => ∃ lo28 : Nat, Has T [(3, (.lp lo6 0 0)), (4, (.lp lo7 0 0)), (5, (.fn (.func 115) [] [(.lp lo6 0 0), (.lp lo7 0 0)])), (7, (.lp lo25 0 0)), (12, (eL aD t12)), (13, (eI t13)), (14, (eI t14)), (31, (eI t31)), (32, (eI s.2.2.2))] ∧ aP ⟨H0, [], []⟩ H [(lo6, 1, [(.msl 2 lo28 0 (List.length s.1))]), (lo28, 2, List.map bH s.1), (lo7, 1, [(eI s.2.1)]), (lo25, 2, [(aD s.2.2.1)])]) hl1 ⟨lo28, .eq (by kernel_rfl), hO⟩ ?_
      clear hO
      rintro k1 s out2 T H ⟨lo28, hT, hO⟩ h2 ho1
      obtain ⟨out3, bZ, j7, t32⟩ := s
      replace h2 : lE t12 t13 t14 t31 out3 bZ j7 t32 = some out2 := h2
      try dsimp only at hT
      refine bB hT ?_
      clear hT
      unfold lE at h2
      refine aX aG 1 [] [(33, (aK (decide (t32 < t31))))] ?_
      refine aQ ?_
      refine bM h2 (fun h2 => ?_) (fun h2 => ?_)
      · refine bN ?_
        refine bF [(3, (.lp lo6 0 0)), (4, (.lp lo7 0 0)), (5, (.fn (.func 115) [] [(.lp lo6 0 0), (.lp lo7 0 0)])), (7, (.lp lo25 0 0)), (12, (eL aD t12)), (13, (eI t13)), (14, (eI t14)), (31, (eI t31)), (32, (eI t32))] ?_
        refine aQ ?_
        refine bQ 5 ?_
        refine aU aG 4 ?_
        refine bK 2 ?_
        refine lJ 3 lo25 2 0 (aD j7) (eI j7.At) [(aD j7)] hO rfl ?_
        obtain ⟨x30, hx31, h2⟩ := aW h2
        refine aBd [(lo25, 2, [(aD j7)])] [0, 1, 2, 3] (yN j7.At lo6 lo28 out3 lo7 bZ _ hx31) hO ?_
        intro r33 L34 H hP35 hO
        obtain ⟨lo32, rfl, rfl⟩ := hP35
        replace hO : aP ⟨H0, [], []⟩ H [(lo6, 1, [(.msl 2 lo32 0 (List.length x30.1))]), (lo32, 2, List.map bH x30.1), (lo7, 1, [(eI x30.2)]), (lo25, 2, [(aD j7)])] := hO
        refine cH ?_
        refine dP [(3, (.lp lo6 0 0)), (4, (.lp lo7 0 0)), (5, (.fn (.func 115) [] [(.lp lo6 0 0), (.lp lo7 0 0)])), (7, (.lp lo25 0 0)), (12, (eL aD t12)), (13, (eI t13)), (14, (eI t14)), (31, (eI t31)), (32, (eI t32))] ?_
        refine aJ (aZ (aI (?_)))
        refine aU aG 2 ?_
        refine bC ?_
        exact aJ (aI (⟨rfl, _, (oI h2).symm, _, .eq (by kernel_rfl), hO⟩))
      refine eB 4 ?_
      replace hO := hO.pick (L' := [(lo6, 1, [(.msl 2 lo28 0 (List.length out3))]), (lo28, 2, List.map bH out3), (lo7, 1, [(eI bZ)])]) [0, 1, 2] (by decide) (by kernel_rfl)
      obtain rfl := oI h2
      obtain rfl : _ = rr1 := ho1
      replace h1 : rO out3 bZ t12 t13 t14 = some out1 := h1
      exact aJ (aY (aY (bP (aZ (aI (⟨rfl, _, _, _, .eq (by kernel_rfl), hO, h1⟩))))))
    refine aQ ?_
    refine aU aG 3 ?_
    refine bK 1 ?_
    refine lJ 3 lo25 2 0 (aD (gD t12 t14)) (eI ((gD t12 t14).Net)) [(aD (gD t12 t14))] hO rfl ?_
    refine bC ?_
    refine bS [] [(19, (eI ((gD t12 t14).Net))), (20, (eI (0 : Int)))] ?_
    refine bQ 2 ?_
    refine cU [(3, (.lp lo6 0 0)), (4, (.lp lo7 0 0)), (5, (.fn (.func 115) [] [(.lp lo6 0 0), (.lp lo7 0 0)])), (7, (.lp lo25 0 0)), (12, (eL aD t12)), (13, (eI t13)), (14, (eI t14)), (19, (eI ((gD t12 t14).Net))), (20, (eI (0 : Int)))] ?_
    refine cO (fun T H => ∃ out3 : List aS, ∃ bZ : Int, ∃ j7 : aB, ∃ t19 : Int, ∃ t20 : Int, ∃ lo37 : Nat, Has T [(3, (.lp lo6 0 0)), (4, (.lp lo7 0 0)), (5, (.fn (.func 115) [] [(.lp lo6 0 0), (.lp lo7 0 0)])), (7, (.lp lo25 0 0)), (12, (eL aD t12)), (13, (eI t13)), (14, (eI t14)), (19, (eI t19)), (20, (eI t20))] ∧ aP ⟨H0, [], []⟩ H [(lo6, 1, [(.msl 2 lo37 0 (List.length out3))]), (lo37, 2, List.map bH out3), (lo7, 1, [(eI bZ)]), (lo25, 2, [(aD j7)])] ∧ vR out3 bZ j7 t12 t13 t14 t19 t20 = some out1) ?_ ⟨out3, bZ, gD t12 t14, (gD t12 t14).Net, (0 : Int), lo21, .eq (by kernel_rfl), hO, h1⟩
    clear hO h1
    rintro T H ⟨out3, bZ, j7, t19, t20, lo37, hT, hO, h1⟩
    refine bB hT ?_
    clear hT
    unfold vR at h1
    obtain ⟨rr1, hl1, h1⟩ := aW h1
    refine cF (by kernel_rfl) (fun (s : List aS × Int × aB × Int) T H => ∃ lo37 : Nat, Has T [(3, (.lp lo6 0 0)), (4, (.lp lo7 0 0)), (5, (.fn (.func 115) [] [(.lp lo6 0 0), (.lp lo7 0 0)])), (7, (.lp lo25 0 0)), (12, (eL aD t12)), (13, (eI t13)), (14, (eI t14)), (19, (eI t19)), (20, (eI s.2.2.2))] ∧ aP ⟨H0, [], []⟩ H [(lo6, 1, [(.msl 2 lo37 0 (List.length s.1))]), (lo37, 2, List.map bH s.1), (lo7, 1, [(eI s.2.1)]), (lo25, 2, [(aD s.2.2.1)])]) hl1 ⟨lo37, .eq (by kernel_rfl), hO⟩ ?_
    clear hO
    rintro k1 s out2 T H ⟨lo37, hT, hO⟩ h2 ho1
    obtain ⟨out3, bZ, j7, t20⟩ := s
    replace h2 : lB t12 t13 t14 t19 out3 bZ j7 t20 = some out2 := h2
    try dsimp only at hT
    refine bB hT ?_
    clear hT
    unfold lB at h2
    refine aX aG 1 [] [(21, (aK (decide (t20 < t19))))] ?_
    refine aQ ?_
    refine bM h2 (fun h2 => ?_) (fun h2 => ?_)
    · refine bN ?_
      refine bF [(3, (.lp lo6 0 0)), (4, (.lp lo7 0 0)), (5, (.fn (.func 115) [] [(.lp lo6 0 0), (.lp lo7 0 0)])), (7, (.lp lo25 0 0)), (12, (eL aD t12)), (13, (eI t13)), (14, (eI t14)), (19, (eI t19)), (20, (eI t20))] ?_
      refine aQ ?_
      refine bQ 3 ?_
      refine aU aG 7 ?_
      refine lJ 0 lo6 1 0 (.msl 2 lo37 0 (List.length out3)) (.msl 2 lo37 0 (List.length out3)) [(.msl 2 lo37 0 (List.length out3))] hO rfl ?_
      refine bK 2 ?_
      refine lJ 3 lo25 2 0 (aD j7) (eI j7.At) [(aD j7)] hO rfl ?_
      refine bK 4 ?_
      refine tT (xs := [(bH (aS.mk j7.At 0))]) (k := 2) (by kernel_rfl) (by kernel_rfl) ?_
      obtain ⟨c40, h2⟩ := bL h2
      refine BY (e := bH) out3 ([aS.mk j7.At 0]) 1 lo37 2 16 (eT [(bH (aS.mk j7.At 0))]) (fun lo39 => [(lo6, 1, [(.msl 2 lo37 0 (List.length out3))]), (lo39, 2, List.map bH (out3 ++ ([aS.mk j7.At 0]))), (lo7, 1, [(eI bZ)]), (lo25, 2, [(aD j7)])]) (by kernel_rfl) (by kernel_rfl) hO (by kernel_rfl) (by kernel_rfl) c40 (fun _ => by kernel_rfl) ?_
      intro lo39 H hO
      refine jR 0 lo6 1 0 (.msl 2 lo37 0 (List.length out3)) (.msl 2 lo39 0 (List.length (out3 ++ ([aS.mk j7.At 0])))) [(.msl 2 lo37 0 (List.length out3))] [(lo6, 1, [(.msl 2 lo39 0 (List.length (out3 ++ ([aS.mk j7.At 0]))))]), (lo39, 2, List.map bH (out3 ++ ([aS.mk j7.At 0]))), (lo7, 1, [(eI bZ)]), (lo25, 2, [(aD j7)])] hO rfl (by kernel_rfl) ?_
      intro H hO
      refine cH ?_
      refine dP [(3, (.lp lo6 0 0)), (4, (.lp lo7 0 0)), (5, (.fn (.func 115) [] [(.lp lo6 0 0), (.lp lo7 0 0)])), (7, (.lp lo25 0 0)), (12, (eL aD t12)), (13, (eI t13)), (14, (eI t14)), (19, (eI t19)), (20, (eI t20))] ?_
      refine aJ (aZ (aI (?_)))
      refine aU aG 2 ?_
      refine bC ?_
      exact aJ (aI (⟨rfl, _, (oI h2).symm, _, .eq (by kernel_rfl), hO⟩))
    refine eB 2 ?_
    obtain rfl := oI h2
    obtain rfl : _ = rr1 := ho1
    replace h1 : sC out3 bZ j7 t12 t13 t14 = some out1 := h1
    exact aJ (aY (aY (bP (aI (⟨rfl, _, _, _, _, .eq (by kernel_rfl), hO, h1⟩)))))
  refine eB 0 ?_
  obtain rfl := oI h1
  obtain rfl : _ = rr0 := ho0
  replace h0 : rS out3 bZ = some r := h0
  exact aJ (aY (aY (bP (aI (⟨rfl, _, _, _, .eq (by kernel_rfl), hO, h0⟩)))))

theorem NI (l0 : (List aC)) (r : ((List aM) × Int)) (h0 : rW l0 = some r) : bU Try.prog 43 [(eL aE l0)] (.tup [(eL aH r.1), (eI r.2)]) := by
  intro H0
  refine BR aG Try.func43 (by kernel_rfl) (by kernel_rfl) (by kernel_rfl) ?_
  have hO := aP.start H0
  unfold rW at h0
  refine aX aG 2 [] [] ?_
  refine aQ ?_
  refine bQ 0 ?_
  refine aQ ?_
  refine aU aG 4 ?_
  refine bK 1 ?_
  obtain ⟨x1, hx2, h0⟩ := aW h0
  refine cM (JZ l0 _ hx2) hO ?_
  intro H hO
  refine bC ?_
  refine bS [] [(12, (aK (!x1)))] ?_
  refine bM h0 (fun h0 => ?_) (fun h0 => ?_)
  · refine bY aG 2 [(2, (.sl true 0 (fun _ => .bad))), (3, (eI (2 : Int)))] ?_
    refine bI ?_
    refine cS (l := [(2, (eL aH ([]))), (3, (eI (2 : Int)))]) ⟨[(2, (.sl true 0 (fun _ => .bad))), (3, (eI (2 : Int)))], by kernel_rfl, rfl, ⟨gP, aV.refl _, trivial⟩⟩ ?_
    obtain rfl := oI h0
    exact aJ (bX (bA (QM0 (.inr rfl) (rs := [.tmp 2, .tmp 3]) (xs := [(eL aH ([])), (eI (2 : Int))]) (x := (.tup [(eL aH ([])), (eI (2 : Int))])) (by kernel_rfl) (yD (x := (eL aH ([]))) (by kernel_rfl) (yD (x := (eI (2 : Int))) (by kernel_rfl) qG)) (by kernel_rfl) ⟨rfl, hO.out⟩)))
  refine aQ ?_
  refine aU aG 4 ?_
  refine bK 1 ?_
  obtain ⟨x5, hx6, h0⟩ := aW h0
  refine cM (OY l0 _ hx6) hO ?_
  intro H hO
  refine bC ?_
  refine bS [12] [(16, (aK (!x5)))] ?_
  refine bM h0 (fun h0 => ?_) (fun h0 => ?_)
  · refine bY aG 2 [(2, (.sl true 0 (fun _ => .bad))), (3, (eI (20 : Int)))] ?_
    refine bI ?_
    refine cS (l := [(2, (eL aH ([]))), (3, (eI (20 : Int)))]) ⟨[(2, (.sl true 0 (fun _ => .bad))), (3, (eI (20 : Int)))], by kernel_rfl, rfl, ⟨gP, aV.refl _, trivial⟩⟩ ?_
    obtain rfl := oI h0
    exact aJ (bX (bA (QM0 (.inr rfl) (rs := [.tmp 2, .tmp 3]) (xs := [(eL aH ([])), (eI (20 : Int))]) (x := (.tup [(eL aH ([])), (eI (20 : Int))])) (by kernel_rfl) (yD (x := (eL aH ([]))) (by kernel_rfl) (yD (x := (eI (20 : Int))) (by kernel_rfl) qG)) (by kernel_rfl) ⟨rfl, hO.out⟩)))
  refine bN ?_
  refine dP [(0, (eL aE l0))] ?_
  refine aJ (aZ (aI (?_)))
  refine aQ ?_
  refine aU aG 2 ?_
  refine nC 1 (eI 0) (by kernel_rfl) (by kernel_rfl) hO ?_
  intro lo9 H hO
  refine jR 0 lo9 1 0 (eI 0) (eI (0 : Int)) [(eI 0)] [(lo9, 1, [(eI (0 : Int))])] hO rfl (by kernel_rfl) ?_
  intro H hO
  refine cH ?_
  refine bS [] [(4, (.lp lo9 0 0))] ?_
  refine aQ ?_
  refine aQ ?_
  refine aU aG 2 ?_
  refine bK 1 ?_
  obtain ⟨x10, hx11, h0⟩ := aW h0
  refine cM (DX l0 _ hx11) hO ?_
  intro H hO
  refine cH ?_
  refine bS [] [(21, (.fn (.func 117) [] [(.rp (eL aE x10))]))] ?_
  refine bQ 1 ?_
  refine cU [(0, (eL aE l0)), (4, (.lp lo9 0 0)), (21, (.fn (.func 117) [] [(.rp (eL aE x10))]))] ?_
  refine cO (fun T H => ∃ n4 : Int, ∃ tZ : (List aC), Has T [(0, (eL aE l0)), (4, (.lp lo9 0 0)), (21, (.fn (.func 117) [] [(.rp (eL aE tZ))]))] ∧ aP ⟨H0, [], []⟩ H [(lo9, 1, [(eI n4)])] ∧ uE l0 n4 tZ = some r) ?_ ⟨(0 : Int), x10, .eq (by kernel_rfl), hO, h0⟩
  clear hO h0
  rintro T H ⟨n4, tZ, hT, hO, h0⟩
  refine bB (l := [(0, (eL aE l0)), (4, (.lp lo9 0 0)), (21, (.fn (.func 117) [] [(.rp (eL aE tZ))]))]) hT ?_
  clear hT
  unfold uE at h0
  obtain ⟨o0, hl0, h0⟩ := aW h0
  refine AI (fid := 117) (ys := []) (cs := [(.rp (eL aE tZ))]) #[22, 23] (fun (A : xY) (b lL : Nat) (st : (Int) ⊕ (Int)) (G' : Gs) => Sum.elim (fun (s : Int) => G' = (lL, .raw (jZ b A .ready none)) :: (up [(lo9, 1, [(eI s)])] ++ [])) (fun (s : Int) => False) st) (.inl n4) o0 (.tup []) (by kernel_rfl) (by kernel_rfl) (by kernel_rfl) hO (fun _ _ => rfl) ?_ ?_
  · intro b lL
    clear hO h0
    refine yW _ b (fun st t22 t23 => rnd (fun (s : Int) => mZ l0 tZ s t22 t23) st) ?_ tZ _ _ hl0
    intro st t22 t23 out1 rr hr
    obtain ⟨s, rfl, h1, rfl⟩ := OD hr
    clear hr
    intro Hr Gr hi hg
    obtain ⟨n4, rfl⟩ : ∃ x, x = s := ⟨_, rfl⟩
    dsimp only [Sum.elim_inl] at hi
    obtain rfl := hi
    replace h1 : mZ l0 tZ n4 t22 t23 = some out1 := h1
    unfold mZ at h1
    obtain ⟨E1, hE, hO⟩ := uY hg
    refine uQ (zW (hO.gm 0 _ rfl).2 (by kernel_rfl) (by kernel_rfl) ?_)
    refine cU [(0, (eL aE l0)), (4, (.lp lo9 0 0)), (21, (.fn (.func 117) [] [(.rp (eL aE tZ))])), (22, (eL aL t22)), (23, (eL aD t23))] ?_
    refine aU aG 1 ?_
    refine bC ?_
    refine dP [(4, (.lp lo9 0 0)), (6, (eL aD t23))] ?_
    refine aJ (⟨rfl, rfl, (hO.gm 0 _ rfl).2, ?_⟩)
    intro o1 ho1
    replace hO := hO.uG o1
    refine bQ 2 ?_
    refine kU (kP [26]) aG 5 ?_
    refine kT 0 lo9 1 0 (eI n4) (eI n4) [(eI n4)] hO rfl ?_
    refine uM 2 ?_
    obtain ⟨x12, hx13, h1⟩ := aW h1
    refine xL (GX t23 _ hx13) hO ?_
    intro H hO
    refine uM 4 ?_
    refine qT 0 lo9 1 0 (eI n4) (eI (wR (n4 + x12))) [(eI n4)] [(lo9, 1, [(eI (wR (n4 + x12)))])] hO rfl (by kernel_rfl) ?_
    intro H hO
    refine wT (by kernel_rfl) ?_
    refine dP [(4, (.lp lo9 0 0))] ?_
    obtain rfl := oI h1
    exact aJ (aZ (⟨(fR hO hE ho1 .dead).1, rfl, _, rfl, (fR hO hE ho1 _).2⟩))
  · intro b lD15 lL H' G' hi hO
    rcases o0 with s | s
    · dsimp only [Sum.elim_inl] at hi
      obtain rfl := hi
      replace h0 : (cond (decide ((4096 : Int) < s)) (some ([], (7 : Int))) (bJ (0 ≤ s ∧ (40 : Int) * s ≤ 281474976710656 ∧ s ≤ 9223372036854775807) <| (pK l0).bind fun x20 => qJ ([] : List aM) x20)) = some r := h0
      obtain ⟨hlL, hO⟩ := pN hO
      refine ⟨_, _, hlL, (by intro e; cases e), ?_⟩
      refine dP [(0, (eL aE l0)), (4, (.lp lo9 0 0))] ?_
      refine aJ (aZ (aI (?_)))
      refine aQ ?_
      refine aQ ?_
      refine aU aG 2 ?_
      refine lJ 0 lo9 1 0 (eI s) (eI s) [(eI s)] hO rfl ?_
      refine bC ?_
      refine bS [] [(29, (aK (decide ((4096 : Int) < s))))] ?_
      refine bM h0 (fun h0 => ?_) (fun h0 => ?_)
      · refine aQ ?_
        refine aU aG 2 ?_
        refine bC ?_
        refine dP [(2, (.sl true 0 (fun _ => .bad))), (3, (eI (7 : Int)))] ?_
        replace hO := hO.pick (L' := []) [] (by decide) (by kernel_rfl)
        refine aJ (aI (?_))
        refine bI ?_
        refine cS (l := [(2, (eL aH ([]))), (3, (eI (7 : Int)))]) ⟨[(2, (.sl true 0 (fun _ => .bad))), (3, (eI (7 : Int)))], by kernel_rfl, rfl, ⟨gP, aV.refl _, trivial⟩⟩ ?_
        obtain rfl := oI h0
        have hD := (hO.gm 0 _ rfl).2
        replace hO := (hO.uG .dead).tX
        exact aJ (bA (QM1 (.inr rfl) hD (rs := [.tmp 2, .tmp 3]) (xs := [(eL aH ([])), (eI (7 : Int))]) (x := (.tup [(eL aH ([])), (eI (7 : Int))])) (by kernel_rfl) (yD (x := (eL aH ([]))) (by kernel_rfl) (yD (x := (eI (7 : Int))) (by kernel_rfl) qG)) (by kernel_rfl) ⟨rfl, hO.out⟩))
      refine bN ?_
      refine bF [(0, (eL aE l0)), (4, (.lp lo9 0 0))] ?_
      refine aQ ?_
      refine aU aG 4 ?_
      refine lJ 0 lo9 1 0 (eI s) (eI s) [(eI s)] hO rfl ?_
      obtain ⟨c17, h0⟩ := bL h0
      refine GF 3 40 s (by kernel_rfl) (by kernel_rfl) c17 hO ?_
      intro lo18 H hO
      refine rB 1 (.sl true 0 (fun _ => .bad)) (eL aH ([])) (by kernel_rfl) (by kernel_rfl) (by kernel_rfl) (gP) (by kernel_rfl) (by kernel_rfl) hO ?_
      intro lo19 H hO
      refine jR 2 lo19 1 0 (eL aH ([])) (.msl 3 lo18 0 (List.length ([] : List aM))) [(eL aH ([]))] [(lo9, 1, [(eI s)]), (lo18, 3, List.map aH ([] : List aM)), (lo19, 1, [(.msl 3 lo18 0 (List.length ([] : List aM)))])] hO rfl (by kernel_rfl) ?_
      intro H hO
      refine cH ?_
      replace hO := hO.pick (L' := [(lo19, 1, [(.msl 3 lo18 0 (List.length ([] : List aM)))]), (lo18, 3, List.map aH ([] : List aM))]) [2, 1] (by decide) (by kernel_rfl)
      refine bS [4] [(7, (.lp lo19 0 0))] ?_
      refine aQ ?_
      refine aQ ?_
      refine aU aG 2 ?_
      refine bK 1 ?_
      obtain ⟨x20, hx21, h0⟩ := aW h0
      refine cM (DX l0 _ hx21) hO ?_
      intro H hO
      refine cH ?_
      refine bS [0] [(33, (.fn (.func 117) [] [(.rp (eL aE x20))]))] ?_
      refine bQ 3 ?_
      refine cU [(7, (.lp lo19 0 0)), (33, (.fn (.func 117) [] [(.rp (eL aE x20))]))] ?_
      refine cO (fun T H => ∃ out7 : List aM, ∃ uC : (List aC), ∃ lo22 : Nat, Has T [(7, (.lp lo19 0 0)), (33, (.fn (.func 117) [] [(.rp (eL aE uC))]))] ∧ aP ⟨H0, [], (lD15, .raw uL) :: []⟩ H [(lo19, 1, [(.msl 3 lo22 0 (List.length out7))]), (lo22, 3, List.map aH out7)] ∧ qJ out7 uC = some r) ?_ ⟨([] : List aM), x20, lo18, .eq (by kernel_rfl), hO, h0⟩
      clear hO h0
      rintro T H ⟨out7, uC, lo22, hT, hO, h0⟩
      refine bB (l := [(7, (.lp lo19 0 0)), (33, (.fn (.func 117) [] [(.rp (eL aE uC))]))]) hT ?_
      clear hT
      unfold qJ at h0
      obtain ⟨o0, hl0, h0⟩ := aW h0
      refine AI (fid := 117) (ys := []) (cs := [(.rp (eL aE uC))]) #[34, 35] (fun (A : xY) (b lL : Nat) (st : (List aM) ⊕ (List aM)) (G' : Gs) => Sum.elim (fun (s : List aM) => ∃ lo22 : Nat, G' = (lL, .raw (jZ b A .ready none)) :: (up [(lo19, 1, [(.msl 3 lo22 0 (List.length s))]), (lo22, 3, List.map aH s)] ++ (lD15, .raw uL) :: [])) (fun (s : List aM) => False) st) (.inl out7) o0 (.tup []) (by kernel_rfl) (by kernel_rfl) (by kernel_rfl) hO (fun _ _ => ⟨lo22, rfl⟩) ?_ ?_
      · intro b lL
        clear hO h0
        refine yW _ b (fun st t34 t35 => rnd (fun (s : List aM) => mV uC s t34 t35) st) ?_ uC _ _ hl0
        intro st t34 t35 out1 rr hr
        obtain ⟨s, rfl, h1, rfl⟩ := OD hr
        clear hr
        intro Hr Gr hi hg
        obtain ⟨out7, rfl⟩ : ∃ x, x = s := ⟨_, rfl⟩
        dsimp only [Sum.elim_inl] at hi
        obtain ⟨lo22, rfl⟩ := hi
        replace h1 : mV uC out7 t34 t35 = some out1 := h1
        unfold mV at h1
        obtain ⟨E1, hE, hO⟩ := uY hg
        refine uQ (zW (hO.gm 0 _ rfl).2 (by kernel_rfl) (by kernel_rfl) ?_)
        refine cU [(7, (.lp lo19 0 0)), (33, (.fn (.func 117) [] [(.rp (eL aE uC))])), (34, (eL aL t34)), (35, (eL aD t35))] ?_
        refine aX aG 1 [33, 34] [(8, (eL aL t34))] ?_
        refine aU aG 1 ?_
        refine bC ?_
        refine dP [(7, (.lp lo19 0 0)), (8, (eL aL t34)), (9, (eL aD t35))] ?_
        refine aJ (⟨rfl, rfl, (hO.gm 0 _ rfl).2, ?_⟩)
        intro o1 ho1
        replace hO := hO.uG o1
        refine bQ 4 ?_
        refine aQ ?_
        refine aU aG 4 ?_
        refine bK 1 ?_
        obtain ⟨x23, hx24, h1⟩ := aW h1
        refine cM (QO t35 _ hx24) hO ?_
        intro H hO
        refine bC ?_
        refine bS [9] [(37, (eL bH x23)), (38, (eI (lN x23))), (39, (eI (0 : Int)))] ?_
        refine bQ 5 ?_
        refine cU [(7, (.lp lo19 0 0)), (8, (eL aL t34)), (37, (eL bH x23)), (38, (eI (lN x23))), (39, (eI (0 : Int)))] ?_
        refine cO (fun T H => ∃ out7 : List aM, ∃ r8 : (List aF), ∃ t37 : (List aS), ∃ t38 : Int, ∃ t39 : Int, ∃ lo27 : Nat, Has T [(7, (.lp lo19 0 0)), (8, (eL aL r8)), (37, (eL bH t37)), (38, (eI t38)), (39, (eI t39))] ∧ aP ⟨Hr, E1, (lL, o1) :: (lD15, .raw uL) :: []⟩ H [(lo19, 1, [(.msl 3 lo27 0 (List.length out7))]), (lo27, 3, List.map aH out7)] ∧ qH out7 r8 t37 t38 t39 = some out1) ?_ ⟨out7, t34, x23, (lN x23), (0 : Int), lo22, .eq (by kernel_rfl), hO, h1⟩
        clear hO h1
        rintro T H ⟨out7, r8, t37, t38, t39, lo27, hT, hO, h1⟩
        refine bB hT ?_
        clear hT
        unfold qH at h1
        obtain ⟨rr1, hl1, h1⟩ := aW h1
        refine cF (by kernel_rfl) (fun (s : List aM × Int) T H => ∃ lo27 : Nat, Has T [(7, (.lp lo19 0 0)), (8, (eL aL r8)), (37, (eL bH t37)), (38, (eI t38)), (39, (eI s.2))] ∧ aP ⟨Hr, E1, (lL, o1) :: (lD15, .raw uL) :: []⟩ H [(lo19, 1, [(.msl 3 lo27 0 (List.length s.1))]), (lo27, 3, List.map aH s.1)]) hl1 ⟨lo27, .eq (by kernel_rfl), hO⟩ ?_
        clear hO
        rintro k1 s out2 T H ⟨lo27, hT, hO⟩ h2 ho1
        obtain ⟨out7, t39⟩ := s
        replace h2 : lM r8 t37 t38 out7 t39 = some out2 := h2
        try dsimp only at hT
        refine bB hT ?_
        clear hT
        unfold lM at h2
        refine aX aG 1 [] [(40, (aK (decide (t39 < t38))))] ?_
        refine aQ ?_
        refine bM h2 (fun h2 => ?_) (fun h2 => ?_)
        · refine bN ?_
          refine bF [(7, (.lp lo19 0 0)), (8, (eL aL r8)), (37, (eL bH t37)), (38, (eI t38)), (39, (eI t39))] ?_
          refine aQ ?_
          refine bQ 6 ?_
          refine aQ ?_
          refine aU aG 4 ?_
          obtain ⟨c29, h2⟩ := bL h2
          refine sL 2 [0 ≤ t39 ∧ t39 < (lN t37)] ⟨c29, trivial⟩ ?_
          refine nC 2 (bH (aS.mk 0 0)) (by kernel_rfl) (by kernel_rfl) hO ?_
          intro lo30 H hO
          refine jR 2 lo30 2 0 (bH (aS.mk 0 0)) (bH (gD t37 t39)) [(bH (aS.mk 0 0))] [(lo19, 1, [(.msl 3 lo27 0 (List.length out7))]), (lo27, 3, List.map aH out7), (lo30, 2, [(bH (gD t37 t39))])] hO rfl (by kernel_rfl) ?_
          intro H hO
          refine cH ?_
          refine bS [] [(11, (.lp lo30 0 0))] ?_
          refine cU [(7, (.lp lo19 0 0)), (8, (eL aL r8)), (11, (.lp lo30 0 0)), (37, (eL bH t37)), (38, (eI t38)), (39, (eI t39))] ?_
          refine LU 2 2 11 2 lo30 (bH (gD t37 t39)) [(lo19, 1, [(.msl 3 lo27 0 (List.length out7))]), (lo27, 3, List.map aH out7)] hO (by kernel_rfl) (by kernel_rfl) (by kernel_rfl) ?_
          intro H hO
          refine kU (kP [45, 46, 48]) aG 8 ?_
          refine kT 0 lo19 1 0 (.msl 3 lo27 0 (List.length out7)) (.msl 3 lo27 0 (List.length out7)) [(.msl 3 lo27 0 (List.length out7))] hO rfl ?_
          refine uM 2 ?_
          obtain ⟨x31, hx32, h2⟩ := aW h2
          refine xL (CZ r8 _ hx32) hO ?_
          intro H hO
          refine uM 5 ?_
          refine OA (xs := [(aH (aM.mk x31 (gD t37 t39)))]) (k := 3) (by kernel_rfl) (by kernel_rfl) ?_
          obtain ⟨c35, h2⟩ := bL h2
          refine KM (e := aH) out7 ([aM.mk x31 (gD t37 t39)]) 1 lo27 3 40 (eT [(aH (aM.mk x31 (gD t37 t39)))]) (fun lo34 => [(lo19, 1, [(.msl 3 lo27 0 (List.length out7))]), (lo34, 3, List.map aH (out7 ++ ([aM.mk x31 (gD t37 t39)])))]) (by kernel_rfl) (by kernel_rfl) hO (by kernel_rfl) (by kernel_rfl) c35 (fun _ => by kernel_rfl) ?_
          intro lo34 H hO
          refine qT 0 lo19 1 0 (.msl 3 lo27 0 (List.length out7)) (.msl 3 lo34 0 (List.length (out7 ++ ([aM.mk x31 (gD t37 t39)])))) [(.msl 3 lo27 0 (List.length out7))] [(lo19, 1, [(.msl 3 lo34 0 (List.length (out7 ++ ([aM.mk x31 (gD t37 t39)]))))]), (lo34, 3, List.map aH (out7 ++ ([aM.mk x31 (gD t37 t39)])))] hO rfl (by kernel_rfl) ?_
          intro H hO
          refine wT (by kernel_rfl) ?_
          refine dP [(7, (.lp lo19 0 0)), (8, (eL aL r8)), (37, (eL bH t37)), (38, (eI t38)), (39, (eI t39))] ?_
          refine aJ (aZ (aI (?_)))
          refine aU aG 2 ?_
          refine bC ?_
          exact aJ (aI (⟨rfl, _, (oI h2).symm, _, .eq (by kernel_rfl), hO⟩))
        refine eB 5 ?_
        refine dP [(7, (.lp lo19 0 0))] ?_
        obtain rfl := oI h2
        obtain rfl : _ = rr1 := ho1
        replace h1 : some (.inl out7) = some out1 := h1
        obtain rfl := oI h1
        exact aJ (aY (aY (bP (aZ (⟨(fR hO hE ho1 .dead).1, rfl, _, ⟨lo27, rfl⟩, (fR hO hE ho1 _).2⟩)))))
      · intro b lD36 lL H' G' hi hO
        rcases o0 with s | s
        · dsimp only [Sum.elim_inl] at hi
          obtain ⟨lo22, rfl⟩ := hi
          replace h0 : (some (s, (0 : Int))) = some r := h0
          obtain ⟨hlL, hO⟩ := pN hO
          refine ⟨_, _, hlL, (by intro e; cases e), ?_⟩
          refine dP [(7, (.lp lo19 0 0))] ?_
          refine aJ (aZ (aI (?_)))
          refine aQ ?_
          refine aU aG 3 ?_
          refine lJ 0 lo19 1 0 (.msl 3 lo22 0 (List.length s)) (.msl 3 lo22 0 (List.length s)) [(.msl 3 lo22 0 (List.length s))] hO rfl ?_
          refine bC ?_
          refine dP [(2, (.msl 3 lo22 0 (List.length s))), (3, (eI (0 : Int)))] ?_
          replace hO := hO.pick (L' := [(lo22, 3, List.map aH s)]) [1] (by decide) (by kernel_rfl)
          refine aJ (aI (?_))
          refine bI ?_
          refine dP [(2, (.msl 3 lo22 0 (List.length s))), (3, (eI (0 : Int)))] ?_
          refine FI (en := aH) s 0 0 2 3 lo22 (List.length s) hO (by kernel_rfl) (by kernel_rfl) (by kernel_rfl) (L' := []) (by kernel_rfl) ?_
          intro H37 hO
          obtain rfl := oI h0
          have hD := (hO.gm 0 _ rfl).2
          have hE := (hO.gm 1 _ rfl).2
          have hF := hO.gn 0 1 _ _ rfl rfl (by decide)
          replace hO := ((hO.uG .dead).tX.uG .dead).tX
          exact aJ (QM2 (.inr rfl) hD hE hF (rs := [.tmp 2, .tmp 3]) (xs := [(eL aH s), (eI (0 : Int))]) (x := (.tup [(eL aH s), (eI (0 : Int))])) (by kernel_rfl) (yD (x := (eL aH s)) (by kernel_rfl) (yD (x := (eI (0 : Int))) (by kernel_rfl) qG)) (by kernel_rfl) ⟨rfl, hO.out⟩)
        · exact hi.elim
    · exact hi.elim

theorem xQ (l0 : (List aM)) (r : ((List aM) × Int)) (h0 : oH l0 = some r) : bU Try.prog 11 [(eL aH l0)] (.tup [(eL aH r.1), (eI r.2)]) := by
  intro H0
  refine cI Try.func11 ?_
  have hO := aP.start H0
  unfold oH at h0
  refine aX aG 2 [] [] ?_
  refine aQ ?_
  refine aU aG 7 ?_
  refine bK 1 ?_
  obtain ⟨x1, hx2, h0⟩ := aW h0
  refine cM (QV l0 _ hx2) hO ?_
  intro H hO
  refine bC ?_
  refine bF [(4, (eL aE x1.1)), (5, (eI x1.2))] ?_
  refine aQ ?_
  refine aX aG 2 [] [(12, (aK (!decide (x1.2 = (0 : Int)))))] ?_
  refine bM h0 (fun h0 => ?_) (fun h0 => ?_)
  · refine bY aG 3 [(2, (.sl true 0 (fun _ => .bad))), (3, (eI x1.2))] ?_
    refine bI ?_
    refine cS (l := [(2, (eL aH ([]))), (3, (eI x1.2))]) ⟨[(2, (.sl true 0 (fun _ => .bad))), (3, (eI x1.2))], by kernel_rfl, rfl, ⟨gP, aV.refl _, trivial⟩⟩ ?_
    obtain rfl := oI h0
    exact aJ (bA (Q_r hO))
  refine bN ?_
  refine bF [(4, (eL aE x1.1))] ?_
  refine aQ ?_
  refine aU aG 6 ?_
  refine bK 1 ?_
  obtain ⟨x5, hx6, h0⟩ := aW h0
  refine cM (NI x1.1 _ hx6) hO ?_
  intro H hO
  refine bC ?_
  refine bF [(2, (eL aH x5.1)), (3, (eI x5.2))] ?_
  refine bI ?_
  obtain rfl := oI h0
  exact aJ (Q_r hO)

theorem mS (s10 : (List aM)) (s21 : (List aM)) (eq2_f : Nat) (eq2_a eq2_c : List V) (eq2 : aM → aM → Option Bool) (eq2_h : ∀ a0 a1 r, eq2 a0 a1 = some r → bU Try.prog eq2_f (eq2_a ++ [(aH a0), (aH a1)] ++ eq2_c) (aK r)) (r : Bool) (h0 : cL s10 s21 eq2 = some r) : bU Try.prog 81 [(eL aH s10), (eL aH s21), (.fn (.func eq2_f) eq2_a eq2_c)] (aK r) := by
  intro H0
  refine cI Try.func81 ?_
  have hO := aP.start H0
  unfold cL at h0
  refine aX aG 1 [] [] ?_
  refine aQ ?_
  refine aX aG 5 [] [(14, (aK (!decide ((lN s10) = (lN s21)))))] ?_
  refine bM h0 (fun h0 => ?_) (fun h0 => ?_)
  · refine bY aG 1 [(6, (aK false))] ?_
    refine bI ?_
    obtain rfl := oI h0
    exact aJ (bA (Q_r hO))
  refine bN ?_
  refine bF [(0, (eL aH s10)), (1, (eL aH s21)), (2, (.fn (.func eq2_f) eq2_a eq2_c))] ?_
  refine dO (fun T H => Has T [] ∧ aP ⟨H0, [], []⟩ H [] ∧ cD eq2  = some r) ?_ ?_
  · clear hO h0
    rintro T H ⟨hT, hO, h0⟩
    refine bB hT ?_
    clear hT
    unfold cD at h0
    refine bY aG 1 [(6, (aK true))] ?_
    refine bI ?_
    obtain rfl := oI h0
    exact aJ (Q_r hO)
  refine aX aG 3 [0] [(15, (eL aH s10)), (16, (eI (lN s10))), (17, (eI (0 : Int)))] ?_
  refine bQ 0 ?_
  refine cU [(1, (eL aH s21)), (2, (.fn (.func eq2_f) eq2_a eq2_c)), (15, (eL aH s10)), (16, (eI (lN s10))), (17, (eI (0 : Int)))] ?_
  refine cO (fun T H => ∃ t15 : (List aM), ∃ t16 : Int, ∃ t17 : Int, Has T [(1, (eL aH s21)), (2, (.fn (.func eq2_f) eq2_a eq2_c)), (15, (eL aH t15)), (16, (eI t16)), (17, (eI t17))] ∧ aP ⟨H0, [], []⟩ H [] ∧ cK eq2 s21 t15 t16 t17 = some r) ?_ ⟨s10, (lN s10), (0 : Int), .eq (by kernel_rfl), hO, h0⟩
  clear hO h0
  rintro T H ⟨t15, t16, t17, hT, hO, h0⟩
  refine bB hT ?_
  clear hT
  unfold cK at h0
  obtain ⟨rr0, hl0, h0⟩ := aW h0
  refine cF (by kernel_rfl) (fun (s : Int) T H => Has T [(1, (eL aH s21)), (2, (.fn (.func eq2_f) eq2_a eq2_c)), (15, (eL aH t15)), (16, (eI t16)), (17, (eI s))] ∧ aP ⟨H0, [], []⟩ H []) hl0 ⟨.eq (by kernel_rfl), hO⟩ ?_
  clear hO
  rintro k0 s out1 T H ⟨hT, hO⟩ h1 ho0
  obtain ⟨t17, rfl⟩ : ∃ x, x = s := ⟨_, rfl⟩
  replace h1 : bW eq2 s21 t15 t16 t17 = some out1 := h1
  refine bB hT ?_
  clear hT
  unfold bW at h1
  refine aX aG 1 [] [(18, (aK (decide (t17 < t16))))] ?_
  refine aQ ?_
  refine bM h1 (fun h1 => ?_) (fun h1 => ?_)
  · refine bN ?_
    refine bF [(1, (eL aH s21)), (2, (.fn (.func eq2_f) eq2_a eq2_c)), (15, (eL aH t15)), (16, (eI t16)), (17, (eI t17))] ?_
    refine aQ ?_
    refine bQ 1 ?_
    refine aQ ?_
    refine aU aG 6 ?_
    obtain ⟨c3, h1⟩ := bL h1
    refine sL 3 [0 ≤ t17 ∧ t17 < (lN t15)] ⟨c3, trivial⟩ ?_
    refine rB 3 (.agg [(.sl true 0 (fun _ => .bad)), (eI 0), (eI 0)]) (aH (aM.mk ([]) (aS.mk 0 0))) (by kernel_rfl) (by kernel_rfl) (by kernel_rfl) (EW (xs := [(.sl true 0 (fun _ => .bad)), (eI 0), (eI 0)]) (ys := [(eL aL ([])), (eI 0), (eI 0)]) ⟨gP, aV.refl _, aV.refl _, trivial⟩) (by kernel_rfl) (by kernel_rfl) hO ?_
    intro lo4 H hO
    refine bK 5 ?_
    refine jR 0 lo4 3 0 (aH (aM.mk ([]) (aS.mk 0 0))) (aH (gD t15 t17)) [(aH (aM.mk ([]) (aS.mk 0 0)))] [(lo4, 3, [(aH (gD t15 t17))])] hO rfl (by kernel_rfl) ?_
    intro H hO
    refine cH ?_
    refine bS [] [(7, (eI t17)), (8, (.lp lo4 0 0))] ?_
    refine aQ ?_
    refine aU aG 6 ?_
    obtain ⟨c5, h1⟩ := bL h1
    refine sL 4 [0 ≤ t17 ∧ t17 < (lN s21)] ⟨c5, trivial⟩ ?_
    refine rB 3 (.agg [(.sl true 0 (fun _ => .bad)), (eI 0), (eI 0)]) (aH (aM.mk ([]) (aS.mk 0 0))) (by kernel_rfl) (by kernel_rfl) (by kernel_rfl) (EW (xs := [(.sl true 0 (fun _ => .bad)), (eI 0), (eI 0)]) (ys := [(eL aL ([])), (eI 0), (eI 0)]) ⟨gP, aV.refl _, aV.refl _, trivial⟩) (by kernel_rfl) (by kernel_rfl) hO ?_
    intro lo6 H hO
    refine jR 1 lo6 3 0 (aH (aM.mk ([]) (aS.mk 0 0))) (aH (gD s21 t17)) [(aH (aM.mk ([]) (aS.mk 0 0)))] [(lo4, 3, [(aH (gD t15 t17))]), (lo6, 3, [(aH (gD s21 t17))])] hO rfl (by kernel_rfl) ?_
    intro H hO
    refine cH ?_
    refine bS [7] [(9, (.lp lo6 0 0))] ?_
    refine aQ ?_
    refine aU aG 5 ?_
    refine bK 1 ?_
    refine lJ 0 lo4 3 0 (aH (gD t15 t17)) (aH (gD t15 t17)) [(aH (gD t15 t17))] hO rfl ?_
    refine lJ 1 lo6 3 0 (aH (gD s21 t17)) (aH (gD s21 t17)) [(aH (gD s21 t17))] hO rfl ?_
    obtain ⟨x7, hx8, h1⟩ := aW h1
    refine cM (eq2_h (gD t15 t17) (gD s21 t17) _ hx8) hO ?_
    intro H hO
    refine bC ?_
    replace hO := hO.pick (L' := []) [] (by decide) (by kernel_rfl)
    refine bS [8, 9] [(30, (aK (!x7)))] ?_
    refine bM h1 (fun h1 => ?_) (fun h1 => ?_)
    · refine bY aG 1 [(6, (aK false))] ?_
      refine bI ?_
      obtain rfl := oI h1
      obtain rfl : _ = rr0 := ho0
      replace h0 : some false = some r := h0
      obtain rfl := oI h0
      exact aJ (bX (bA (bA (bX (bA (Q_r hO))))))
    refine bN ?_
    refine dP [(1, (eL aH s21)), (2, (.fn (.func eq2_f) eq2_a eq2_c)), (15, (eL aH t15)), (16, (eI t16)), (17, (eI t17))] ?_
    refine aJ (aZ (aI (?_)))
    refine aU aG 2 ?_
    refine bC ?_
    exact aJ (aI (⟨rfl, _, (oI h1).symm, .eq (by kernel_rfl), hO⟩))
  refine eB 0 ?_
  obtain rfl := oI h1
  obtain rfl : _ = rr0 := ho0
  replace h0 : cD eq2  = some r := h0
  exact aJ (aY (aY (bP (aI (⟨rfl, .eq (by kernel_rfl), hO, h0⟩)))))

theorem NH (x0 : aM) (y1 : aM) (r : Bool) (h0 : nN x0 y1 = some r) : bU Try.prog 82 [(aH x0), (aH y1)] (aK r) := by
  intro H0
  refine cI Try.func82 ?_
  have hO := aP.start H0
  unfold nN at h0
  refine aQ ?_
  refine aU aG 3 ?_
  refine gO 3 (aH x0) (by kernel_rfl) (by kernel_rfl) ?_
  refine gO 3 (aH y1) (by kernel_rfl) (by kernel_rfl) ?_
  refine bC ?_
  refine bF [(2, (.rp (aH x0))), (3, (.rp (aH y1)))] ?_
  refine aQ ?_
  refine aU aG 13 ?_
  refine bK 10 ?_
  obtain ⟨x1, hx2, h0⟩ := aW h0
  refine iT [(10, true)] 78 [(eL aL x0.Row), (eL aL y1.Row)] (aK x1) ((decide (x0.Span.From = y1.Span.From)) && ((decide (x0.Span.To = y1.Span.To)) && true)) (by kernel_rfl) (by kernel_rfl) (by kernel_rfl) (fun hb3 => (IU x0.Row y1.Row _ (kI hx2 hb3))) hO ?_
  intro H hO
  refine bC ?_
  refine bF [(4, (aK (((decide (x0.Span.From = y1.Span.From)) && ((decide (x0.Span.To = y1.Span.To)) && true)) && x1)))] ?_
  refine bI ?_
  obtain rfl := oI h0
  exact aJ (Q_r hO)

theorem SF (a0 : (List aM)) (b1 : (List aM)) (r : Bool) (h0 : sE a0 b1 = some r) : bU Try.prog 41 [(eL aH a0), (eL aH b1)] (aK r) := by
  intro H0
  refine cI Try.func41 ?_
  have hO := aP.start H0
  unfold sE at h0
  refine aX aG 1 [] [] ?_
  refine aQ ?_
  refine aU aG 4 ?_
  refine bK 2 ?_
  obtain ⟨x1, hx2, h0⟩ := aW h0
  refine cM (mS a0 b1 82 [] [] (fun y0 y1 => nN y0 y1) (fun y0 y1 r h => NH y0 y1 r h) _ hx2) hO ?_
  intro H hO
  refine bC ?_
  refine bF [(4, (aK x1))] ?_
  refine bI ?_
  obtain rfl := oI h0
  exact aJ (Q_r hO)

theorem OF (a0 : (List aF)) (b1 : (List aF)) (r : Bool) (h0 : tR a0 b1 = some r) : bU Try.prog 46 [(eL aL a0), (eL aL b1)] (aK r) := by
  intro H0
  refine cI Try.func46 ?_
  have hO := aP.start H0
  unfold tR at h0
  refine aX aG 1 [] [] ?_
  refine aQ ?_
  refine aX aG 5 [] [(10, (aK (!decide ((lN a0) = (lN b1)))))] ?_
  refine bM h0 (fun h0 => ?_) (fun h0 => ?_)
  · refine bY aG 1 [(4, (aK false))] ?_
    refine bI ?_
    obtain rfl := oI h0
    exact aJ (bA (Q_r hO))
  refine bN ?_
  refine bF [(0, (eL aL a0)), (1, (eL aL b1))] ?_
  refine dO (fun T H => Has T [] ∧ aP ⟨H0, [], []⟩ H [] ∧ rR  = some r) ?_ ?_
  · clear hO h0
    rintro T H ⟨hT, hO, h0⟩
    refine bB hT ?_
    clear hT
    unfold rR at h0
    refine bY aG 1 [(4, (aK true))] ?_
    refine bI ?_
    obtain rfl := oI h0
    exact aJ (Q_r hO)
  refine aX aG 1 [] [(5, (eI (0 : Int)))] ?_
  refine bQ 0 ?_
  refine cU [(0, (eL aL a0)), (1, (eL aL b1)), (5, (eI (0 : Int)))] ?_
  refine cO (fun T H => ∃ i5 : Int, Has T [(0, (eL aL a0)), (1, (eL aL b1)), (5, (eI i5))] ∧ aP ⟨H0, [], []⟩ H [] ∧ vH a0 b1 i5 = some r) ?_ ⟨(0 : Int), .eq (by kernel_rfl), hO, h0⟩
  clear hO h0
  rintro T H ⟨i5, hT, hO, h0⟩
  refine bB hT ?_
  clear hT
  unfold vH at h0
  obtain ⟨rr0, hl0, h0⟩ := aW h0
  refine cF (by kernel_rfl) (fun (s : Int) T H => Has T [(0, (eL aL a0)), (1, (eL aL b1)), (5, (eI s))] ∧ aP ⟨H0, [], []⟩ H []) hl0 ⟨.eq (by kernel_rfl), hO⟩ ?_
  clear hO
  rintro k0 s out1 T H ⟨hT, hO⟩ h1 ho0
  obtain ⟨i5, rfl⟩ : ∃ x, x = s := ⟨_, rfl⟩
  replace h1 : pG a0 b1 i5 = some out1 := h1
  refine bB hT ?_
  clear hT
  unfold pG at h1
  refine aQ ?_
  refine aX aG 4 [] [(14, (aK (decide (i5 < (lN a0)))))] ?_
  refine bM h1 (fun h1 => ?_) (fun h1 => ?_)
  · refine bN ?_
    refine bF [(0, (eL aL a0)), (1, (eL aL b1)), (5, (eI i5))] ?_
    refine aQ ?_
    refine bQ 1 ?_
    refine aQ ?_
    refine kU (kP [20, 24]) aG 9 ?_
    obtain ⟨c3, h1⟩ := bL h1
    obtain ⟨c4, h1⟩ := bL h1
    refine OB (Ds := [0 ≤ i5 ∧ i5 < (lN a0), 0 ≤ i5 ∧ i5 < (lN b1)]) (by kernel_rfl) ⟨c3, c4, trivial⟩ ?_
    refine bS [] [(25, (aK (!((decide (((gD a0 i5).Kind) = ((gD b1 i5).Kind))) && ((decide (((gD a0 i5).Num) = ((gD b1 i5).Num))) && ((nX ((gD a0 i5).Text) ((gD b1 i5).Text)) && true))))))] ?_
    refine bM h1 (fun h1 => ?_) (fun h1 => ?_)
    · refine bY aG 1 [(4, (aK false))] ?_
      refine bI ?_
      obtain rfl := oI h1
      obtain rfl : _ = rr0 := ho0
      replace h0 : some false = some r := h0
      obtain rfl := oI h0
      exact aJ (bX (bA (bA (bX (bA (Q_r hO))))))
    refine bN ?_
    refine dP [(0, (eL aL a0)), (1, (eL aL b1)), (5, (eI i5))] ?_
    refine aJ (aZ (aI (?_)))
    refine aU aG 3 ?_
    refine bC ?_
    exact aJ (aI (⟨rfl, _, (oI h1).symm, .eq (by kernel_rfl), hO⟩))
  refine eB 0 ?_
  obtain rfl := oI h1
  obtain rfl : _ = rr0 := ho0
  replace h0 : rR  = some r := h0
  exact aJ (aY (aY (bP (aI (⟨rfl, .eq (by kernel_rfl), hO, h0⟩)))))

theorem EZ (a0 : (List aM)) (b1 : (List aM)) (r : Bool) (h0 : oS a0 b1 = some r) : bU Try.prog 12 [(eL aH a0), (eL aH b1)] (aK r) := by
  intro H0
  refine cI Try.func12 ?_
  have hO := aP.start H0
  unfold oS at h0
  refine aX aG 1 [] [] ?_
  refine aQ ?_
  refine aX aG 5 [] [(10, (aK (!decide ((lN a0) = (lN b1)))))] ?_
  refine bM h0 (fun h0 => ?_) (fun h0 => ?_)
  · refine bY aG 1 [(4, (aK false))] ?_
    refine bI ?_
    obtain rfl := oI h0
    exact aJ (bA (Q_r hO))
  refine bN ?_
  refine bF [(0, (eL aH a0)), (1, (eL aH b1))] ?_
  refine dO (fun T H => Has T [] ∧ aP ⟨H0, [], []⟩ H [] ∧ rL  = some r) ?_ ?_
  · clear hO h0
    rintro T H ⟨hT, hO, h0⟩
    refine bB hT ?_
    clear hT
    unfold rL at h0
    refine bY aG 1 [(4, (aK true))] ?_
    refine bI ?_
    obtain rfl := oI h0
    exact aJ (Q_r hO)
  refine aX aG 1 [] [(5, (eI (0 : Int)))] ?_
  refine bQ 0 ?_
  refine cU [(0, (eL aH a0)), (1, (eL aH b1)), (5, (eI (0 : Int)))] ?_
  refine cO (fun T H => ∃ i5 : Int, Has T [(0, (eL aH a0)), (1, (eL aH b1)), (5, (eI i5))] ∧ aP ⟨H0, [], []⟩ H [] ∧ vO a0 b1 i5 = some r) ?_ ⟨(0 : Int), .eq (by kernel_rfl), hO, h0⟩
  clear hO h0
  rintro T H ⟨i5, hT, hO, h0⟩
  refine bB hT ?_
  clear hT
  unfold vO at h0
  obtain ⟨rr0, hl0, h0⟩ := aW h0
  refine cF (by kernel_rfl) (fun (s : Int) T H => Has T [(0, (eL aH a0)), (1, (eL aH b1)), (5, (eI s))] ∧ aP ⟨H0, [], []⟩ H []) hl0 ⟨.eq (by kernel_rfl), hO⟩ ?_
  clear hO
  rintro k0 s out1 T H ⟨hT, hO⟩ h1 ho0
  obtain ⟨i5, rfl⟩ : ∃ x, x = s := ⟨_, rfl⟩
  replace h1 : pL a0 b1 i5 = some out1 := h1
  refine bB hT ?_
  clear hT
  unfold pL at h1
  refine aQ ?_
  refine aX aG 4 [] [(14, (aK (decide (i5 < (lN a0)))))] ?_
  refine bM h1 (fun h1 => ?_) (fun h1 => ?_)
  · refine bN ?_
    refine bF [(0, (eL aH a0)), (1, (eL aH b1)), (5, (eI i5))] ?_
    refine aQ ?_
    refine bQ 1 ?_
    refine aQ ?_
    obtain ⟨c3, h1⟩ := bL h1
    obtain ⟨c4, h1⟩ := bL h1
    obtain ⟨c5, h1⟩ := bL h1
    obtain ⟨c6, h1⟩ := bL h1
    obtain ⟨x7, hx8, h1⟩ := aW h1
    refine kU (kP [21, 26, 33, 38]) aG 25 ?_
    refine EK (K := fun T H => Has (lift T) [(0, (eL aH a0)), (1, (eL aH b1)), (5, (eI i5)), (41, (aK ((!((decide ((((gD a0 i5).Span).From) = (((gD b1 i5).Span).From))) && ((decide ((((gD a0 i5).Span).To) = (((gD b1 i5).Span).To))) && true))) || (!x7))))] ∧ aP ⟨H0, [], []⟩ H []) ?_ ?_
    · refine dK 12 [0 ≤ i5 ∧ i5 < (lN a0), 0 ≤ i5 ∧ i5 < (lN b1)] ⟨c3, c4, trivial⟩ ?_
      refine GG (t := 28) (e := !((decide ((((gD a0 i5).Span).From) = (((gD b1 i5).Span).From))) && ((decide ((((gD a0 i5).Span).To) = (((gD b1 i5).Span).To))) && true))) (by kernel_rfl) (fun hg9 => ?_) (fun hg9 => ?_)
      · refine qO ?_
        exact ⟨⟨[(0, (eL aH a0)), (1, (eL aH b1)), (5, (eI i5)), (41, (aK true))], by kernel_rfl, rfl, ⟨aV.refl _, aV.refl _, aV.refl _, aV.eq (congrArg aK (aBh hg9 rfl).symm), trivial⟩⟩, hO⟩
      refine dK 22 [0 ≤ i5 ∧ i5 < (lN a0), 0 ≤ i5 ∧ i5 < (lN b1)] ⟨(c5 (VL hg9)), (c6 (VL hg9)), trivial⟩ ?_
      refine KT 46 [(eL aL ((gD a0 i5).Row)), (eL aL ((gD b1 i5).Row))] (aK x7) (by kernel_rfl) (by kernel_rfl) (OF ((gD a0 i5).Row) ((gD b1 i5).Row) _ (kI hx8 (VL hg9))) hO ?_
      intro H hO
      refine qO ?_
      exact ⟨⟨[(0, (eL aH a0)), (1, (eL aH b1)), (5, (eI i5)), (41, (aK (!x7)))], by kernel_rfl, rfl, ⟨aV.refl _, aV.refl _, aV.refl _, aV.eq (congrArg aK (aBh hg9 rfl).symm), trivial⟩⟩, hO⟩
    · rintro T H ⟨hT, hO⟩
      refine cS hT ?_
      clear hT
      refine aJ (aI ?_)
      refine bM h1 (fun h1 => ?_) (fun h1 => ?_)
      · refine bY aG 1 [(4, (aK false))] ?_
        refine bI ?_
        obtain rfl := oI h1
        obtain rfl : _ = rr0 := ho0
        replace h0 : some false = some r := h0
        obtain rfl := oI h0
        exact aJ (bX (bA (bA (bX (bA (Q_r hO))))))
      refine bN ?_
      refine dP [(0, (eL aH a0)), (1, (eL aH b1)), (5, (eI i5))] ?_
      refine aJ (aZ (aI (?_)))
      refine aU aG 3 ?_
      refine bC ?_
      exact aJ (aI (⟨rfl, _, (oI h1).symm, .eq (by kernel_rfl), hO⟩))
  refine eB 0 ?_
  obtain rfl := oI h1
  obtain rfl : _ = rr0 := ho0
  replace h0 : rL  = some r := h0
  exact aJ (aY (aY (bP (aI (⟨rfl, .eq (by kernel_rfl), hO, h0⟩)))))

theorem zY  (r : Bool) (h0 : oR  = some r) : bU Try.prog 10 [] (aK r) := by
  intro H0
  refine cI Try.func10 ?_
  have hO := aP.start H0
  unfold oR at h0
  refine bY aG 1 [] ?_
  refine aQ ?_
  refine aU aG 9 ?_
  obtain ⟨x1, hx2, h0⟩ := aW h0
  refine cM (nE (5 : Int) (9 : Int) _ hx2) hO ?_
  intro H hO
  obtain ⟨x4, hx5, h0⟩ := aW h0
  refine cM (nE (2 : Int) (5 : Int) _ hx5) hO ?_
  intro H hO
  refine tT (xs := [(aH x1), (aH x4)]) (k := 3) (by kernel_rfl) (by kernel_rfl) ?_
  obtain ⟨x7, hx8, h0⟩ := aW h0
  refine aBt 11 [(eT [(aH x1), (aH x4)])] (.tup [(eL aH x7.1), (eI x7.2)]) (bU.sub (xQ ([x1, x4]) _ hx8) ⟨BN (l := [x1, x4]), trivial⟩) hO ?_
  intro H hO
  refine bC ?_
  refine bF [(1, (eL aH x7.1)), (2, (eI x7.2))] ?_
  refine aQ ?_
  refine aU aG 9 ?_
  obtain ⟨x10, hx11, h0⟩ := aW h0
  refine cM (nE (1 : Int) (10 : Int) _ hx11) hO ?_
  intro H hO
  obtain ⟨x13, hx14, h0⟩ := aW h0
  refine cM (nE (3 : Int) (5 : Int) _ hx14) hO ?_
  intro H hO
  refine tT (xs := [(aH x10), (aH x13)]) (k := 3) (by kernel_rfl) (by kernel_rfl) ?_
  obtain ⟨x16, hx17, h0⟩ := aW h0
  refine aBt 11 [(eT [(aH x10), (aH x13)])] (.tup [(eL aH x16.1), (eI x16.2)]) (bU.sub (xQ ([x10, x13]) _ hx17) ⟨BN (l := [x10, x13]), trivial⟩) hO ?_
  intro H hO
  refine bC ?_
  refine bS [] [(3, (eL aH x16.1)), (4, (eI x16.2))] ?_
  refine aQ ?_
  refine aU aG 29 ?_
  refine bK 8 ?_
  obtain ⟨x19, hx20, h0⟩ := aW h0
  refine iT [(25, true)] 44 [(eI (2 : Int)), (eI (9 : Int))] (aH x19) ((decide (x7.2 = (0 : Int))) && (decide (x16.2 = (0 : Int)))) (by kernel_rfl) (by kernel_rfl) (by kernel_rfl) (fun hb21 => (nE (2 : Int) (9 : Int) _ (kI hx20 hb21))) hO ?_
  intro H hO
  refine WB [(25, true)] [(aH x19)] (by kernel_rfl) (by kernel_rfl) ?_
  obtain ⟨x22, hx23, h0⟩ := aW h0
  refine iT [(25, true)] 41 [(eL aH x7.1), (eT [(aH x19)])] (aK x22) ((decide (x7.2 = (0 : Int))) && (decide (x16.2 = (0 : Int)))) (by kernel_rfl) (by kernel_rfl) (by kernel_rfl) (fun hb24 => (bU.sub (SF x7.1 ([x19]) _ (kI hx23 hb24)) ⟨aV.refl _, BN (l := [x19]), trivial⟩)) hO ?_
  intro H hO
  refine bK 14 ?_
  obtain ⟨x25, hx26, h0⟩ := aW h0
  refine iT [(31, true)] 44 [(eI (1 : Int)), (eI (5 : Int))] (aH x25) (((decide (x7.2 = (0 : Int))) && (decide (x16.2 = (0 : Int)))) && x22) (by kernel_rfl) (by kernel_rfl) (by kernel_rfl) (fun hb27 => (nE (1 : Int) (5 : Int) _ (kI hx26 hb27))) hO ?_
  intro H hO
  obtain ⟨x28, hx29, h0⟩ := aW h0
  refine iT [(31, true)] 44 [(eI (3 : Int)), (eI (10 : Int))] (aH x28) (((decide (x7.2 = (0 : Int))) && (decide (x16.2 = (0 : Int)))) && x22) (by kernel_rfl) (by kernel_rfl) (by kernel_rfl) (fun hb30 => (nE (3 : Int) (10 : Int) _ (kI hx29 hb30))) hO ?_
  intro H hO
  refine WB [(31, true)] [(aH x25), (aH x28)] (by kernel_rfl) (by kernel_rfl) ?_
  obtain ⟨x31, hx32, h0⟩ := aW h0
  refine iT [(31, true)] 12 [(eL aH x16.1), (eT [(aH x25), (aH x28)])] (aK x31) (((decide (x7.2 = (0 : Int))) && (decide (x16.2 = (0 : Int)))) && x22) (by kernel_rfl) (by kernel_rfl) (by kernel_rfl) (fun hb33 => (bU.sub (EZ x16.1 ([x25, x28]) _ (kI hx32 hb33)) ⟨aV.refl _, BN (l := [x25, x28]), trivial⟩)) hO ?_
  intro H hO
  refine bK 20 ?_
  obtain ⟨x34, hx35, h0⟩ := aW h0
  refine iT [(38, true)] 44 [(eI (-1 : Int)), (eI (0 : Int))] (aH x34) ((((decide (x7.2 = (0 : Int))) && (decide (x16.2 = (0 : Int)))) && x22) && x31) (by kernel_rfl) (by kernel_rfl) (by kernel_rfl) (fun hb36 => (nE (-1 : Int) (0 : Int) _ (kI hx35 hb36))) hO ?_
  intro H hO
  obtain ⟨x37, hx38, h0⟩ := aW h0
  refine iT [(38, true)] 45 [(aH x34)] (aK x37) ((((decide (x7.2 = (0 : Int))) && (decide (x16.2 = (0 : Int)))) && x22) && x31) (by kernel_rfl) (by kernel_rfl) (by kernel_rfl) (fun hb39 => (CM x34 _ (kI hx38 hb39))) hO ?_
  intro H hO
  refine bK 24 ?_
  obtain ⟨x40, hx41, h0⟩ := aW h0
  refine iT [(42, true)] 44 [(eI (3 : Int)), (eI (3 : Int))] (aH x40) (((((decide (x7.2 = (0 : Int))) && (decide (x16.2 = (0 : Int)))) && x22) && x31) && x37) (by kernel_rfl) (by kernel_rfl) (by kernel_rfl) (fun hb42 => (nE (3 : Int) (3 : Int) _ (kI hx41 hb42))) hO ?_
  intro H hO
  obtain ⟨x43, hx44, h0⟩ := aW h0
  refine iT [(42, true)] 45 [(aH x40)] (aK x43) (((((decide (x7.2 = (0 : Int))) && (decide (x16.2 = (0 : Int)))) && x22) && x31) && x37) (by kernel_rfl) (by kernel_rfl) (by kernel_rfl) (fun hb45 => (CM x40 _ (kI hx44 hb45))) hO ?_
  intro H hO
  refine bC ?_
  refine bF [(0, (aK ((((((decide (x7.2 = (0 : Int))) && (decide (x16.2 = (0 : Int)))) && x22) && x31) && x37) && (!x43))))] ?_
  refine bI ?_
  obtain rfl := oI h0
  exact aJ (Q_r hO)

theorem IJ (l0 : (List aM)) (r : Bool) (h0 : qV l0 = some r) : bU Try.prog 3 [(eL aH l0)] (aK r) := by
  intro H0
  refine cI Try.func3 ?_
  have hO := aP.start H0
  unfold qV at h0
  refine aX aG 1 [] [] ?_
  refine aQ ?_
  refine aX aG 3 [] [(11, (aK (decide ((2000 : Int) < (lN l0)))))] ?_
  refine bM h0 (fun h0 => ?_) (fun h0 => ?_)
  · refine aQ ?_
    refine aU aG 2 ?_
    obtain ⟨x2, hx3, h0⟩ := aW h0
    refine cM (zY  _ hx3) hO ?_
    intro H hO
    refine bC ?_
    refine bF [(2, (aK x2))] ?_
    refine bI ?_
    obtain rfl := oI h0
    exact aJ (bA (Q_r hO))
  refine bN ?_
  refine bF [(0, (eL aH l0))] ?_
  refine aQ ?_
  refine aU aG 7 ?_
  refine bK 1 ?_
  obtain ⟨x5, hx6, h0⟩ := aW h0
  refine cM (xQ l0 _ hx6) hO ?_
  intro H hO
  refine bC ?_
  refine bS [] [(3, (eL aH x5.1)), (4, (eI x5.2))] ?_
  refine aQ ?_
  refine aX aG 2 [4] [(19, (aK (!decide (x5.2 = (0 : Int)))))] ?_
  refine bM h0 (fun h0 => ?_) (fun h0 => ?_)
  · refine aQ ?_
    refine aU aG 2 ?_
    obtain ⟨x9, hx10, h0⟩ := aW h0
    refine cM (zY  _ hx10) hO ?_
    intro H hO
    refine bC ?_
    refine bF [(2, (aK x9))] ?_
    refine bI ?_
    obtain rfl := oI h0
    exact aJ (bA (Q_r hO))
  refine bN ?_
  refine bF [(0, (eL aH l0)), (3, (eL aH x5.1))] ?_
  refine aQ ?_
  refine aU aG 2 ?_
  refine tT (xs := []) (k := 3) (by kernel_rfl) (by kernel_rfl) ?_
  refine bC ?_
  refine bS [] [(5, (.sl true 0 (fun _ => .bad)))] ?_
  refine dO (fun T H => ∃ a3 : (List aM), ∃ eA : List aM, ∃ lo12 : Nat, Has T [(0, (eL aH l0)), (3, (eL aH a3)), (5, (.msl 3 lo12 0 (List.length eA)))] ∧ aP ⟨H0, [], []⟩ H [(lo12, 3, List.map aH eA)] ∧ nR l0 a3 eA = some r) ?_ ?_
  · clear hO h0
    rintro T H ⟨a3, eA, lo12, hT, hO, h0⟩
    refine bB hT ?_
    clear hT
    unfold nR at h0
    refine aQ ?_
    refine aU aG 7 ?_
    refine yG (e := aH) eA 0 5 3 lo12 (List.length eA) [] (by kernel_rfl) hO (by kernel_rfl) (by kernel_rfl) (by kernel_rfl) (by kernel_rfl) ?_
    intro H hO
    refine bK 1 ?_
    obtain ⟨x13, hx14, h0⟩ := aW h0
    refine cM (xQ eA _ hx14) hO ?_
    intro H hO
    refine bC ?_
    refine bS [5] [(7, (eL aH x13.1)), (8, (eI x13.2))] ?_
    refine aQ ?_
    refine aU aG 18 ?_
    obtain ⟨x16, hx17, h0⟩ := aW h0
    refine cM (zY  _ hx17) hO ?_
    intro H hO
    refine bK 8 ?_
    obtain ⟨x19, hx20, h0⟩ := aW h0
    refine iT [(46, true)] 12 [(eL aH a3), (eL aH x13.1)] (aK x19) (x16 && (decide (x13.2 = (0 : Int)))) (by kernel_rfl) (by kernel_rfl) (by kernel_rfl) (fun hb21 => (EZ a3 x13.1 _ (kI hx20 hb21))) hO ?_
    intro H hO
    refine bC ?_
    refine bF [(2, (aK (((x16 && (decide (x13.2 = (0 : Int)))) && x19) && (decide ((lN a3) ≤ (lN l0))))))] ?_
    refine bI ?_
    obtain rfl := oI h0
    exact aJ (Q_r hO)
  refine aX aG 4 [] [(6, (eI (wR ((lN x5.1) - (1 : Int)))))] ?_
  refine bQ 0 ?_
  refine cU [(0, (eL aH l0)), (3, (eL aH x5.1)), (5, (.sl true 0 (fun _ => .bad))), (6, (eI (wR ((lN x5.1) - (1 : Int)))))] ?_
  refine PM (el := (fun _ => .bad)) 2 5 3 hO (by kernel_rfl) ?_
  intro lo28 H29 hO
  refine cO (fun T H => ∃ a3 : (List aM), ∃ eA : List aM, ∃ i6 : Int, ∃ lo23 : Nat, Has T [(0, (eL aH l0)), (3, (eL aH a3)), (5, (.msl 3 lo23 0 (List.length eA))), (6, (eI i6))] ∧ aP ⟨H0, [], []⟩ H [(lo23, 3, List.map aH eA)] ∧ qB l0 a3 eA i6 = some r) ?_ ⟨x5.1, ([] : List aM), wR ((lN x5.1) - (1 : Int)), lo28, .eq (by kernel_rfl), hO, h0⟩
  clear hO h0
  rintro T H ⟨a3, eA, i6, lo23, hT, hO, h0⟩
  refine bB hT ?_
  clear hT
  unfold qB at h0
  obtain ⟨rr0, hl0, h0⟩ := aW h0
  refine cF (by kernel_rfl) (fun (s : List aM × Int) T H => ∃ lo23 : Nat, Has T [(0, (eL aH l0)), (3, (eL aH a3)), (5, (.msl 3 lo23 0 (List.length s.1))), (6, (eI s.2))] ∧ aP ⟨H0, [], []⟩ H [(lo23, 3, List.map aH s.1)]) hl0 ⟨lo23, .eq (by kernel_rfl), hO⟩ ?_
  clear hO
  rintro k0 s out1 T H ⟨lo23, hT, hO⟩ h1 ho0
  obtain ⟨eA, i6⟩ := s
  replace h1 : iW l0 a3 eA i6 = some out1 := h1
  try dsimp only at hT
  refine bB hT ?_
  clear hT
  unfold iW at h1
  refine aQ ?_
  refine aX aG 2 [] [(26, (aK (decide ((0 : Int) ≤ i6))))] ?_
  refine bM h1 (fun h1 => ?_) (fun h1 => ?_)
  · refine bN ?_
    refine bF [(0, (eL aH l0)), (3, (eL aH a3)), (5, (.msl 3 lo23 0 (List.length eA))), (6, (eI i6))] ?_
    refine aQ ?_
    refine bQ 1 ?_
    refine aU aG 8 ?_
    obtain ⟨c25, h1⟩ := bL h1
    refine sL 5 [0 ≤ i6 ∧ i6 < (lN a3)] ⟨c25, trivial⟩ ?_
    refine tT (xs := [(aH (gD a3 i6))]) (k := 3) (by kernel_rfl) (by kernel_rfl) ?_
    obtain ⟨c27, h1⟩ := bL h1
    refine BY (e := aH) eA ([gD a3 i6]) 0 lo23 3 40 (eT [(aH (gD a3 i6))]) (fun lo26 => [(lo26, 3, List.map aH (eA ++ ([gD a3 i6])))]) (by kernel_rfl) (by kernel_rfl) hO (by kernel_rfl) (by kernel_rfl) c27 (fun _ => by kernel_rfl) ?_
    intro lo26 H hO
    refine bC ?_
    refine dP [(0, (eL aH l0)), (3, (eL aH a3)), (5, (.msl 3 lo26 0 (List.length (eA ++ ([gD a3 i6]))))), (6, (eI i6))] ?_
    refine aJ (aZ (aI (?_)))
    refine aU aG 3 ?_
    refine bC ?_
    exact aJ (aI (⟨rfl, _, (oI h1).symm, _, .eq (by kernel_rfl), hO⟩))
  refine eB 0 ?_
  obtain rfl := oI h1
  obtain rfl : _ = rr0 := ho0
  replace h0 : nR l0 a3 eA = some r := h0
  exact aJ (aY (aY (bP (aI (⟨rfl, _, _, _, .eq (by kernel_rfl), hO, h0⟩)))))

end Go.Abs
namespace Go.Abs
open Go Go.RowKit Go.Proofs
theorem EM {H : Type} {enc : TypeId × Value → H} {w : World} : vG enc Try.prog w 79 aL zR :=
  zU Try.underlying79 (by kernel_rfl) (pW (c' := GU) (ok' := zR) (fun (a : Int) (b : Int × ByteArray × Unit) => (aF.mk a b.1 b.2.1 : aF)) (by kernel_rfl) (AQ Try.underlying77) (pW (c' := fun (b : Int × ByteArray × Unit) => (V.cells (vW .i64 b.1) ++ (V.cells (xE b.2.1) ++ []))) (ok' := fun b => (DJ b.1 ∧ ((fun s => s.size ≤ maxLen) b.2.1 ∧ True))) (fun a b => (a, b)) (by kernel_rfl) (AQ Try.underlying3) (pW (c' := fun (b : ByteArray × Unit) => (V.cells (xE b.1) ++ [])) (ok' := fun b => ((fun s => s.size ≤ maxLen) b.1 ∧ True)) (fun a b => (a, b)) (by kernel_rfl) (PO Try.underlying9) (CG ()) (fun _ _ => rfl) (fun _ _ h1 h2 => ⟨h1, h2⟩)) (fun _ _ => rfl) (fun _ _ h1 h2 => ⟨h1, h2⟩)) (fun _ _ => rfl) (fun _ _ h1 h2 => ⟨h1, h2⟩))

theorem GM {H : Type} {enc : TypeId × Value → H} {w : World} : vG enc Try.prog w 30 bH xN :=
  zU Try.underlying30 (by kernel_rfl) (pW (c' := CK) (ok' := xN) (fun (a : Int) (b : Int × Unit) => (aS.mk a b.1 : aS)) (by kernel_rfl) (AQ Try.underlying3) (pW (c' := fun (b : Int × Unit) => (V.cells (vW .i64 b.1) ++ [])) (ok' := fun b => (DJ b.1 ∧ True)) (fun a b => (a, b)) (by kernel_rfl) (AQ Try.underlying3) (CG ()) (fun _ _ => rfl) (fun _ _ h1 h2 => ⟨h1, h2⟩)) (fun _ _ => rfl) (fun _ _ h1 h2 => ⟨h1, h2⟩))

theorem EX {H : Type} {enc : TypeId × Value → H} {w : World} : vG enc Try.prog w 32 aH tE :=
  zU Try.underlying32 (by kernel_rfl) (pW (c' := HG) (ok' := tE) (fun (a : (List aF)) (b : aS × Unit) => (aM.mk a b.1 : aM)) (by kernel_rfl) (SH Try.underlying28 (by decide +kernel) (fun _ => by kernel_rfl) (fun _ => rfl) EM (by kernel_rfl)) (pW (c' := fun (b : aS × Unit) => (V.cells (bH b.1) ++ [])) (ok' := fun b => (xN b.1 ∧ True)) (fun a b => (a, b)) (by kernel_rfl) GM (CG ()) (fun _ _ => rfl) (fun _ _ h1 h2 => ⟨h1, h2⟩)) (fun _ _ => rfl) (fun _ _ h1 h2 => ⟨h1, h2⟩))

end Go.Abs
namespace Go.Abs
open Go
theorem gM {n : Int} (h1 : -9223372036854775808 ≤ n) (h2 : n ≤ 9223372036854775807) : IntKind.i64.wrap n = n := by
  simp only [IntKind.wrap, IntKind.bits, IntKind.signed]
  simp
  split <;> omega

def vM {α st R : Type} (step : st → α → Option (st ⊕ R)) (fin : st → R) : st → List α → Option R
  | s, [] => some (fin s)
  | s, a :: r => match step s a with
    | some (.inl s') => vM step fin s' r
    | some (.inr x) => some x
    | none => none

theorem VE {α st R : Type} {step : st → α → Option (st ⊕ R)} {fin : st → R} {s s' : st} {a : α} {r : List α} (h : step s a = some (.inl s')) : vM step fin s (a :: r) = vM step fin s' r := by
  simp only [vM, h]

theorem VI {α st R : Type} {step : st → α → Option (st ⊕ R)} {fin : st → R} {s : st} {x : R} {a : α} {r : List α} (h : step s a = some (.inr x)) : vM step fin s (a :: r) = some x := by
  simp only [vM, h]

theorem TS {α S st R : Type} {body : S → Option (S ⊕ R)} {l : List α} (mk : st → Int → S) (step : st → α → Option (st ⊕ R)) (fin : st → R)
    (hn : ∀ (i : Nat) a s, l[i]? = some a → (∀ s', step s a = some (.inl s') → body (mk s i) = some (.inl (mk s' ((i + 1 : Nat) : Int)))) ∧ (∀ x, step s a = some (.inr x) → body (mk s i) = some (.inr x)))
    (he : ∀ s, body (mk s (l.length : Nat)) = some (.inr (fin s))) : ∀ (m k : Nat) (s : st) (r : R), l.length - k = m → k ≤ l.length → vM step fin s (l.drop k) = some r → lp body (mk s k) = some r
  | 0, k, s, r, hm, hk, h => by
    have : k = l.length := by omega
    subst this
    rw [List.drop_length] at h
    simp only [vM, Option.some.injEq] at h
    subst h
    exact cR (he s)
  | m + 1, k, s, r, hm, hk, h => by
    have hlt : k < l.length := by omega
    have hd : l.drop k = l[k] :: l.drop (k + 1) := List.drop_eq_getElem_cons hlt
    rw [hd] at h
    simp only [vM] at h
    obtain ⟨h1, h2⟩ := hn k l[k] s (List.getElem?_eq_getElem hlt)
    split at h
    · rename_i s' hs
      rw [eG (h1 s' hs)]
      exact TS mk step fin hn he m (k + 1) s' r (by omega) (by omega) h
    · rename_i x hs
      simp at h; subst h
      exact cR (h2 x hs)
    · cases h

theorem YH {α S st R : Type} {body : S → Option (S ⊕ R)} {l : List α} (mk : st → Int → S) (step : st → α → Option (st ⊕ R)) (fin : st → R)
    (hn : ∀ (i : Nat) a s, l[i]? = some a → (∀ s', step s a = some (.inl s') → body (mk s i) = some (.inl (mk s' ((i + 1 : Nat) : Int)))) ∧ (∀ x, step s a = some (.inr x) → body (mk s i) = some (.inr x)))
    (he : ∀ s, body (mk s (l.length : Nat)) = some (.inr (fin s))) {s : st} {r : R} (h : vM step fin s l = some r) : lp body (mk s 0) = some r :=
  TS mk step fin hn he _ 0 s r rfl (Nat.zero_le _) (by simpa using h)

theorem idx {α : Type} [Inhabited α] {l : List α} {i : Nat} {a : α} (h : l[i]? = some a) (hl : l.length < 4611686018427387904) :
    decide ((i : Int) < ((l.length : Nat) : Int)) = true ∧ (0 ≤ (i : Int) ∧ (i : Int) < ((l.length : Nat) : Int)) ∧ l.getD (Int.toNat (i : Int)) default = a ∧ IntKind.i64.wrap ((i : Int) + 1) = ((i + 1 : Nat) : Int) := by
  have hlt : i < l.length := (List.getElem?_eq_some_iff.1 h).1
  refine ⟨by simpa using hlt, ⟨by omega, by omega⟩, ?_, ?_⟩
  · rw [Int.toNat_natCast, List.getD_eq_getElem?_getD, h]; rfl
  · rw [gM (by omega) (by omega)]; omega

theorem lO {n : Nat} : decide (((n : Nat) : Int) < ((n : Nat) : Int)) = false := by simp

theorem aBL {α : Type} {j : α} {r : List α} : (0 : Int) ≤ 0 ∧ (0 : Int) < ((List.length (j :: r) : Nat) : Int) := ⟨by omega, by simp⟩

theorem aA6 {α : Type} [Inhabited α] {j : α} {r : List α} : List.getD (j :: r) (Int.toNat (0 : Int)) default = j := rfl

end Go.Abs
namespace Go.Abs
open Go
theorem drop_cons {α : Type} {l r : List α} {a : α} {k : Nat} (h : l.drop k = a :: r) : l[k]? = some a ∧ l.drop (k + 1) = r := by
  have hk : k < l.length := by
    apply Classical.byContradiction; intro hn
    rw [List.drop_eq_nil_of_le (by omega)] at h; cases h
  rw [List.drop_eq_getElem_cons hk] at h
  obtain ⟨h1, h2⟩ := List.cons.inj h
  exact ⟨by rw [List.getElem?_eq_getElem hk, h1], h2⟩

theorem VU {α S st R : Type} {body : S → Option (S ⊕ R)} {l : List α} (mk : st → Int → S) (G : st → List α → R) (Inv : st → List α → Prop)
    (hn : ∀ (i : Nat) a r s, l[i]? = some a → Inv s (a :: r) → (∃ s', body (mk s i) = some (.inl (mk s' ((i + 1 : Nat) : Int))) ∧ Inv s' r ∧ G s' r = G s (a :: r)) ∨ body (mk s i) = some (.inr (G s (a :: r))))
    (he : ∀ s, Inv s [] → body (mk s (l.length : Nat)) = some (.inr (G s []))) : ∀ (r : List α) (k : Nat) (s : st), l.drop k = r → k ≤ l.length → Inv s r → lp body (mk s k) = some (G s r)
  | [], k, s, hd, hk, hi => by
    have : k = l.length := by
      have := congrArg List.length hd
      simp only [List.length_drop, List.length_nil] at this; omega
    subst this
    exact cR (he s hi)
  | a :: r, k, s, hd, hk, hi => by
    obtain ⟨h1, h2⟩ := drop_cons hd
    have hlt : k < l.length := (List.getElem?_eq_some_iff.1 h1).1
    rcases hn k a r s h1 hi with ⟨s', hb, hi', hg⟩ | hb
    · rw [eG hb, VU mk G Inv hn he r (k + 1) s' h2 (by omega) hi', hg]
    · exact cR hb

theorem zL {α S st R : Type} {body : S → Option (S ⊕ R)} {l : List α} (mk : st → Int → S) (G : st → List α → R) (Inv : st → List α → Prop) (s : st)
    (hn : ∀ (i : Nat) a r s, l[i]? = some a → Inv s (a :: r) → (∃ s', body (mk s i) = some (.inl (mk s' ((i + 1 : Nat) : Int))) ∧ Inv s' r ∧ G s' r = G s (a :: r)) ∨ body (mk s i) = some (.inr (G s (a :: r))))
    (he : ∀ s, Inv s [] → body (mk s (l.length : Nat)) = some (.inr (G s []))) (hi : Inv s l) : lp body (mk s 0) = some (G s l) :=
  VU mk G Inv hn he l 0 s rfl (Nat.zero_le _) hi

end Go.Abs
namespace Go.Abs
open Go
noncomputable def yI {α : Type} [Inhabited α] (cmp3 : α → α → Option Int) (aA : List α) (a1 : Int) (b2 : Int) (i8 : Int) : Option ((List α × Int) ⊕ ((List α))) :=
  some (.inl (aA, IntKind.i64.wrap (i8 + (1 : Int))))

noncomputable def lQ {α : Type} [Inhabited α] (cmp3 : α → α → Option Int) (a1 : Int) (b2 : Int) (i8 : Int) (aA : List α) (j9 : Int) : Option ((List α × Int) ⊕ ((List α))) :=
  bJ ((((decide (a1 < j9))) = true → 0 ≤ j9 ∧ j9 < ((List.length aA : Nat) : Int))) <|
  bJ ((((decide (a1 < j9))) = true → 0 ≤ (IntKind.i64.wrap (j9 - (1 : Int))) ∧ (IntKind.i64.wrap (j9 - (1 : Int))) < ((List.length aA : Nat) : Int))) <|
  (cZ (decide (a1 < j9)) (cmp3 (List.getD aA (Int.toNat j9) default) (List.getD aA (Int.toNat (IntKind.i64.wrap (j9 - (1 : Int)))) default))).bind fun x3 =>
  cond ((decide (a1 < j9)) && (decide (x3 < (0 : Int))))
  (bJ (0 ≤ (IntKind.i64.wrap (j9 - (1 : Int))) ∧ (IntKind.i64.wrap (j9 - (1 : Int))) < ((List.length aA : Nat) : Int)) <|
  bJ (0 ≤ j9 ∧ j9 < ((List.length aA : Nat) : Int)) <|
  bJ (0 ≤ j9 ∧ j9 < ((List.length aA : Nat) : Int)) <|
  bJ (0 ≤ (IntKind.i64.wrap (j9 - (1 : Int))) ∧ (IntKind.i64.wrap (j9 - (1 : Int))) < ((List.length aA : Nat) : Int)) <|
  some (.inl (List.set (List.set aA (Int.toNat j9) (List.getD aA (Int.toNat (IntKind.i64.wrap (j9 - (1 : Int)))) default)) (Int.toNat (IntKind.i64.wrap (j9 - (1 : Int)))) (List.getD aA (Int.toNat j9) default), IntKind.i64.wrap (j9 - (1 : Int)))))
  (some (.inr aA))

noncomputable def yJ {α : Type} [Inhabited α] (cmp3 : α → α → Option Int) (aA : List α) (a1 : Int) (b2 : Int) (i8 : Int) (j9 : Int) : Option ((List α × Int) ⊕ ((List α))) :=
  (lp (fun s => lQ cmp3 a1 b2 i8 s.1 s.2) (aA, j9)).bind (fun rr => yI cmp3 rr a1 b2 i8)

noncomputable def jD {α : Type} [Inhabited α] (cmp3 : α → α → Option Int) (a1 : Int) (b2 : Int) (aA : List α) (i8 : Int) : Option ((List α × Int) ⊕ ((List α))) :=
  cond (decide (i8 < b2))
  (yJ cmp3 aA a1 b2 i8 i8)
  (some (.inr aA))

noncomputable def yE {α : Type} [Inhabited α] (cmp3 : α → α → Option Int) (aA : List α) (a1 : Int) (b2 : Int) (i8 : Int) : Option (List α) :=
  (lp (fun s => jD cmp3 a1 b2 s.1 s.2) (aA, i8)).bind (fun rr => some rr)

noncomputable def nD {α : Type} [Inhabited α] (aA : (List α)) (a1 : Int) (b2 : Int) (cmp3 : α → α → Option Int) : Option (List α) :=
  yE cmp3 aA a1 b2 (IntKind.i64.wrap (a1 + (1 : Int)))

noncomputable def oM {α : Type} [Inhabited α] (cmp4 : α → α → Option Int) (a1 : Int) (b2 : Int) (n3 : Int) (aA : List α) (i10 : Int) : Option ((List α × Int) ⊕ ((List α))) :=
  cond (decide (i10 < n3))
  (bJ (0 ≤ (IntKind.i64.wrap (b2 + i10)) ∧ (IntKind.i64.wrap (b2 + i10)) < ((List.length aA : Nat) : Int)) <|
  bJ (0 ≤ (IntKind.i64.wrap (a1 + i10)) ∧ (IntKind.i64.wrap (a1 + i10)) < ((List.length aA : Nat) : Int)) <|
  bJ (0 ≤ (IntKind.i64.wrap (a1 + i10)) ∧ (IntKind.i64.wrap (a1 + i10)) < ((List.length aA : Nat) : Int)) <|
  bJ (0 ≤ (IntKind.i64.wrap (b2 + i10)) ∧ (IntKind.i64.wrap (b2 + i10)) < ((List.length aA : Nat) : Int)) <|
  some (.inl (List.set (List.set aA (Int.toNat (IntKind.i64.wrap (a1 + i10))) (List.getD aA (Int.toNat (IntKind.i64.wrap (b2 + i10))) default)) (Int.toNat (IntKind.i64.wrap (b2 + i10))) (List.getD aA (Int.toNat (IntKind.i64.wrap (a1 + i10))) default), IntKind.i64.wrap (i10 + (1 : Int)))))
  (some (.inr aA))

noncomputable def BO {α : Type} [Inhabited α] (cmp4 : α → α → Option Int) (aA : List α) (a1 : Int) (b2 : Int) (n3 : Int) (i10 : Int) : Option (List α) :=
  (lp (fun s => oM cmp4 a1 b2 n3 s.1 s.2) (aA, i10)).bind (fun rr => some rr)

noncomputable def sW {α : Type} [Inhabited α] (aA : (List α)) (a1 : Int) (b2 : Int) (n3 : Int) (cmp4 : α → α → Option Int) : Option (List α) :=
  BO cmp4 aA a1 b2 n3 (0 : Int)

noncomputable def BG {α : Type} [Inhabited α] (cmp4 : α → α → Option Int) (aA : List α) (m2 : Int) (i10 : Int) : Option (List α) :=
  (sW aA (IntKind.i64.wrap (m2 - i10)) m2 i10 cmp4).bind fun x1 =>
  some x1

noncomputable def lX {α : Type} [Inhabited α] (cmp4 : α → α → Option Int) (m2 : Int) (aA : List α) (i10 : Int) (j11 : Int) : Option ((List α × Int × Int) ⊕ ((List α × Int))) :=
  cond (!decide (i10 = j11))
  (cond (decide (j11 < i10))
  ((sW aA (IntKind.i64.wrap (m2 - i10)) m2 j11 cmp4).bind fun x4 =>
  some (.inl (x4, IntKind.i64.wrap (i10 - j11), j11)))
  ((sW aA (IntKind.i64.wrap (m2 - i10)) (IntKind.i64.wrap ((IntKind.i64.wrap (m2 + j11)) - i10)) i10 cmp4).bind fun x7 =>
  some (.inl (x7, i10, IntKind.i64.wrap (j11 - i10)))))
  (some (.inr (aA, i10)))

noncomputable def HD {α : Type} [Inhabited α] (cmp4 : α → α → Option Int) (aA : List α) (m2 : Int) (i10 : Int) (j11 : Int) : Option (List α) :=
  (lp (fun s => lX cmp4 m2 s.1 s.2.1 s.2.2) (aA, i10, j11)).bind (fun rr => BG cmp4 rr.1 m2 rr.2)

noncomputable def AX {α : Type} [Inhabited α] (aA : (List α)) (a1 : Int) (m2 : Int) (b3 : Int) (cmp4 : α → α → Option Int) : Option (List α) :=
  HD cmp4 aA m2 (IntKind.i64.wrap (m2 - a1)) (IntKind.i64.wrap (b3 - m2))

noncomputable def yS {α : Type} [Inhabited α] (cmp4 : α → α → Option Int) (rec : (List α) → Int → Int → Int → Option (List α)) (aA : List α) (b3 : Int) (bO : Int) (dS : Int) : Option (List α) :=
  cond ((decide (bO < dS)) && (decide (dS < b3)))
  ((rec aA bO dS b3).bind fun x2 =>
  some x2)
  (some aA)

noncomputable def pH {α : Type} [Inhabited α] (cmp4 : α → α → Option Int) (rec : (List α) → Int → Int → Int → Option (List α)) (aA : List α) (a1 : Int) (b3 : Int) (bO : Int) (aR : Int) (dS : Int) : Option (List α) :=
  cond ((decide (a1 < aR)) && (decide (aR < bO)))
  ((rec aA a1 aR bO).bind fun x6 =>
  yS cmp4 rec x6 b3 bO dS)
  (yS cmp4 rec aA b3 bO dS)

noncomputable def ED {α : Type} [Inhabited α] (cmp4 : α → α → Option Int) (rec : (List α) → Int → Int → Int → Option (List α)) (aA : List α) (a1 : Int) (m2 : Int) (b3 : Int) (bO : Int) (n19 : Int) (aR : Int) : Option (List α) :=
  cond ((decide (aR < m2)) && (decide (m2 < (IntKind.i64.wrap (n19 - aR)))))
  ((AX aA aR m2 (IntKind.i64.wrap (n19 - aR)) cmp4).bind fun x10 =>
  pH cmp4 rec x10 a1 b3 bO aR (IntKind.i64.wrap (n19 - aR)))
  (pH cmp4 rec aA a1 b3 bO aR (IntKind.i64.wrap (n19 - aR)))

noncomputable def nO {α : Type} [Inhabited α] (cmp4 : α → α → Option Int) (rec : (List α) → Int → Int → Int → Option (List α)) (a1 : Int) (m2 : Int) (b3 : Int) (bO : Int) (n19 : Int) (p22 : Int) (aA : List α) (aR : Int) (r21 : Int) : Option ((List α × Int × Int) ⊕ ((List α × Int))) :=
  cond (decide (aR < r21))
  (bJ (0 ≤ (1 : Int)) <|
  bJ (0 ≤ (IntKind.i64.wrap (p22 - (IntKind.i64.wrap (Int.fdiv (IntKind.u64.wrap (IntKind.i64.wrap (aR + r21))) (2 ^ (min (Int.toNat (1 : Int)) 64)))))) ∧ (IntKind.i64.wrap (p22 - (IntKind.i64.wrap (Int.fdiv (IntKind.u64.wrap (IntKind.i64.wrap (aR + r21))) (2 ^ (min (Int.toNat (1 : Int)) 64)))))) < ((List.length aA : Nat) : Int)) <|
  bJ (0 ≤ (IntKind.i64.wrap (Int.fdiv (IntKind.u64.wrap (IntKind.i64.wrap (aR + r21))) (2 ^ (min (Int.toNat (1 : Int)) 64)))) ∧ (IntKind.i64.wrap (Int.fdiv (IntKind.u64.wrap (IntKind.i64.wrap (aR + r21))) (2 ^ (min (Int.toNat (1 : Int)) 64)))) < ((List.length aA : Nat) : Int)) <|
  (cmp4 (List.getD aA (Int.toNat (IntKind.i64.wrap (p22 - (IntKind.i64.wrap (Int.fdiv (IntKind.u64.wrap (IntKind.i64.wrap (aR + r21))) (2 ^ (min (Int.toNat (1 : Int)) 64))))))) default) (List.getD aA (Int.toNat (IntKind.i64.wrap (Int.fdiv (IntKind.u64.wrap (IntKind.i64.wrap (aR + r21))) (2 ^ (min (Int.toNat (1 : Int)) 64))))) default)).bind fun x17 =>
  cond (!(decide (x17 < (0 : Int))))
  (some (.inl (aA, IntKind.i64.wrap ((IntKind.i64.wrap (Int.fdiv (IntKind.u64.wrap (IntKind.i64.wrap (aR + r21))) (2 ^ (min (Int.toNat (1 : Int)) 64)))) + (1 : Int)), r21)))
  (some (.inl (aA, aR, IntKind.i64.wrap (Int.fdiv (IntKind.u64.wrap (IntKind.i64.wrap (aR + r21))) (2 ^ (min (Int.toNat (1 : Int)) 64)))))))
  (some (.inr (aA, aR)))

noncomputable def EB {α : Type} [Inhabited α] (cmp4 : α → α → Option Int) (rec : (List α) → Int → Int → Int → Option (List α)) (aA : List α) (a1 : Int) (m2 : Int) (b3 : Int) (bO : Int) (n19 : Int) (aR : Int) (r21 : Int) (p22 : Int) : Option (List α) :=
  (lp (fun s => nO cmp4 rec a1 m2 b3 bO n19 p22 s.1 s.2.1 s.2.2) (aA, aR, r21)).bind (fun rr => ED cmp4 rec rr.1 a1 m2 b3 bO n19 rr.2)

noncomputable def vN {α : Type} [Inhabited α] (cmp4 : α → α → Option Int) (rec : (List α) → Int → Int → Int → Option (List α)) (aA : List α) (a1 : Int) (m2 : Int) (b3 : Int) (bO : Int) (n19 : Int) (aR : Int) (r21 : Int) : Option (List α) :=
  EB cmp4 rec aA a1 m2 b3 bO n19 aR r21 (IntKind.i64.wrap (n19 - (1 : Int)))

noncomputable def vQ {α : Type} [Inhabited α] (cmp4 : α → α → Option Int) (rec : (List α) → Int → Int → Int → Option (List α)) (aA : List α) (a1 : Int) (m2 : Int) (b3 : Int) : Option (List α) :=
  bJ (0 ≤ (1 : Int)) <|
  cond (decide ((IntKind.i64.wrap (Int.fdiv (IntKind.u64.wrap (IntKind.i64.wrap (a1 + b3))) (2 ^ (min (Int.toNat (1 : Int)) 64)))) < m2))
  (vN cmp4 rec aA a1 m2 b3 (IntKind.i64.wrap (Int.fdiv (IntKind.u64.wrap (IntKind.i64.wrap (a1 + b3))) (2 ^ (min (Int.toNat (1 : Int)) 64)))) (IntKind.i64.wrap ((IntKind.i64.wrap (Int.fdiv (IntKind.u64.wrap (IntKind.i64.wrap (a1 + b3))) (2 ^ (min (Int.toNat (1 : Int)) 64)))) + m2)) (IntKind.i64.wrap ((IntKind.i64.wrap ((IntKind.i64.wrap (Int.fdiv (IntKind.u64.wrap (IntKind.i64.wrap (a1 + b3))) (2 ^ (min (Int.toNat (1 : Int)) 64)))) + m2)) - b3)) (IntKind.i64.wrap (Int.fdiv (IntKind.u64.wrap (IntKind.i64.wrap (a1 + b3))) (2 ^ (min (Int.toNat (1 : Int)) 64)))))
  (vN cmp4 rec aA a1 m2 b3 (IntKind.i64.wrap (Int.fdiv (IntKind.u64.wrap (IntKind.i64.wrap (a1 + b3))) (2 ^ (min (Int.toNat (1 : Int)) 64)))) (IntKind.i64.wrap ((IntKind.i64.wrap (Int.fdiv (IntKind.u64.wrap (IntKind.i64.wrap (a1 + b3))) (2 ^ (min (Int.toNat (1 : Int)) 64)))) + m2)) a1 m2)

noncomputable def EC {α : Type} [Inhabited α] (cmp4 : α → α → Option Int) (rec : (List α) → Int → Int → Int → Option (List α)) (aA : List α) : Option (List α) :=
  some aA

noncomputable def mX {α : Type} [Inhabited α] (cmp4 : α → α → Option Int) (rec : (List α) → Int → Int → Int → Option (List α)) (i14 : Int) (aA : List α) (k17 : Int) : Option ((List α × Int) ⊕ ((List α))) :=
  cond (decide (i14 < k17))
  (bJ (0 ≤ (IntKind.i64.wrap (k17 - (1 : Int))) ∧ (IntKind.i64.wrap (k17 - (1 : Int))) < ((List.length aA : Nat) : Int)) <|
  bJ (0 ≤ k17 ∧ k17 < ((List.length aA : Nat) : Int)) <|
  bJ (0 ≤ k17 ∧ k17 < ((List.length aA : Nat) : Int)) <|
  bJ (0 ≤ (IntKind.i64.wrap (k17 - (1 : Int))) ∧ (IntKind.i64.wrap (k17 - (1 : Int))) < ((List.length aA : Nat) : Int)) <|
  some (.inl (List.set (List.set aA (Int.toNat k17) (List.getD aA (Int.toNat (IntKind.i64.wrap (k17 - (1 : Int)))) default)) (Int.toNat (IntKind.i64.wrap (k17 - (1 : Int)))) (List.getD aA (Int.toNat k17) default), IntKind.i64.wrap (k17 - (1 : Int)))))
  (some (.inr aA))

noncomputable def CE {α : Type} [Inhabited α] (cmp4 : α → α → Option Int) (rec : (List α) → Int → Int → Int → Option (List α)) (aA : List α) (i14 : Int) (k17 : Int) : Option (List α) :=
  (lp (fun s => mX cmp4 rec i14 s.1 s.2) (aA, k17)).bind (fun rr => EC cmp4 rec rr)

noncomputable def DV {α : Type} [Inhabited α] (cmp4 : α → α → Option Int) (rec : (List α) → Int → Int → Int → Option (List α)) (aA : List α) (m2 : Int) (i14 : Int) : Option (List α) :=
  CE cmp4 rec aA i14 m2

noncomputable def nA {α : Type} [Inhabited α] (cmp4 : α → α → Option Int) (rec : (List α) → Int → Int → Int → Option (List α)) (m2 : Int) (aA : List α) (i14 : Int) (j15 : Int) : Option ((List α × Int × Int) ⊕ ((List α × Int))) :=
  cond (decide (i14 < j15))
  (bJ (0 ≤ (1 : Int)) <|
  bJ (0 ≤ m2 ∧ m2 < ((List.length aA : Nat) : Int)) <|
  bJ (0 ≤ (IntKind.i64.wrap (Int.fdiv (IntKind.u64.wrap (IntKind.i64.wrap (i14 + j15))) (2 ^ (min (Int.toNat (1 : Int)) 64)))) ∧ (IntKind.i64.wrap (Int.fdiv (IntKind.u64.wrap (IntKind.i64.wrap (i14 + j15))) (2 ^ (min (Int.toNat (1 : Int)) 64)))) < ((List.length aA : Nat) : Int)) <|
  (cmp4 (List.getD aA (Int.toNat m2) default) (List.getD aA (Int.toNat (IntKind.i64.wrap (Int.fdiv (IntKind.u64.wrap (IntKind.i64.wrap (i14 + j15))) (2 ^ (min (Int.toNat (1 : Int)) 64))))) default)).bind fun x31 =>
  cond (!(decide (x31 < (0 : Int))))
  (some (.inl (aA, IntKind.i64.wrap ((IntKind.i64.wrap (Int.fdiv (IntKind.u64.wrap (IntKind.i64.wrap (i14 + j15))) (2 ^ (min (Int.toNat (1 : Int)) 64)))) + (1 : Int)), j15)))
  (some (.inl (aA, i14, IntKind.i64.wrap (Int.fdiv (IntKind.u64.wrap (IntKind.i64.wrap (i14 + j15))) (2 ^ (min (Int.toNat (1 : Int)) 64)))))))
  (some (.inr (aA, i14)))

noncomputable def CA {α : Type} [Inhabited α] (cmp4 : α → α → Option Int) (rec : (List α) → Int → Int → Int → Option (List α)) (aA : List α) (m2 : Int) (i14 : Int) (j15 : Int) : Option (List α) :=
  (lp (fun s => nA cmp4 rec m2 s.1 s.2.1 s.2.2) (aA, i14, j15)).bind (fun rr => DV cmp4 rec rr.1 m2 rr.2)

noncomputable def yU {α : Type} [Inhabited α] (cmp4 : α → α → Option Int) (rec : (List α) → Int → Int → Int → Option (List α)) (aA : List α) (a1 : Int) (m2 : Int) (b3 : Int) : Option (List α) :=
  cond (decide ((IntKind.i64.wrap (b3 - m2)) = (1 : Int)))
  (CA cmp4 rec aA m2 a1 m2)
  (vQ cmp4 rec aA a1 m2 b3)

noncomputable def BU {α : Type} [Inhabited α] (cmp4 : α → α → Option Int) (rec : (List α) → Int → Int → Int → Option (List α)) (aA : List α) : Option (List α) :=
  some aA

noncomputable def nB {α : Type} [Inhabited α] (cmp4 : α → α → Option Int) (rec : (List α) → Int → Int → Int → Option (List α)) (i10 : Int) (aA : List α) (k13 : Int) : Option ((List α × Int) ⊕ ((List α))) :=
  cond (decide (k13 < (IntKind.i64.wrap (i10 - (1 : Int)))))
  (bJ (0 ≤ (IntKind.i64.wrap (k13 + (1 : Int))) ∧ (IntKind.i64.wrap (k13 + (1 : Int))) < ((List.length aA : Nat) : Int)) <|
  bJ (0 ≤ k13 ∧ k13 < ((List.length aA : Nat) : Int)) <|
  bJ (0 ≤ k13 ∧ k13 < ((List.length aA : Nat) : Int)) <|
  bJ (0 ≤ (IntKind.i64.wrap (k13 + (1 : Int))) ∧ (IntKind.i64.wrap (k13 + (1 : Int))) < ((List.length aA : Nat) : Int)) <|
  some (.inl (List.set (List.set aA (Int.toNat k13) (List.getD aA (Int.toNat (IntKind.i64.wrap (k13 + (1 : Int)))) default)) (Int.toNat (IntKind.i64.wrap (k13 + (1 : Int)))) (List.getD aA (Int.toNat k13) default), IntKind.i64.wrap (k13 + (1 : Int)))))
  (some (.inr aA))

noncomputable def BW {α : Type} [Inhabited α] (cmp4 : α → α → Option Int) (rec : (List α) → Int → Int → Int → Option (List α)) (aA : List α) (i10 : Int) (k13 : Int) : Option (List α) :=
  (lp (fun s => nB cmp4 rec i10 s.1 s.2) (aA, k13)).bind (fun rr => BU cmp4 rec rr)

noncomputable def CF {α : Type} [Inhabited α] (cmp4 : α → α → Option Int) (rec : (List α) → Int → Int → Int → Option (List α)) (aA : List α) (a1 : Int) (i10 : Int) : Option (List α) :=
  BW cmp4 rec aA i10 a1

noncomputable def mW {α : Type} [Inhabited α] (cmp4 : α → α → Option Int) (rec : (List α) → Int → Int → Int → Option (List α)) (a1 : Int) (aA : List α) (i10 : Int) (j11 : Int) : Option ((List α × Int × Int) ⊕ ((List α × Int))) :=
  cond (decide (i10 < j11))
  (bJ (0 ≤ (1 : Int)) <|
  bJ (0 ≤ (IntKind.i64.wrap (Int.fdiv (IntKind.u64.wrap (IntKind.i64.wrap (i10 + j11))) (2 ^ (min (Int.toNat (1 : Int)) 64)))) ∧ (IntKind.i64.wrap (Int.fdiv (IntKind.u64.wrap (IntKind.i64.wrap (i10 + j11))) (2 ^ (min (Int.toNat (1 : Int)) 64)))) < ((List.length aA : Nat) : Int)) <|
  bJ (0 ≤ a1 ∧ a1 < ((List.length aA : Nat) : Int)) <|
  (cmp4 (List.getD aA (Int.toNat (IntKind.i64.wrap (Int.fdiv (IntKind.u64.wrap (IntKind.i64.wrap (i10 + j11))) (2 ^ (min (Int.toNat (1 : Int)) 64))))) default) (List.getD aA (Int.toNat a1) default)).bind fun x45 =>
  cond (decide (x45 < (0 : Int)))
  (some (.inl (aA, IntKind.i64.wrap ((IntKind.i64.wrap (Int.fdiv (IntKind.u64.wrap (IntKind.i64.wrap (i10 + j11))) (2 ^ (min (Int.toNat (1 : Int)) 64)))) + (1 : Int)), j11)))
  (some (.inl (aA, i10, IntKind.i64.wrap (Int.fdiv (IntKind.u64.wrap (IntKind.i64.wrap (i10 + j11))) (2 ^ (min (Int.toNat (1 : Int)) 64)))))))
  (some (.inr (aA, i10)))

noncomputable def CC {α : Type} [Inhabited α] (cmp4 : α → α → Option Int) (rec : (List α) → Int → Int → Int → Option (List α)) (aA : List α) (a1 : Int) (i10 : Int) (j11 : Int) : Option (List α) :=
  (lp (fun s => mW cmp4 rec a1 s.1 s.2.1 s.2.2) (aA, i10, j11)).bind (fun rr => CF cmp4 rec rr.1 a1 rr.2)

noncomputable def dU {α : Type} [Inhabited α] (cmp4 : α → α → Option Int) (rec : (List α) → Int → Int → Int → Option (List α)) (aA : (List α)) (a1 : Int) (m2 : Int) (b3 : Int) : Option (List α) :=
  cond (decide ((IntKind.i64.wrap (m2 - a1)) = (1 : Int)))
  (CC cmp4 rec aA a1 m2 b3)
  (yU cmp4 rec aA a1 m2 b3)

noncomputable def dW {α : Type} [Inhabited α] (cmp4 : α → α → Option Int) : Nat → (List α) → Int → Int → Int → Option (List α)
  | 0 => fun _ _ _ _ => none
  | k + 1 => dU cmp4 (dW cmp4 k)

noncomputable def oE {α : Type} [Inhabited α] (aA : (List α)) (a1 : Int) (m2 : Int) (b3 : Int) (cmp4 : α → α → Option Int) : Option (List α) := HS (fun k => dW cmp4 k aA a1 m2 b3)

noncomputable def xT {α : Type} [Inhabited α] (cmp2 : α → α → Option Int) (aA : List α) (n1 : Int) (aO : Int) : Option ((List α × Int) ⊕ ((List α))) :=
  some (.inl (aA, IntKind.i64.wrap (aO * (2 : Int))))

noncomputable def uR {α : Type} [Inhabited α] (cmp2 : α → α → Option Int) (aA : List α) (n1 : Int) (aO : Int) (a7 : Int) : Option ((List α × Int) ⊕ ((List α))) :=
  cond (decide ((IntKind.i64.wrap (a7 + aO)) < n1))
  ((oE aA a7 (IntKind.i64.wrap (a7 + aO)) n1 cmp2).bind fun x4 =>
  xT cmp2 x4 n1 aO)
  (xT cmp2 aA n1 aO)

noncomputable def lY {α : Type} [Inhabited α] (cmp2 : α → α → Option Int) (n1 : Int) (aO : Int) (aA : List α) (a7 : Int) (b8 : Int) : Option ((List α × Int × Int) ⊕ ((List α × Int))) :=
  cond (decide (b8 ≤ n1))
  ((oE aA a7 (IntKind.i64.wrap (a7 + aO)) b8 cmp2).bind fun x8 =>
  some (.inl (x8, b8, IntKind.i64.wrap (b8 + (IntKind.i64.wrap ((2 : Int) * aO))))))
  (some (.inr (aA, a7)))

noncomputable def uX {α : Type} [Inhabited α] (cmp2 : α → α → Option Int) (aA : List α) (n1 : Int) (aO : Int) (a7 : Int) (b8 : Int) : Option ((List α × Int) ⊕ ((List α))) :=
  (lp (fun s => lY cmp2 n1 aO s.1 s.2.1 s.2.2) (aA, a7, b8)).bind (fun rr => uR cmp2 rr.1 n1 aO rr.2)

noncomputable def jK {α : Type} [Inhabited α] (cmp2 : α → α → Option Int) (n1 : Int) (aA : List α) (aO : Int) : Option ((List α × Int) ⊕ ((List α))) :=
  cond (decide (aO < n1))
  (uX cmp2 aA n1 aO (0 : Int) (IntKind.i64.wrap ((2 : Int) * aO)))
  (some (.inr aA))

noncomputable def xZ {α : Type} [Inhabited α] (cmp2 : α → α → Option Int) (aA : List α) (n1 : Int) (aO : Int) : Option (List α) :=
  (lp (fun s => jK cmp2 n1 s.1 s.2) (aA, aO)).bind (fun rr => some rr)

noncomputable def yB {α : Type} [Inhabited α] (cmp2 : α → α → Option Int) (aA : List α) (n1 : Int) (aO : Int) (a7 : Int) : Option (List α) :=
  (nD aA a7 n1 cmp2).bind fun x1 =>
  xZ cmp2 x1 n1 aO

noncomputable def lW {α : Type} [Inhabited α] (cmp2 : α → α → Option Int) (n1 : Int) (aO : Int) (aA : List α) (a7 : Int) (b8 : Int) : Option ((List α × Int × Int) ⊕ ((List α × Int))) :=
  cond (decide (b8 ≤ n1))
  ((nD aA a7 b8 cmp2).bind fun x13 =>
  some (.inl (x13, b8, IntKind.i64.wrap (b8 + aO))))
  (some (.inr (aA, a7)))

noncomputable def xR {α : Type} [Inhabited α] (cmp2 : α → α → Option Int) (aA : List α) (n1 : Int) (aO : Int) (a7 : Int) (b8 : Int) : Option (List α) :=
  (lp (fun s => lW cmp2 n1 aO s.1 s.2.1 s.2.2) (aA, a7, b8)).bind (fun rr => yB cmp2 rr.1 n1 aO rr.2)

noncomputable def wD {α : Type} [Inhabited α] (aA : (List α)) (n1 : Int) (cmp2 : α → α → Option Int) : Option (List α) :=
  xR cmp2 aA n1 (20 : Int) (0 : Int) (20 : Int)

end Go.Abs
namespace Go.Abs
open Go
variable {α : Type} [Inhabited α]
structure Cmp {β : Type} (ok : β → Prop) (le : β → β → Prop) (cmp : β → β → Option Int) : Prop where
  ans : ∀ x y, ok x → ok y → ∃ v, cmp x y = some v ∧ (v < 0 ↔ ¬ le y x)
  trans : ∀ x y z, ok x → ok y → ok z → le x y → le y z → le x z
  total : ∀ x y, ok x → ok y → le x y ∨ le y x

abbrev Srt {β : Type} (le : β → β → Prop) (l : List β) : Prop := l.Pairwise le

abbrev Oks {β : Type} (ok : β → Prop) (l : List β) : Prop := ∀ x ∈ l, ok x

theorem YX {Q R : List α} {x : α} : (Q ++ x :: R).getD Q.length default = x := by simp [List.getD_eq_getElem?_getD]

theorem aAx {β : Type} {Q R : List β} {x y : β} : (Q ++ x :: R).set Q.length y = Q ++ y :: R := by simp

theorem pE {Q R d : List α} {x : α} {n : Nat} (hd : d = Q ++ x :: R) (hn : n = Q.length) : d.getD n default = x := by subst hd; subst hn; exact YX

theorem CD {β : Type} {Q R d : List β} {x y : β} {n : Nat} (hd : d = Q ++ x :: R) (hn : n = Q.length) : d.set n y = Q ++ y :: R := by subst hd; subst hn; exact aAx

theorem wr {n : Int} (h1 : -1099511627776 ≤ n) (h2 : n ≤ 8796093022208) : IntKind.i64.wrap n = n := gM (by omega) (by omega)

theorem PZ {β : Type} {Q M R d : List β} {x y : β} {a b : Nat} (hd : d = Q ++ x :: (M ++ y :: R)) (ha : a = Q.length) (hb : b = Q.length + 1 + M.length) : (d.set a y).set b x = Q ++ y :: (M ++ x :: R) := by
  rw [CD hd ha, CD (Q := Q ++ y :: M) (x := y) (R := R) (by simp) (by simp; omega)]
  simp

section ins
variable {ok : α → Prop} {le : α → α → Prop} {cmp : α → α → Option Int}
theorem DY {A T : List α} {x : α} {a b i : Int} {P : List α} (ha : a = (P.length : Nat)) (hl : (P ++ A ++ x :: T).length ≤ 1099511627776)
    (hs : A = [] ∨ ∃ A' y v, A = A' ++ [y] ∧ cmp x y = some v ∧ ¬ v < 0) : lQ cmp a b i (P ++ A ++ x :: T) ((P.length + A.length : Nat) : Int) = some (.inr (P ++ A ++ x :: T)) := by
  simp only [List.length_append, List.length_cons] at hl
  unfold lQ
  rcases hs with rfl | ⟨A', y, v, rfl, hc, hv⟩
  · have h : decide (a < ((P.length + ([] : List α).length : Nat) : Int)) = false := by subst ha; simp
    rw [h, bG (fun h => by cases h), bG (fun h => by cases h)]
    simp [cZ]
  · simp only [List.length_append, List.length_cons, List.length_nil] at hl ⊢
    have h : decide (a < ((P.length + (A'.length + (0 + 1)) : Nat) : Int)) = true := by subst ha; simp; omega
    have hw : IntKind.i64.wrap (((P.length + (A'.length + (0 + 1)) : Nat) : Int) - 1) = ((P.length + A'.length : Nat) : Int) := by rw [wr (by omega) (by omega)]; omega
    have g1 : (P ++ (A' ++ [y]) ++ x :: T).getD (P.length + (A'.length + (0 + 1))) default = x := pE (Q := P ++ (A' ++ [y])) rfl (by simp)
    have g2 : (P ++ (A' ++ [y]) ++ x :: T).getD (P.length + A'.length) default = y := pE (Q := P ++ A') (R := x :: T) (by simp) (by simp)
    rw [h, hw, bG (fun _ => ⟨by omega, by omega⟩), bG (fun _ => ⟨by omega, by omega⟩)]
    rw [Int.toNat_natCast, Int.toNat_natCast, g1, g2]
    simp [cZ, hc, hv]

theorem SE {A T : List α} {x y : α} {v : Int} {a b i : Int} {P : List α} (ha : a = (P.length : Nat)) (hl : (P ++ (A ++ [y]) ++ x :: T).length ≤ 1099511627776)
    (hc : cmp x y = some v) (hv : v < 0) : lQ cmp a b i (P ++ (A ++ [y]) ++ x :: T) ((P.length + (A ++ [y]).length : Nat) : Int) = some (.inl (P ++ A ++ x :: (y :: T), ((P.length + A.length : Nat) : Int))) := by
  simp only [List.length_append, List.length_cons, List.length_nil] at hl ⊢
  unfold lQ
  have h : decide (a < ((P.length + (A.length + (0 + 1)) : Nat) : Int)) = true := by subst ha; simp; omega
  have hw : IntKind.i64.wrap (((P.length + (A.length + (0 + 1)) : Nat) : Int) - 1) = ((P.length + A.length : Nat) : Int) := by rw [wr (by omega) (by omega)]; omega
  have g1 : (P ++ (A ++ [y]) ++ x :: T).getD (P.length + (A.length + (0 + 1))) default = x := pE (Q := P ++ (A ++ [y])) rfl (by simp)
  have g2 : (P ++ (A ++ [y]) ++ x :: T).getD (P.length + A.length) default = y := pE (Q := P ++ A) (R := x :: T) (by simp) (by simp)
  have hs : ((P ++ (A ++ [y]) ++ x :: T).set (P.length + (A.length + (0 + 1))) y).set (P.length + A.length) x = P ++ A ++ x :: (y :: T) := by
    rw [CD (Q := P ++ (A ++ [y])) (x := x) (R := T) rfl (by simp), CD (Q := P ++ A) (x := y) (R := y :: T) (by simp) (by simp)]
  have b1 : 0 ≤ ((P.length + (A.length + (0 + 1)) : Nat) : Int) ∧ ((P.length + (A.length + (0 + 1)) : Nat) : Int) < ((List.length (P ++ (A ++ [y]) ++ x :: T) : Nat) : Int) := ⟨by omega, by simp only [List.length_append, List.length_cons, List.length_nil]; omega⟩
  have b2 : 0 ≤ ((P.length + A.length : Nat) : Int) ∧ ((P.length + A.length : Nat) : Int) < ((List.length (P ++ (A ++ [y]) ++ x :: T) : Nat) : Int) := ⟨by omega, by simp only [List.length_append, List.length_cons, List.length_nil]; omega⟩
  rw [h, hw, bG (fun _ => b1), bG (fun _ => b2), Int.toNat_natCast, Int.toNat_natCast, g1, g2]
  simp only [cZ, cond_true, hc, Option.bind_some, Bool.true_and, decide_eq_true hv]
  rw [bG b2, bG b1, bG b1, bG b2, hs]

theorem WM (C : Cmp ok le cmp) {x : α} (hx : ok x) {a b i : Int} {P : List α} (ha : a = (P.length : Nat)) : ∀ (n : Nat) (A B T : List α), A.length = n → Oks ok A → Oks ok B → Srt le (A ++ B) → (∀ y ∈ B, ¬ le y x) → (P ++ A ++ x :: (B ++ T)).length ≤ 1099511627776 →
    ∃ D, D.Perm (A ++ x :: B) ∧ Srt le D ∧ lp (fun s : List α × Int => lQ cmp a b i s.1 s.2) (P ++ A ++ x :: (B ++ T), ((P.length + A.length : Nat) : Int)) = some (P ++ D ++ T) := by
  intro n
  induction n with
  | zero =>
    intro A B T hn _ hB hs hlt hl
    have hA : A = [] := List.length_eq_zero_iff.1 hn
    subst hA
    refine ⟨x :: B, List.Perm.refl _, ?_, ?_⟩
    · refine List.pairwise_cons.2 ⟨fun y hy => ?_, by simpa using hs⟩
      rcases C.total x y hx (hB y hy) with h | h
      · exact h
      · exact absurd h (hlt y hy)
    · rw [cR (DY ha hl (Or.inl rfl))]; simp
  | succ n ih =>
    intro A B T hn hA hB hs hlt hl
    obtain ⟨A', y, rfl⟩ : ∃ A' y, A = A' ++ [y] := by
      rcases List.eq_nil_or_concat A with h | ⟨A', y, h⟩
      · rw [h] at hn; simp at hn
      · exact ⟨A', y, by simpa using h⟩
    have hy : ok y := hA y (by simp)
    obtain ⟨v, hc, hv⟩ := C.ans x y hx hy
    by_cases hneg : v < 0
    · have hb := SE (i := i) (b := b) ha hl hc hneg
      have hl' : (P ++ A' ++ x :: ((y :: B) ++ T)).length ≤ 1099511627776 := by
        simp only [List.length_append, List.length_cons, List.length_nil] at hl ⊢; omega
      obtain ⟨D, d1, d2, d3⟩ := ih A' (y :: B) T (by simpa using hn) (fun z hz => hA z (by simp [hz])) (fun z hz => by rcases List.mem_cons.1 hz with rfl | hz; exact hy; exact hB z hz) (by simpa using hs)
        (fun z hz => by rcases List.mem_cons.1 hz with rfl | hz; exact hv.1 hneg; exact hlt z hz) hl'
      refine ⟨D, d1.trans ?_, d2, ?_⟩
      · simp only [List.append_assoc, List.singleton_append]
        exact List.Perm.append_left _ (List.Perm.swap ..)
      · rw [eG hb]; simpa using d3
    · refine ⟨A' ++ [y] ++ x :: B, List.Perm.refl _, ?_, ?_⟩
      · have hyx : le y x := Classical.byContradiction fun h => hneg (hv.2 h)
        simp only [Srt, List.pairwise_append] at hs ⊢
        obtain ⟨s1, s2, s3⟩ := hs
        refine ⟨s1, List.pairwise_cons.2 ⟨fun z hz => ?_, s2⟩, ?_⟩
        · rcases C.total x z hx (hB z hz) with h | h
          · exact h
          · exact absurd h (hlt z hz)
        · intro z hz w hw
          rcases List.mem_cons.1 hw with rfl | hw
          · rcases List.mem_append.1 hz with hz' | hz'
            · exact C.trans z y w (hA z hz) hy hx (s1.2.2 z hz' y (by simp)) hyx
            · rw [List.mem_singleton] at hz'; subst hz'; exact hyx
          · exact s3 z hz w hw
      · rw [cR (DY ha hl (Or.inr ⟨A', y, v, rfl, hc, hneg⟩))]
        simp

theorem MI (C : Cmp ok le cmp) {a b : Int} {P : List α} (ha : a = (P.length : Nat)) : ∀ (B A T : List α), Oks ok A → Oks ok B → Srt le A → b = ((P.length + A.length + B.length : Nat) : Int) → (P ++ A ++ (B ++ T)).length ≤ 1099511627776 →
    ∃ D, D.Perm (A ++ B) ∧ Srt le D ∧ lp (fun s : List α × Int => jD cmp a b s.1 s.2) (P ++ A ++ (B ++ T), ((P.length + A.length : Nat) : Int)) = some (P ++ D ++ T)
  | [], A, T, _, _, hs, hb, _ => by
    refine ⟨A, by simp, hs, cR ?_⟩
    have : decide (((P.length + A.length : Nat) : Int) < b) = false := by subst hb; simp
    simp only [jD, this, cond_false, List.nil_append]
  | x :: B, A, T, hA, hB, hs, hb, hl => by
    obtain ⟨D, d1, d2, d3⟩ := WM C (hB x (by simp)) (b := b) (i := ((P.length + A.length : Nat) : Int)) ha A.length A [] (B ++ T) rfl hA (by intro z hz; simp at hz) (by simpa using hs) (by simp) (by simpa using hl)
    have hD : D.length = A.length + 1 := by rw [d1.length_eq]; simp
    have hlt : decide (((P.length + A.length : Nat) : Int) < b) = true := by subst hb; simp; omega
    have hbod : (fun s : List α × Int => jD cmp a b s.1 s.2) (P ++ A ++ (x :: B ++ T), ((P.length + A.length : Nat) : Int)) = some (.inl (P ++ D ++ (B ++ T), ((P.length + D.length : Nat) : Int))) := by
      show jD cmp a b _ _ = _
      simp only [jD, hlt, cond_true, yJ]
      rw [show P ++ A ++ (x :: B ++ T) = P ++ A ++ x :: ([] ++ (B ++ T)) by simp, d3]
      simp only [Option.bind_some, yI]
      rw [wr (by omega) (by simp only [List.length_append, List.length_cons] at hl; omega), hD]
      congr 1
    have hl' : (P ++ D ++ (B ++ T)).length ≤ 1099511627776 := by simp only [List.length_append, List.length_cons] at hl ⊢; omega
    obtain ⟨E, e1, e2, e3⟩ := MI C (b := b) ha B D T (fun z hz => by
      have := d1.mem_iff.1 hz
      rcases List.mem_append.1 this with h | h
      · exact hA z h
      · rw [List.mem_singleton] at h; subst h; exact hB z (by simp)) (fun z hz => hB z (by simp [hz])) d2 (by rw [hb]; simp only [List.length_cons]; congr 1; omega) hl'
    refine ⟨E, e1.trans ?_, e2, by rw [eG hbod]; exact e3⟩
    have := d1.append_right B
    simpa using this

theorem XW (C : Cmp ok le cmp) {P A T : List α} {a b : Int} (ha : a = (P.length : Nat)) (hb : b = ((P.length + A.length : Nat) : Int)) (hA : Oks ok A) (hl : (P ++ A ++ T).length ≤ 1099511627776) :
    ∃ D, D.Perm A ∧ Srt le D ∧ nD (P ++ A ++ T) a b cmp = some (P ++ D ++ T) := by
  unfold nD yE
  simp only [List.length_append] at hl
  cases A with
  | nil =>
    refine ⟨[], List.Perm.refl _, List.Pairwise.nil, ?_⟩
    rw [cR (r := P ++ [] ++ T)]
    · rfl
    · have : decide (IntKind.i64.wrap (a + 1) < b) = false := by
        rw [wr (by omega) (by omega)]; subst ha; subst hb; simp; omega
      simp only [jD, this, cond_false]
  | cons x A =>
    simp only [List.length_cons] at hl
    have hw : IntKind.i64.wrap (a + 1) = ((P.length + [x].length : Nat) : Int) := by rw [wr (by omega) (by omega)]; subst ha; simp
    obtain ⟨D, d1, d2, d3⟩ := MI C (b := b) ha A [x] T (fun z hz => by rw [List.mem_singleton] at hz; subst hz; exact hA z (by simp)) (fun z hz => hA z (by simp [hz])) (by simp) (by rw [hb]; simp only [List.length_cons, List.length_nil]; congr 1; omega) (by simp only [List.length_append, List.length_cons, List.length_nil]; omega)
    refine ⟨D, by simpa using d1, d2, ?_⟩
    rw [hw, show P ++ x :: A ++ T = P ++ [x] ++ (A ++ T) by simp, d3]
    rfl

end ins
theorem EH {cmp : α → α → Option Int} {a b n : Int} : ∀ (X Y Q Z R : List α) (i : Nat), X.length = Y.length → a + i = (Q.length : Nat) → b + i = ((Q.length + X.length + Z.length : Nat) : Int) → n = ((i + X.length : Nat) : Int) → 0 ≤ a → 0 ≤ b → (Q ++ X ++ Z ++ Y ++ R).length ≤ 1099511627776 →
    lp (fun s : List α × Int => oM cmp a b n s.1 s.2) (Q ++ X ++ Z ++ Y ++ R, ((i : Nat) : Int)) = some (Q ++ Y ++ Z ++ X ++ R)
  | [], Y, Q, Z, R, i, hxy, ha, hb, hn, _, _, hl => by
    have : Y = [] := List.length_eq_zero_iff.1 hxy.symm
    subst this
    refine cR ?_
    have : decide (((i : Nat) : Int) < n) = false := by subst hn; simp
    simp only [oM, this, cond_false]
  | x :: X, [], Q, Z, R, i, hxy, _, _, _, _, _, _ => by simp at hxy
  | x :: X, y :: Y, Q, Z, R, i, hxy, ha, hb, hn, ha0, hb0, hl => by
    simp only [List.length_append, List.length_cons] at hl hb hn hxy
    have hlt : decide (((i : Nat) : Int) < n) = true := by subst hn; simp; omega
    have wa : IntKind.i64.wrap (a + i) = ((Q.length : Nat) : Int) := by rw [wr (by omega) (by omega)]; exact ha
    have wb : IntKind.i64.wrap (b + i) = ((Q.length + 1 + (X ++ Z).length : Nat) : Int) := by rw [wr (by omega) (by omega), hb]; simp only [List.length_append]; congr 1; omega
    have wi : IntKind.i64.wrap (((i : Nat) : Int) + 1) = ((i + 1 : Nat) : Int) := by rw [wr (by omega) (by omega)]; omega
    have hd : Q ++ x :: X ++ Z ++ y :: Y ++ R = Q ++ x :: ((X ++ Z) ++ y :: (Y ++ R)) := by simp
    have b1 : 0 ≤ ((Q.length : Nat) : Int) ∧ ((Q.length : Nat) : Int) < ((List.length (Q ++ x :: X ++ Z ++ y :: Y ++ R) : Nat) : Int) := ⟨by omega, by simp only [List.length_append, List.length_cons]; omega⟩
    have b2 : 0 ≤ ((Q.length + 1 + (X ++ Z).length : Nat) : Int) ∧ ((Q.length + 1 + (X ++ Z).length : Nat) : Int) < ((List.length (Q ++ x :: X ++ Z ++ y :: Y ++ R) : Nat) : Int) := ⟨by omega, by simp only [List.length_append, List.length_cons]; omega⟩
    have g1 : (Q ++ x :: X ++ Z ++ y :: Y ++ R).getD Q.length default = x := pE hd rfl
    have g2 : (Q ++ x :: X ++ Z ++ y :: Y ++ R).getD (Q.length + 1 + (X ++ Z).length) default = y := pE (Q := Q ++ x :: X ++ Z) (R := Y ++ R) (by simp) (by simp; omega)
    have hbod : (fun s : List α × Int => oM cmp a b n s.1 s.2) (Q ++ x :: X ++ Z ++ y :: Y ++ R, ((i : Nat) : Int)) = some (.inl ((Q ++ [y]) ++ X ++ (Z ++ [x]) ++ Y ++ R, ((i + 1 : Nat) : Int))) := by
      show oM cmp a b n _ _ = _
      simp only [oM, hlt, cond_true, wa, wb, wi, bG b1, bG b2, Int.toNat_natCast, g1, g2]
      rw [PZ hd rfl rfl]
      simp
    rw [eG hbod, EH X Y (Q ++ [y]) (Z ++ [x]) R (i + 1) (by omega) (by simp; omega) (by simp; omega) (by rw [hn]; congr 1; omega) ha0 hb0 (by simp only [List.length_append, List.length_cons, List.length_nil]; omega)]
    simp

theorem KO {cmp : α → α → Option Int} {a b n : Int} {X Y Q Z R d : List α} (hd : d = Q ++ X ++ Z ++ Y ++ R) (hxy : X.length = Y.length) (ha : a = (Q.length : Nat)) (hb : b = ((Q.length + X.length + Z.length : Nat) : Int)) (hn : n = (X.length : Nat)) (hl : d.length ≤ 1099511627776) :
    sW d a b n cmp = some (Q ++ Y ++ Z ++ X ++ R) := by
  subst hd
  unfold sW BO
  have := EH (cmp := cmp) (a := a) (b := b) (n := n) X Y Q Z R 0 hxy (by omega) (by omega) (by omega) (by omega) (by omega) hl
  simp only [Int.natCast_zero] at this
  rw [this]; rfl

theorem VW {cmp : α → α → Option Int} {m : Int} : ∀ (n : Nat) (X Y Q R : List α), X.length + Y.length ≤ n → X ≠ [] → Y ≠ [] → m = ((Q.length + X.length : Nat) : Int) → (Q ++ X ++ Y ++ R).length ≤ 1099511627776 →
    (lp (fun s : List α × Int × Int => lX cmp m s.1 s.2.1 s.2.2) (Q ++ X ++ Y ++ R, ((X.length : Nat) : Int), ((Y.length : Nat) : Int))).bind (fun rr => BG cmp rr.1 m rr.2) = some (Q ++ Y ++ X ++ R) := by
  intro n
  induction n with
  | zero => intro X Y Q R hn hX; exact absurd (List.length_eq_zero_iff.1 (by omega)) hX
  | succ n ih =>
    intro X Y Q R hn hX hY hm hl
    have hX' : 0 < X.length := List.length_pos_iff.2 hX
    have hY' : 0 < Y.length := List.length_pos_iff.2 hY
    simp only [List.length_append] at hl
    rcases Nat.lt_trichotomy X.length Y.length with h | h | h
    · -- the second is longer
      obtain ⟨Y1, Y2, rfl, hY2⟩ : ∃ Y1 Y2, Y = Y1 ++ Y2 ∧ Y2.length = X.length := ⟨Y.take (Y.length - X.length), Y.drop (Y.length - X.length), (List.take_append_drop _ _).symm, by rw [List.length_drop]; omega⟩
      simp only [List.length_append] at hn hl h
      have hne : decide (((X.length : Nat) : Int) = (((Y1 ++ Y2).length : Nat) : Int)) = false := by simp only [List.length_append]; simp; omega
      have hlt : decide ((((Y1 ++ Y2).length : Nat) : Int) < ((X.length : Nat) : Int)) = false := by simp only [List.length_append]; simp; omega
      have e1 : IntKind.i64.wrap (m - ((X.length : Nat) : Int)) = ((Q.length : Nat) : Int) := by rw [wr (by omega) (by omega)]; omega
      have e0 : IntKind.i64.wrap (m + (((Y1 ++ Y2).length : Nat) : Int)) = m + (((Y1 ++ Y2).length : Nat) : Int) := by simp only [List.length_append]; exact wr (by omega) (by omega)
      have e2 : IntKind.i64.wrap (m + (((Y1 ++ Y2).length : Nat) : Int) - ((X.length : Nat) : Int)) = ((Q.length + X.length + Y1.length : Nat) : Int) := by simp only [List.length_append]; rw [wr (by omega) (by omega)]; omega
      have e3 : IntKind.i64.wrap ((((Y1 ++ Y2).length : Nat) : Int) - ((X.length : Nat) : Int)) = ((Y1.length : Nat) : Int) := by simp only [List.length_append]; rw [wr (by omega) (by omega)]; omega
      have hbod : (fun s : List α × Int × Int => lX cmp m s.1 s.2.1 s.2.2) (Q ++ X ++ (Y1 ++ Y2) ++ R, ((X.length : Nat) : Int), (((Y1 ++ Y2).length : Nat) : Int)) = some (.inl (Q ++ Y2 ++ Y1 ++ (X ++ R), ((Y2.length : Nat) : Int), ((Y1.length : Nat) : Int))) := by
        show lX cmp m _ _ _ = _
        simp only [lX, hne, Bool.not_false, cond_true, hlt, cond_false, e0, e1, e2, e3]
        rw [KO (X := X) (Y := Y2) (Q := Q) (Z := Y1) (R := R) (by simp) hY2.symm rfl rfl rfl (by simp only [List.length_append]; omega)]
        simp [hY2]
      rw [eG hbod, ih Y2 Y1 Q (X ++ R) (by omega) (fun h => by rw [h] at hY2; simp at hY2; omega) (fun h' => by rw [h'] at h; simp at h; omega) (by rw [hm]; congr 1; omega) (by simp only [List.length_append]; omega)]
      simp
    · -- alike
      have hne : decide (((X.length : Nat) : Int) = ((Y.length : Nat) : Int)) = true := by simp; omega
      rw [cR (r := (Q ++ X ++ Y ++ R, ((X.length : Nat) : Int))) (by show lX cmp m _ _ _ = _; simp only [lX, hne, Bool.not_true, cond_false])]
      simp only [Option.bind_some, BG]
      have e1 : IntKind.i64.wrap (m - ((X.length : Nat) : Int)) = ((Q.length : Nat) : Int) := by rw [wr (by omega) (by omega)]; omega
      rw [e1, KO (X := X) (Y := Y) (Q := Q) (Z := []) (R := R) (by simp) h rfl (by rw [hm]; simp) rfl (by simp only [List.length_append]; omega)]
      simp
    · -- the first is longer
      obtain ⟨X1, X2, rfl, hX1⟩ : ∃ X1 X2, X = X1 ++ X2 ∧ X1.length = Y.length := ⟨X.take Y.length, X.drop Y.length, (List.take_append_drop _ _).symm, by rw [List.length_take]; omega⟩
      simp only [List.length_append] at hn hl h hm
      have hne : decide ((((X1 ++ X2).length : Nat) : Int) = ((Y.length : Nat) : Int)) = false := by simp only [List.length_append]; simp; omega
      have hlt : decide (((Y.length : Nat) : Int) < (((X1 ++ X2).length : Nat) : Int)) = true := by simp only [List.length_append]; simp; omega
      have e1 : IntKind.i64.wrap (m - (((X1 ++ X2).length : Nat) : Int)) = ((Q.length : Nat) : Int) := by simp only [List.length_append]; rw [wr (by omega) (by omega)]; omega
      have e3 : IntKind.i64.wrap ((((X1 ++ X2).length : Nat) : Int) - ((Y.length : Nat) : Int)) = ((X2.length : Nat) : Int) := by simp only [List.length_append]; rw [wr (by omega) (by omega)]; omega
      have hbod : (fun s : List α × Int × Int => lX cmp m s.1 s.2.1 s.2.2) (Q ++ (X1 ++ X2) ++ Y ++ R, (((X1 ++ X2).length : Nat) : Int), ((Y.length : Nat) : Int)) = some (.inl ((Q ++ Y) ++ X2 ++ X1 ++ R, ((X2.length : Nat) : Int), ((X1.length : Nat) : Int))) := by
        show lX cmp m _ _ _ = _
        simp only [lX, hne, Bool.not_false, cond_true, hlt, e1, e3]
        rw [KO (X := X1) (Y := Y) (Q := Q) (Z := X2) (R := R) (by simp) hX1 rfl (by rw [hm]; congr 1; omega) (by rw [hX1]) (by simp only [List.length_append]; omega)]
        simp [hX1]
      rw [eG hbod, ih X2 X1 (Q ++ Y) R (by omega) (fun h' => by rw [h'] at h; simp at h; omega) (fun h => by rw [h] at hX1; simp at hX1; omega) (by rw [hm]; simp only [List.length_append]; congr 1; omega) (by simp only [List.length_append]; omega)]
      simp

theorem aBf {cmp : α → α → Option Int} {a m b : Int} {X Y Q R d : List α} (hd : d = Q ++ X ++ Y ++ R) (hX : X ≠ []) (hY : Y ≠ []) (ha : a = (Q.length : Nat)) (hm : m = ((Q.length + X.length : Nat) : Int)) (hb : b = ((Q.length + X.length + Y.length : Nat) : Int)) (hl : d.length ≤ 1099511627776) :
    AX d a m b cmp = some (Q ++ Y ++ X ++ R) := by
  subst hd
  unfold AX HD
  have hl' := hl
  simp only [List.length_append] at hl'
  rw [show IntKind.i64.wrap (m - a) = ((X.length : Nat) : Int) by rw [wr (by omega) (by omega)]; omega, show IntKind.i64.wrap (b - m) = ((Y.length : Nat) : Int) by rw [wr (by omega) (by omega)]; omega]
  exact VW _ X Y Q R (Nat.le_refl _) hX hY hm hl

end Go.Abs
namespace Go.Abs
open Go
variable {α : Type} [Inhabited α]
theorem half {s : Nat} (h : s ≤ 4398046511104) : IntKind.i64.wrap (Int.fdiv (IntKind.u64.wrap (IntKind.i64.wrap (s : Int))) (2 ^ (min (Int.toNat (1 : Int)) 64))) = ((s / 2 : Nat) : Int) := by
  rw [wr (n := (s : Int)) (by omega) (by omega)]
  have hu : IntKind.u64.wrap (s : Int) = (s : Int) := by
    simp only [IntKind.wrap, IntKind.bits, IntKind.signed]
    simp
    omega
  have hp : (2 : Int) ^ (min (Int.toNat (1 : Int)) 64) = 2 := by decide
  rw [hu, hp, Int.fdiv_eq_ediv_of_nonneg _ (by omega), wr (by omega) (by omega)]
  omega

theorem DH {P B S d : List α} {n k : Nat} (hd : d = P ++ B ++ S) (hn : n = P.length + k) (hk : k < B.length) : d.getD n default = B.getD k default := by
  subst hd; subst hn
  simp only [List.getD_eq_getElem?_getD]
  rw [List.append_assoc, List.getElem?_append_right (by omega), List.getElem?_append_left (by omega)]
  congr 2; omega

theorem CQ {l : List α} {t : Nat} {y : α} (h : y ∈ l.take t) : ∃ i, i < t ∧ i < l.length ∧ y = l.getD i default := by
  obtain ⟨i, hi, rfl⟩ := List.mem_iff_getElem.1 h
  rw [List.length_take] at hi
  refine ⟨i, by omega, by omega, ?_⟩
  rw [List.getElem_take, List.getD_eq_getElem?_getD, List.getElem?_eq_getElem (by omega)]; rfl

theorem tC {l : List α} {t : Nat} {y : α} (h : y ∈ l.drop t) : ∃ i, t ≤ i ∧ i < l.length ∧ y = l.getD i default := by
  obtain ⟨i, hi, rfl⟩ := List.mem_iff_getElem.1 h
  rw [List.length_drop] at hi
  refine ⟨t + i, by omega, by omega, ?_⟩
  rw [List.getElem_drop, List.getD_eq_getElem?_getD, List.getElem?_eq_getElem (by omega)]; rfl

theorem dB {l : List α} {i : Nat} (h : i < l.length) : l.getD i default ∈ l := by
  rw [List.getD_eq_getElem?_getD, List.getElem?_eq_getElem h]; exact List.getElem_mem h

section sym
variable {ok : α → Prop} {le : α → α → Prop} {cmp : α → α → Option Int}
theorem Cmp.refl {β : Type} {ok : β → Prop} {le : β → β → Prop} {cmp : β → β → Option Int} (C : Cmp ok le cmp) {x : β} (h : ok x) : le x x := by rcases C.total x x h h with h | h <;> exact h

theorem rI (C : Cmp ok le cmp) {l : List α} (ho : Oks ok l) (hs : Srt le l) {i j : Nat} (hij : i ≤ j) (hj : j < l.length) : le (l.getD i default) (l.getD j default) := by
  rcases Nat.lt_or_eq_of_le hij with h | h
  · have := List.pairwise_iff_getElem.1 hs i j (by omega) hj h
    simpa [List.getD_eq_getElem?_getD, List.getElem?_eq_getElem hj, List.getElem?_eq_getElem (show i < l.length by omega)] using this
  · subst h; exact C.refl (ho _ (dB hj))

theorem QH {β : Type} {le : β → β → Prop} {l : List β} (h : Srt le l) (t : Nat) : Srt le (l.take t) := List.Pairwise.sublist (List.take_sublist t l) h

theorem OQ {β : Type} {le : β → β → Prop} {l : List β} (h : Srt le l) (t : Nat) : Srt le (l.drop t) := List.Pairwise.sublist (List.drop_sublist t l) h

theorem OX {β : Type} {body : (List β × Int × Int) → Option ((List β × Int × Int) ⊕ (List β × Int))} {d : List β} {f : Nat → Prop} {lo hi : Nat}
    (hb : ∀ i j : Nat, lo ≤ i → i < j → j ≤ hi → ∃ t : Bool, (t = true ↔ f ((i + j) / 2)) ∧ body (d, (i : Int), (j : Int)) = some (.inl (if t then (d, (((i + j) / 2 + 1 : Nat) : Int), (j : Int)) else (d, (i : Int), (((i + j) / 2 : Nat) : Int)))))
    (he : ∀ i : Nat, body (d, (i : Int), (i : Int)) = some (.inr (d, (i : Int)))) :
    ∀ (n i j : Nat), j - i ≤ n → lo ≤ i → i ≤ j → j ≤ hi → (i = lo ∨ f (i - 1)) → (j = hi ∨ ¬ f j) → ∃ s, lo ≤ s ∧ s ≤ hi ∧ (s = lo ∨ f (s - 1)) ∧ (s = hi ∨ ¬ f s) ∧ lp body (d, (i : Int), (j : Int)) = some (d, ((s : Nat) : Int)) := by
  intro n
  induction n with
  | zero =>
    intro i j hn h1 h2 h3 h4 h5
    have : i = j := by omega
    subst this
    exact ⟨i, h1, h3, h4, h5, cR (he i)⟩
  | succ n ih =>
    intro i j hn h1 h2 h3 h4 h5
    by_cases hij : i = j
    · subst hij; exact ⟨i, h1, h3, h4, h5, cR (he i)⟩
    · obtain ⟨t, ht, hbt⟩ := hb i j h1 (by omega) h3
      cases t
      · obtain ⟨s, r1, r2, r3, r4, r5⟩ := ih i ((i + j) / 2) (by omega) h1 (by omega) (by omega) h4 (Or.inr (fun h => by have := ht.2 h; cases this))
        refine ⟨s, r1, r2, r3, r4, ?_⟩
        rw [eG hbt]; exact r5
      · obtain ⟨s, r1, r2, r3, r4, r5⟩ := ih ((i + j) / 2 + 1) j (by omega) (by omega) (by omega) h3 (Or.inr (by simpa using ht.1 rfl)) h5
        refine ⟨s, r1, r2, r3, r4, ?_⟩
        rw [eG hbt]; exact r5

def JN (le : α → α → Prop) (P A B S r : List α) : Prop := ∃ D, D.Perm (A ++ B) ∧ Srt le D ∧ r = P ++ D ++ S

theorem aAe {cmp : α → α → Option Int} {rec : List α → Int → Int → Int → Option (List α)} {e : Int} {x : α} : ∀ (B Q R : List α) (k : Nat), k = Q.length → e = ((Q.length + B.length + 1 : Nat) : Int) → (Q ++ x :: B ++ R).length ≤ 1099511627776 →
    lp (fun s : List α × Int => nB cmp rec e s.1 s.2) (Q ++ x :: B ++ R, (k : Int)) = some (Q ++ B ++ x :: R)
  | [], Q, R, k, hk, he, hl => by
    simp only [List.length_append, List.length_cons, List.length_nil] at hl he
    refine cR ?_
    show nB cmp rec e _ _ = _
    have : decide ((k : Int) < IntKind.i64.wrap (e - 1)) = false := by rw [wr (by omega) (by omega)]; simp; omega
    simp only [nB, this, cond_false]
    simp
  | y :: B, Q, R, k, hk, he, hl => by
    simp only [List.length_append, List.length_cons] at hl he
    have h1 : decide ((k : Int) < IntKind.i64.wrap (e - 1)) = true := by rw [wr (by omega) (by omega)]; simp; omega
    have hw : IntKind.i64.wrap ((k : Int) + 1) = ((k + 1 : Nat) : Int) := by rw [wr (by omega) (by omega)]; omega
    have b1 : 0 ≤ (k : Int) ∧ (k : Int) < ((List.length (Q ++ x :: y :: B ++ R) : Nat) : Int) := ⟨by omega, by simp only [List.length_append, List.length_cons]; omega⟩
    have b2 : 0 ≤ ((k + 1 : Nat) : Int) ∧ ((k + 1 : Nat) : Int) < ((List.length (Q ++ x :: y :: B ++ R) : Nat) : Int) := ⟨by omega, by simp only [List.length_append, List.length_cons]; omega⟩
    have hd : Q ++ x :: y :: B ++ R = Q ++ x :: ([] ++ y :: (B ++ R)) := by simp
    have g1 : (Q ++ x :: y :: B ++ R).getD k default = x := pE hd hk
    have g2 : (Q ++ x :: y :: B ++ R).getD (k + 1) default = y := pE (Q := Q ++ [x]) (R := B ++ R) (by simp) (by simp; omega)
    have hb : (fun s : List α × Int => nB cmp rec e s.1 s.2) (Q ++ x :: y :: B ++ R, (k : Int)) = some (.inl ((Q ++ [y]) ++ x :: B ++ R, ((k + 1 : Nat) : Int))) := by
      show nB cmp rec e _ _ = _
      simp only [nB, h1, cond_true, hw, bG b1, bG b2, Int.toNat_natCast, g1, g2]
      rw [PZ (M := []) hd hk (by simp; omega)]
      simp
    rw [eG hb, aAe B (Q ++ [y]) R (k + 1) (by simp; omega) (by rw [he]; simp only [List.length_append, List.length_cons, List.length_nil]; congr 1; omega) (by simp only [List.length_append, List.length_cons, List.length_nil]; omega)]
    simp

theorem aAq {cmp : α → α → Option Int} {rec : List α → Int → Int → Int → Option (List α)} {e : Int} {x : α} {Q : List α} (he : e = (Q.length : Nat)) : ∀ (n : Nat) (A R : List α) (k : Nat), A.length = n → k = Q.length + A.length → (Q ++ A ++ x :: R).length ≤ 1099511627776 →
    lp (fun s : List α × Int => mX cmp rec e s.1 s.2) (Q ++ A ++ x :: R, (k : Int)) = some (Q ++ x :: A ++ R) := by
  intro n
  induction n with
  | zero =>
    intro A R k hn hk hl
    have hA : A = [] := List.length_eq_zero_iff.1 hn
    subst hA
    refine cR ?_
    show mX cmp rec e _ _ = _
    have : decide (e < (k : Int)) = false := by simp only [List.length_nil] at hk; simp; omega
    simp only [mX, this, cond_false]
    simp
  | succ n ih =>
    intro A R k hn hk hl
    obtain ⟨A', y, rfl⟩ : ∃ A' y, A = A' ++ [y] := by
      rcases List.eq_nil_or_concat A with h | ⟨A', y, h⟩
      · rw [h] at hn; simp at hn
      · exact ⟨A', y, by simpa using h⟩
    simp only [List.length_append, List.length_cons, List.length_nil] at hl hk hn
    have h1 : decide (e < (k : Int)) = true := by simp; omega
    have hw : IntKind.i64.wrap ((k : Int) - 1) = ((Q.length + A'.length : Nat) : Int) := by rw [wr (by omega) (by omega)]; omega
    have b1 : 0 ≤ (k : Int) ∧ (k : Int) < ((List.length (Q ++ (A' ++ [y]) ++ x :: R) : Nat) : Int) := ⟨by omega, by simp only [List.length_append, List.length_cons, List.length_nil]; omega⟩
    have b2 : 0 ≤ ((Q.length + A'.length : Nat) : Int) ∧ ((Q.length + A'.length : Nat) : Int) < ((List.length (Q ++ (A' ++ [y]) ++ x :: R) : Nat) : Int) := ⟨by omega, by simp only [List.length_append, List.length_cons, List.length_nil]; omega⟩
    have g1 : (Q ++ (A' ++ [y]) ++ x :: R).getD k default = x := pE (Q := Q ++ (A' ++ [y])) rfl (by simp; omega)
    have g2 : (Q ++ (A' ++ [y]) ++ x :: R).getD (Q.length + A'.length) default = y := pE (Q := Q ++ A') (R := x :: R) (by simp) (by simp)
    have hb : (fun s : List α × Int => mX cmp rec e s.1 s.2) (Q ++ (A' ++ [y]) ++ x :: R, (k : Int)) = some (.inl (Q ++ A' ++ x :: (y :: R), ((Q.length + A'.length : Nat) : Int))) := by
      show mX cmp rec e _ _ = _
      simp only [mX, h1, cond_true, hw, bG b1, bG b2, Int.toNat_natCast, g1, g2]
      rw [CD (Q := Q ++ (A' ++ [y])) (x := x) (R := R) rfl (by simp; omega), CD (Q := Q ++ A') (x := y) (R := y :: R) (by simp) (by simp)]
    rw [eG hb, ih A' (y :: R) (Q.length + A'.length) (by omega) rfl (by simp only [List.length_append, List.length_cons]; omega)]
    simp

def TI (cmp : α → α → Option Int) (le : α → α → Prop) (P A B S : List α) (d : List α) (a m b : Int) : Prop :=
  (∃ r, JN le P A B S r ∧ ∀ rec, dU cmp rec d a m b = some r) ∨
  (∃ A1 A2 B1 B2, A = A1 ++ A2 ∧ B = B1 ++ B2 ∧ 0 < A1.length + B1.length ∧ 0 < A2.length + B2.length ∧ (∀ x ∈ A1 ++ B1, ∀ y ∈ A2 ++ B2, le x y) ∧
    ∀ rec, dU cmp rec d a m b = (cond (decide (A1 ≠ [] ∧ B1 ≠ [])) (rec (P ++ A1 ++ B1 ++ A2 ++ B2 ++ S) a (a + (A1.length : Nat)) (a + ((A1.length + B1.length : Nat) : Int))) (some (P ++ A1 ++ B1 ++ A2 ++ B2 ++ S))).bind fun x =>
      cond (decide (A2 ≠ [] ∧ B2 ≠ [])) (rec x (a + ((A1.length + B1.length : Nat) : Int)) (a + ((A1.length + B1.length + A2.length : Nat) : Int)) b) (some x))

theorem XP (C : Cmp ok le cmp) {P B S : List α} {x : α} {a m b : Int} (hx : ok x) (hB : Oks ok B) (hs : Srt le B) (ha : a = (P.length : Nat)) (hm : m = ((P.length + 1 : Nat) : Int)) (hb : b = ((P.length + 1 + B.length : Nat) : Int)) (hl : (P ++ x :: B ++ S).length ≤ 1099511627776) :
    ∃ r, JN le P [x] B S r ∧ ∀ rec, dU cmp rec (P ++ x :: B ++ S) a m b = some r := by
  have hl' := hl
  simp only [List.length_append, List.length_cons] at hl'
  have hgx : (P ++ x :: B ++ S).getD P.length default = x := pE (Q := P) (R := B ++ S) (by simp) rfl
  have hgb : ∀ k, k < B.length → (P ++ x :: B ++ S).getD (P.length + 1 + k) default = B.getD k default := fun k hk => DH (P := P ++ [x]) (B := B) (S := S) (by simp) (by simp) hk
  have hbin : ∀ rec, ∃ s : Nat, P.length + 1 ≤ s ∧ s ≤ P.length + 1 + B.length ∧ (s = P.length + 1 ∨ ¬ le x (B.getD (s - 1 - (P.length + 1)) default)) ∧ (s = P.length + 1 + B.length ∨ ¬ ¬ le x (B.getD (s - (P.length + 1)) default)) ∧
      lp (fun s : List α × Int × Int => mW cmp rec a s.1 s.2.1 s.2.2) (P ++ x :: B ++ S, m, b) = some (P ++ x :: B ++ S, ((s : Nat) : Int)) := by
    intro rec
    rw [hm, hb]
    refine OX (lo := P.length + 1) (hi := P.length + 1 + B.length) (f := fun k => ¬ le x (B.getD (k - (P.length + 1)) default)) ?_ ?_ _ _ _ (Nat.le_refl _) (Nat.le_refl _) (by omega) (Nat.le_refl _) (Or.inl rfl) (Or.inl rfl)
    · intro i j h1 h2 h3
      have hh : (i + j) / 2 - (P.length + 1) < B.length := by omega
      have e1 : (P ++ x :: B ++ S).getD ((i + j) / 2) default = B.getD ((i + j) / 2 - (P.length + 1)) default := by
        have := hgb ((i + j) / 2 - (P.length + 1)) hh
        rwa [show P.length + 1 + ((i + j) / 2 - (P.length + 1)) = (i + j) / 2 by omega] at this
      obtain ⟨v, hc, hv⟩ := C.ans _ x (hB _ (dB hh)) hx
      refine ⟨decide (v < 0), by simpa using hv, ?_⟩
      show mW cmp rec a _ _ _ = _
      have hlt : decide ((i : Int) < (j : Int)) = true := by simpa using h2
      have hadd : ((i : Int) + (j : Int)) = ((i + j : Nat) : Int) := by omega
      have w1 : IntKind.i64.wrap ((((i + j) / 2 : Nat) : Int) + 1) = (((i + j) / 2 + 1 : Nat) : Int) := by rw [wr (by omega) (by omega)]; omega
      simp only [mW, hlt, cond_true, hadd, half (s := i + j) (by omega), Int.toNat_natCast, ha, e1, hgx, hc, Option.bind_some, w1]
      rw [bG (by omega), bG ⟨by omega, by simp only [List.length_append, List.length_cons]; omega⟩, bG ⟨by omega, by simp only [List.length_append, List.length_cons]; omega⟩]
      by_cases hneg : v < 0 <;> simp [hneg]
    · intro i
      show mW cmp rec a _ _ _ = _
      have hlt : decide ((i : Int) < (i : Int)) = false := by simp
      simp only [mW, hlt, cond_false]
  obtain ⟨s, s1, s2, s3, s4, s5⟩ := hbin (fun _ _ _ _ => none)
  obtain ⟨t, rfl⟩ : ∃ t, s = P.length + 1 + t := ⟨s - (P.length + 1), by omega⟩
  have ht : t ≤ B.length := by omega
  have hx1 : ∀ i, i < t → le (B.getD i default) x := fun i hi => by
    have h3 : ¬ le x (B.getD (t - 1) default) := by
      rcases s3 with h | h
      · omega
      · rwa [show P.length + 1 + t - 1 - (P.length + 1) = t - 1 by omega] at h
    have h4 : le (B.getD (t - 1) default) x := by
      rcases C.total x _ hx (hB _ (dB (show t - 1 < B.length by omega))) with h | h
      · exact absurd h h3
      · exact h
    exact C.trans _ _ _ (hB _ (dB (by omega))) (hB _ (dB (by omega))) hx (rI C hB hs (show i ≤ t - 1 by omega) (by omega)) h4
  have hx2 : ∀ j, t ≤ j → j < B.length → le x (B.getD j default) := fun j hj hj' => by
    have h3 : le x (B.getD t default) := by
      rcases s4 with h | h
      · omega
      · rw [show P.length + 1 + t - (P.length + 1) = t by omega] at h
        exact Classical.not_not.1 h
    exact C.trans _ _ _ hx (hB _ (dB (by omega))) (hB _ (dB hj')) h3 (rI C hB hs hj hj')
  have hBs : B.take t ++ B.drop t = B := List.take_append_drop t B
  have hlt : (B.take t).length = t := by rw [List.length_take]; omega
  refine ⟨P ++ (B.take t ++ x :: B.drop t) ++ S, ⟨_, ?_, ?_, rfl⟩, fun rec => ?_⟩
  · have := List.perm_middle (a := x) (l₁ := B.take t) (l₂ := B.drop t)
    rw [hBs] at this; exact this
  · simp only [Srt, List.pairwise_append, List.pairwise_cons]
    refine ⟨QH hs t, ⟨fun z hz => ?_, OQ hs t⟩, fun y hy z hz => ?_⟩
    · obtain ⟨j, j1, j2, rfl⟩ := tC hz
      exact hx2 j j1 j2
    · obtain ⟨i, i1, i2, rfl⟩ := CQ hy
      rcases List.mem_cons.1 hz with rfl | hz
      · exact hx1 i i1
      · obtain ⟨j, j1, j2, rfl⟩ := tC hz
        exact rI C hB hs (by omega) j2
  · have h1 : decide (IntKind.i64.wrap (m - a) = 1) = true := by rw [wr (by omega) (by omega)]; simp; omega
    have s5' : lp (fun s : List α × Int × Int => mW cmp rec a s.1 s.2.1 s.2.2) (P ++ x :: B ++ S, m, b) = some (P ++ x :: B ++ S, ((P.length + 1 + t : Nat) : Int)) := s5
    simp only [dU, h1, cond_true, CC, s5', Option.bind_some, CF, BW]
    have hmv := aAe (cmp := cmp) (rec := rec) (e := ((P.length + 1 + t : Nat) : Int)) (x := x) (B.take t) P (B.drop t ++ S) P.length rfl (by rw [hlt]; congr 1; omega) (by simp only [List.length_append, List.length_cons, List.length_drop]; omega)
    have hd : P ++ x :: B.take t ++ (B.drop t ++ S) = P ++ x :: B ++ S := by
      have : P ++ x :: B.take t ++ (B.drop t ++ S) = P ++ x :: (B.take t ++ B.drop t) ++ S := by simp only [List.append_assoc, List.cons_append]
      rw [this, hBs]
    rw [hd] at hmv
    rw [ha, hmv]
    simp [BU]

theorem ZK (C : Cmp ok le cmp) {P A S : List α} {x : α} {a m b : Int} (hx : ok x) (hA : Oks ok A) (hs : Srt le A) (hA1 : A.length ≠ 1) (ha : a = (P.length : Nat)) (hm : m = ((P.length + A.length : Nat) : Int)) (hb : b = ((P.length + A.length + 1 : Nat) : Int)) (hl : (P ++ A ++ x :: S).length ≤ 1099511627776) :
    ∃ r, JN le P A [x] S r ∧ ∀ rec, dU cmp rec (P ++ A ++ x :: S) a m b = some r := by
  have hl' := hl
  simp only [List.length_append, List.length_cons] at hl'
  have hgx : (P ++ A ++ x :: S).getD (P.length + A.length) default = x := pE (Q := P ++ A) (R := S) rfl (by simp)
  have hga : ∀ k, k < A.length → (P ++ A ++ x :: S).getD (P.length + k) default = A.getD k default := fun k hk => DH (P := P) (B := A) (S := x :: S) rfl rfl hk
  have hbin : ∀ rec, ∃ s : Nat, P.length ≤ s ∧ s ≤ P.length + A.length ∧ (s = P.length ∨ le (A.getD (s - 1 - P.length) default) x) ∧ (s = P.length + A.length ∨ ¬ le (A.getD (s - P.length) default) x) ∧
      lp (fun s : List α × Int × Int => nA cmp rec m s.1 s.2.1 s.2.2) (P ++ A ++ x :: S, a, m) = some (P ++ A ++ x :: S, ((s : Nat) : Int)) := by
    intro rec
    rw [ha, hm]
    refine OX (lo := P.length) (hi := P.length + A.length) (f := fun k => le (A.getD (k - P.length) default) x) ?_ ?_ _ _ _ (Nat.le_refl _) (Nat.le_refl _) (by omega) (Nat.le_refl _) (Or.inl rfl) (Or.inl rfl)
    · intro i j h1 h2 h3
      have hh : (i + j) / 2 - P.length < A.length := by omega
      have e1 : (P ++ A ++ x :: S).getD ((i + j) / 2) default = A.getD ((i + j) / 2 - P.length) default := by
        have := hga ((i + j) / 2 - P.length) hh
        rwa [show P.length + ((i + j) / 2 - P.length) = (i + j) / 2 by omega] at this
      obtain ⟨v, hc, hv⟩ := C.ans x _ hx (hA _ (dB hh))
      refine ⟨!decide (v < 0), by simp only [Bool.not_eq_true', decide_eq_false_iff_not, hv, Classical.not_not], ?_⟩
      show nA cmp rec _ _ _ _ = _
      have hlt : decide ((i : Int) < (j : Int)) = true := by simpa using h2
      have hadd : ((i : Int) + (j : Int)) = ((i + j : Nat) : Int) := by omega
      have w1 : IntKind.i64.wrap ((((i + j) / 2 : Nat) : Int) + 1) = (((i + j) / 2 + 1 : Nat) : Int) := by rw [wr (by omega) (by omega)]; omega
      simp only [nA, hlt, cond_true, hadd, half (s := i + j) (by omega), Int.toNat_natCast, e1, hgx, hc, Option.bind_some, w1]
      rw [bG (by omega), bG ⟨by omega, by simp only [List.length_append, List.length_cons]; omega⟩, bG ⟨by omega, by simp only [List.length_append, List.length_cons]; omega⟩]
      by_cases hneg : v < 0 <;> simp [hneg]
    · intro i
      show nA cmp rec _ _ _ _ = _
      have hlt : decide ((i : Int) < (i : Int)) = false := by simp
      simp only [nA, hlt, cond_false]
  obtain ⟨s, s1, s2, s3, s4, s5⟩ := hbin (fun _ _ _ _ => none)
  obtain ⟨t, rfl⟩ : ∃ t, s = P.length + t := ⟨s - P.length, by omega⟩
  have ht : t ≤ A.length := by omega
  have hx1 : ∀ i, i < t → le (A.getD i default) x := fun i hi => by
    have h4 : le (A.getD (t - 1) default) x := by
      rcases s3 with h | h
      · omega
      · rwa [show P.length + t - 1 - P.length = t - 1 by omega] at h
    exact C.trans _ _ _ (hA _ (dB (by omega))) (hA _ (dB (by omega))) hx (rI C hA hs (show i ≤ t - 1 by omega) (by omega)) h4
  have hx2 : ∀ j, t ≤ j → j < A.length → le x (A.getD j default) := fun j hj hj' => by
    have h3 : le x (A.getD t default) := by
      rcases s4 with h | h
      · omega
      · rw [show P.length + t - P.length = t by omega] at h
        rcases C.total x _ hx (hA _ (dB (show t < A.length by omega))) with h' | h'
        · exact h'
        · exact absurd h' h
    exact C.trans _ _ _ hx (hA _ (dB (by omega))) (hA _ (dB hj')) h3 (rI C hA hs hj hj')
  have hAs : A.take t ++ A.drop t = A := List.take_append_drop t A
  have hlt : (A.take t).length = t := by rw [List.length_take]; omega
  refine ⟨P ++ (A.take t ++ x :: A.drop t) ++ S, ⟨_, ?_, ?_, rfl⟩, fun rec => ?_⟩
  · have := List.perm_middle (a := x) (l₁ := A.take t) (l₂ := A.drop t)
    rw [hAs] at this
    exact this.trans (by simpa using (List.perm_append_comm (l₁ := [x]) (l₂ := A)))
  · simp only [Srt, List.pairwise_append, List.pairwise_cons]
    refine ⟨QH hs t, ⟨fun z hz => ?_, OQ hs t⟩, fun y hy z hz => ?_⟩
    · obtain ⟨j, j1, j2, rfl⟩ := tC hz
      exact hx2 j j1 j2
    · obtain ⟨i, i1, i2, rfl⟩ := CQ hy
      rcases List.mem_cons.1 hz with rfl | hz
      · exact hx1 i i1
      · obtain ⟨j, j1, j2, rfl⟩ := tC hz
        exact rI C hA hs (by omega) j2
  · have h1 : decide (IntKind.i64.wrap (m - a) = 1) = false := by rw [wr (by omega) (by omega)]; simp; omega
    have h2 : decide (IntKind.i64.wrap (b - m) = 1) = true := by rw [wr (by omega) (by omega)]; simp; omega
    have s5' : lp (fun s : List α × Int × Int => nA cmp rec m s.1 s.2.1 s.2.2) (P ++ A ++ x :: S, a, m) = some (P ++ A ++ x :: S, ((P.length + t : Nat) : Int)) := s5
    simp only [dU, h1, cond_false, yU, h2, cond_true, CA, s5', Option.bind_some, DV, CE]
    have hmv := aAq (cmp := cmp) (rec := rec) (e := ((P.length + t : Nat) : Int)) (x := x) (Q := P ++ A.take t) (by simp [hlt]) (A.drop t).length (A.drop t) S (P.length + A.length) rfl (by simp only [List.length_append, List.length_drop, hlt]; omega) (by simp only [List.length_append, List.length_cons, List.length_drop, hlt]; omega)
    have hd : P ++ A.take t ++ A.drop t ++ x :: S = P ++ A ++ x :: S := by
      have : P ++ A.take t ++ A.drop t ++ x :: S = P ++ (A.take t ++ A.drop t) ++ x :: S := by simp only [List.append_assoc]
      rw [this, hAs]
    rw [hd] at hmv
    rw [hm, hmv]
    simp [EC]

theorem aAB (C : Cmp ok le cmp) {P A B S : List α} {a m b : Int} (hA : Oks ok A) (hB : Oks ok B) (hsA : Srt le A) (hsB : Srt le B) (hA2 : 2 ≤ A.length) (hB2 : 2 ≤ B.length)
    (ha : a = (P.length : Nat)) (hm : m = ((P.length + A.length : Nat) : Int)) (hb : b = ((P.length + A.length + B.length : Nat) : Int)) (hl : (P ++ A ++ B ++ S).length ≤ 1099511627776) :
    TI cmp le P A B S (P ++ A ++ B ++ S) a m b := by
  right
  have hl' := hl
  simp only [List.length_append] at hl'
  -- the middle
  obtain ⟨mid, hmid⟩ : ∃ mid : Nat, mid = (P.length + (P.length + A.length + B.length)) / 2 := ⟨_, rfl⟩
  have hga : ∀ k, P.length ≤ k → k < P.length + A.length → (P ++ A ++ B ++ S).getD k default = A.getD (k - P.length) default := fun k h1 h2 => DH (P := P) (B := A) (S := B ++ S) (by simp) (by omega) (by omega)
  have hgb : ∀ k, P.length + A.length ≤ k → k < P.length + A.length + B.length → (P ++ A ++ B ++ S).getD k default = B.getD (k - (P.length + A.length)) default := fun k h1 h2 => DH (P := P ++ A) (B := B) (S := S) (by simp) (by simp; omega) (by omega)
  -- the search
  obtain ⟨lo, hi, hlo, hhi, hbnd, hlohi, hrange, hinit⟩ : ∃ lo hi : Nat, (lo = P.length ∨ lo + (P.length + A.length + B.length) = mid + (P.length + A.length)) ∧ (hi = P.length + A.length ∨ hi = mid) ∧ (P.length ≤ lo ∧ mid + (P.length + A.length) ≤ lo + (P.length + A.length + B.length) ∧ hi ≤ P.length + A.length ∧ hi ≤ mid) ∧ lo ≤ hi ∧
      (∀ c, lo ≤ c → c < hi → P.length ≤ c ∧ c < P.length + A.length ∧ P.length + A.length ≤ mid + (P.length + A.length) - 1 - c ∧ mid + (P.length + A.length) - 1 - c < P.length + A.length + B.length) ∧
      (∀ rec, vQ cmp rec (P ++ A ++ B ++ S) a m b = vN cmp rec (P ++ A ++ B ++ S) a m b (mid : Int) ((mid + (P.length + A.length) : Nat) : Int) (lo : Int) (hi : Int)) := by
    have hw0 : IntKind.i64.wrap (Int.fdiv (IntKind.u64.wrap (IntKind.i64.wrap (a + b))) (2 ^ (min (Int.toNat (1 : Int)) 64))) = ((mid : Nat) : Int) := by
      rw [show a + b = ((P.length + (P.length + A.length + B.length) : Nat) : Int) by omega, half (by omega), hmid]
    have hw1 : IntKind.i64.wrap ((mid : Int) + m) = ((mid + (P.length + A.length) : Nat) : Int) := by rw [wr (by omega) (by omega)]; omega
    by_cases hc : mid < P.length + A.length
    · refine ⟨mid + (P.length + A.length) - (P.length + A.length + B.length), mid, Or.inr (by omega), Or.inr (by omega), by omega, by omega, fun c h1 h2 => ⟨by omega, by omega, by omega, by omega⟩, fun rec => ?_⟩
      have hlt : decide ((mid : Int) < m) = true := by simp; omega
      simp only [vQ, hw0, hlt, cond_true, hw1]
      rw [bG (by omega), show IntKind.i64.wrap (((mid + (P.length + A.length) : Nat) : Int) - b) = ((mid + (P.length + A.length) - (P.length + A.length + B.length) : Nat) : Int) by rw [wr (by omega) (by omega)]; omega]
    · refine ⟨P.length, P.length + A.length, Or.inl rfl, Or.inl rfl, by omega, by omega, fun c h1 h2 => ⟨by omega, by omega, by omega, by omega⟩, fun rec => ?_⟩
      have hlt : decide ((mid : Int) < m) = false := by simp; omega
      simp only [vQ, hw0, hlt, cond_false, hw1]
      rw [bG (by omega)]
      rw [ha, hm]
  have hbin : ∀ rec, ∃ s : Nat, lo ≤ s ∧ s ≤ hi ∧ (s = lo ∨ le (A.getD (s - 1 - P.length) default) (B.getD (mid + (P.length + A.length) - 1 - (s - 1) - (P.length + A.length)) default)) ∧ (s = hi ∨ ¬ le (A.getD (s - P.length) default) (B.getD (mid + (P.length + A.length) - 1 - s - (P.length + A.length)) default)) ∧
      lp (fun s : List α × Int × Int => nO cmp rec a m b (mid : Int) ((mid + (P.length + A.length) : Nat) : Int) ((mid + (P.length + A.length) - 1 : Nat) : Int) s.1 s.2.1 s.2.2) (P ++ A ++ B ++ S, (lo : Int), (hi : Int)) = some (P ++ A ++ B ++ S, ((s : Nat) : Int)) := by
    intro rec
    refine OX (lo := lo) (hi := hi) (f := fun k => le (A.getD (k - P.length) default) (B.getD (mid + (P.length + A.length) - 1 - k - (P.length + A.length)) default)) ?_ ?_ _ _ _ (Nat.le_refl _) (Nat.le_refl _) hlohi (Nat.le_refl _) (Or.inl rfl) (Or.inl rfl)
    · intro i j h1 h2 h3
      obtain ⟨r1, r2, r3, r4⟩ := hrange ((i + j) / 2) (by omega) (by omega)
      have e1 := hga ((i + j) / 2) r1 r2
      have e2 := hgb (mid + (P.length + A.length) - 1 - (i + j) / 2) r3 r4
      obtain ⟨v, hc, hv⟩ := C.ans (B.getD (mid + (P.length + A.length) - 1 - (i + j) / 2 - (P.length + A.length)) default) (A.getD ((i + j) / 2 - P.length) default) (hB _ (dB (by omega))) (hA _ (dB (by omega)))
      refine ⟨!decide (v < 0), by simp only [Bool.not_eq_true', decide_eq_false_iff_not, hv, Classical.not_not], ?_⟩
      show nO cmp rec _ _ _ _ _ _ _ _ _ = _
      have hlt : decide ((i : Int) < (j : Int)) = true := by simpa using h2
      have hadd : ((i : Int) + (j : Int)) = ((i + j : Nat) : Int) := by omega
      have w1 : IntKind.i64.wrap ((((i + j) / 2 : Nat) : Int) + 1) = (((i + j) / 2 + 1 : Nat) : Int) := by rw [wr (by omega) (by omega)]; omega
      have w2 : IntKind.i64.wrap (((mid + (P.length + A.length) - 1 : Nat) : Int) - (((i + j) / 2 : Nat) : Int)) = ((mid + (P.length + A.length) - 1 - (i + j) / 2 : Nat) : Int) := by rw [wr (by omega) (by omega)]; omega
      simp only [nO, hlt, cond_true, hadd, half (s := i + j) (by omega), w1, w2, Int.toNat_natCast, e1, e2, hc, Option.bind_some]
      rw [bG (by omega), bG ⟨by omega, by simp only [List.length_append]; omega⟩, bG ⟨by omega, by simp only [List.length_append]; omega⟩]
      by_cases hneg : v < 0 <;> simp [hneg]
    · intro i
      show nO cmp rec _ _ _ _ _ _ _ _ _ = _
      have hlt : decide ((i : Int) < (i : Int)) = false := by simp
      simp only [nO, hlt, cond_false]
  obtain ⟨s, s1, s2, s3, s4, s5⟩ := hbin (fun _ _ _ _ => none)
  have hsA0 : P.length ≤ s ∧ s ≤ P.length + A.length := by
    omega
  have hsB0 : P.length + A.length ≤ mid + (P.length + A.length) - s ∧ mid + (P.length + A.length) - s ≤ P.length + A.length + B.length := by
    omega
  obtain ⟨t, rfl⟩ : ∃ t, s = P.length + t := ⟨s - P.length, by omega⟩
  obtain ⟨u, hu⟩ : ∃ u, mid + (P.length + A.length) - (P.length + t) = P.length + A.length + u := ⟨mid + (P.length + A.length) - (P.length + t) - (P.length + A.length), by omega⟩
  have htA : t ≤ A.length := by omega
  have huB : u ≤ B.length := by omega
  have hmtu : mid = P.length + t + u := by omega
  have hAs : A.take t ++ A.drop t = A := List.take_append_drop t A
  have hBs : B.take u ++ B.drop u = B := List.take_append_drop u B
  have hlA1 : (A.take t).length = t := by rw [List.length_take]; omega
  have hlA2 : (A.drop t).length = A.length - t := by rw [List.length_drop]
  have hlB1 : (B.take u).length = u := by rw [List.length_take]; omega
  have hlB2 : (B.drop u).length = B.length - u := by rw [List.length_drop]
  refine ⟨A.take t, A.drop t, B.take u, B.drop u, hAs.symm, hBs.symm, by rw [hlA1, hlB1]; omega, by rw [hlA2, hlB2]; omega, ?_, fun rec => ?_⟩
  · -- who stands ahead of whom
    intro x hx y hy
    rcases List.mem_append.1 hx with hx | hx
    · obtain ⟨i, i1, i2, rfl⟩ := CQ hx
      rcases List.mem_append.1 hy with hy | hy
      · obtain ⟨j, j1, j2, rfl⟩ := tC hy
        exact rI C hA hsA (by omega) j2
      · obtain ⟨j, j1, j2, rfl⟩ := tC hy
        have h3 : le (A.getD (t - 1) default) (B.getD u default) := by
          rcases s3 with h | h
          · rcases hlo with h' | h' <;> omega
          · rwa [show P.length + t - 1 - P.length = t - 1 by omega, show mid + (P.length + A.length) - 1 - (P.length + t - 1) - (P.length + A.length) = u by omega] at h
        exact C.trans _ _ _ (hA _ (dB i2)) (hA _ (dB (by omega))) (hB _ (dB j2)) (rI C hA hsA (show i ≤ t - 1 by omega) (by omega))
          (C.trans _ _ _ (hA _ (dB (by omega))) (hB _ (dB (by omega))) (hB _ (dB j2)) h3 (rI C hB hsB j1 j2))
    · obtain ⟨i, i1, i2, rfl⟩ := CQ hx
      rcases List.mem_append.1 hy with hy | hy
      · obtain ⟨j, j1, j2, rfl⟩ := tC hy
        have h3 : le (B.getD (u - 1) default) (A.getD t default) := by
          have h0 : ¬ le (A.getD t default) (B.getD (u - 1) default) := by
            rcases s4 with h | h
            · rcases hhi with h' | h' <;> omega
            · rwa [show P.length + t - P.length = t by omega, show mid + (P.length + A.length) - 1 - (P.length + t) - (P.length + A.length) = u - 1 by omega] at h
          rcases C.total _ _ (hA _ (dB (show t < A.length by omega))) (hB _ (dB (show u - 1 < B.length by omega))) with h | h
          · exact absurd h h0
          · exact h
        exact C.trans _ _ _ (hB _ (dB i2)) (hB _ (dB (by omega))) (hA _ (dB j2)) (rI C hB hsB (show i ≤ u - 1 by omega) (by omega))
          (C.trans _ _ _ (hB _ (dB (by omega))) (hA _ (dB (by omega))) (hA _ (dB j2)) h3 (rI C hA hsA j1 j2))
      · obtain ⟨j, j1, j2, rfl⟩ := tC hy
        exact rI C hB hsB (by omega) j2
  · have h1 : decide (IntKind.i64.wrap (m - a) = 1) = false := by rw [wr (by omega) (by omega)]; simp; omega
    have h2 : decide (IntKind.i64.wrap (b - m) = 1) = false := by rw [wr (by omega) (by omega)]; simp; omega
    have s5' : lp (fun s : List α × Int × Int => nO cmp rec a m b (mid : Int) ((mid + (P.length + A.length) : Nat) : Int) ((mid + (P.length + A.length) - 1 : Nat) : Int) s.1 s.2.1 s.2.2) (P ++ A ++ B ++ S, (lo : Int), (hi : Int)) = some (P ++ A ++ B ++ S, ((P.length + t : Nat) : Int)) := s5
    have hp : IntKind.i64.wrap (((mid + (P.length + A.length) : Nat) : Int) - 1) = ((mid + (P.length + A.length) - 1 : Nat) : Int) := by rw [wr (by omega) (by omega)]; omega
    have he : IntKind.i64.wrap (((mid + (P.length + A.length) : Nat) : Int) - ((P.length + t : Nat) : Int)) = ((P.length + A.length + u : Nat) : Int) := by rw [wr (by omega) (by omega)]; omega
    simp only [dU, h1, cond_false, yU, h2, hinit rec, vN, EB, hp, s5', Option.bind_some, ED, he]
    -- the turn
    have hd : P ++ A ++ B ++ S = (P ++ A.take t) ++ A.drop t ++ B.take u ++ (B.drop u ++ S) := by
      have : (P ++ A.take t) ++ A.drop t ++ B.take u ++ (B.drop u ++ S) = P ++ (A.take t ++ A.drop t) ++ (B.take u ++ B.drop u) ++ S := by simp only [List.append_assoc]
      rw [this, hAs, hBs]
    have hrot : cond (decide (((P.length + t : Nat) : Int) < m) && decide (m < ((P.length + A.length + u : Nat) : Int)))
        ((AX (P ++ A ++ B ++ S) ((P.length + t : Nat) : Int) m ((P.length + A.length + u : Nat) : Int) cmp).bind fun x10 => pH cmp rec x10 a b (mid : Int) ((P.length + t : Nat) : Int) ((P.length + A.length + u : Nat) : Int))
        (pH cmp rec (P ++ A ++ B ++ S) a b (mid : Int) ((P.length + t : Nat) : Int) ((P.length + A.length + u : Nat) : Int))
        = pH cmp rec (P ++ A.take t ++ B.take u ++ A.drop t ++ B.drop u ++ S) a b (mid : Int) ((P.length + t : Nat) : Int) ((P.length + A.length + u : Nat) : Int) := by
      by_cases hc : t < A.length ∧ 0 < u
      · have : (decide (((P.length + t : Nat) : Int) < m) && decide (m < ((P.length + A.length + u : Nat) : Int))) = true := by simp; omega
        rw [this, cond_true, aBf (Q := P ++ A.take t) (X := A.drop t) (Y := B.take u) (R := B.drop u ++ S) hd (fun h => by rw [h] at hlA2; simp at hlA2; omega) (fun h => by rw [h] at hlB1; simp at hlB1; omega)
          (by simp only [List.length_append, hlA1]) (by simp only [List.length_append, hlA1, hlA2]; rw [hm]; congr 1; omega) (by simp only [List.length_append, hlA1, hlA2, hlB1]; congr 1; omega) hl]
        simp
      · have : (decide (((P.length + t : Nat) : Int) < m) && decide (m < ((P.length + A.length + u : Nat) : Int))) = false := by
          rw [Bool.eq_false_iff]; intro h; simp at h; apply hc; omega
        rw [this, cond_false, hd]
        congr 1
        by_cases h0 : t < A.length
        · have : u = 0 := by omega
          subst this; simp
        · have hz : A.drop t = [] := List.drop_eq_nil_of_le (by omega)
          simp only [hz, List.append_nil, List.append_assoc, List.nil_append]
    rw [hrot]
    have hne1 : decide (A.take t ≠ [] ∧ B.take u ≠ []) = (decide (a < ((P.length + t : Nat) : Int)) && decide (((P.length + t : Nat) : Int) < (mid : Int))) := by
      have q1 : A.take t ≠ [] ↔ 0 < t := by rw [← List.length_pos_iff, hlA1]
      have q2 : B.take u ≠ [] ↔ 0 < u := by rw [← List.length_pos_iff, hlB1]
      rw [Bool.eq_iff_iff]; simp [q1, q2]; omega
    have hne2 : decide (A.drop t ≠ [] ∧ B.drop u ≠ []) = (decide ((mid : Int) < ((P.length + A.length + u : Nat) : Int)) && decide (((P.length + A.length + u : Nat) : Int) < b)) := by
      have q1 : A.drop t ≠ [] ↔ t < A.length := by rw [← List.length_pos_iff, hlA2]; omega
      have q2 : B.drop u ≠ [] ↔ u < B.length := by rw [← List.length_pos_iff, hlB2]; omega
      rw [Bool.eq_iff_iff]; simp [q1, q2]; omega
    rw [hne1, hne2, hlA1, hlB1, hlA2]
    have f1 : a + ((t : Nat) : Int) = ((P.length + t : Nat) : Int) := by omega
    have f2 : a + ((t + u : Nat) : Int) = (mid : Int) := by omega
    have f3 : a + ((t + u + (A.length - t) : Nat) : Int) = ((P.length + A.length + u : Nat) : Int) := by omega
    rw [f1, f2, f3]
    simp only [pH, yS]
    cases (decide (a < ((P.length + t : Nat) : Int)) && decide (((P.length + t : Nat) : Int) < (mid : Int))) <;> simp only [cond_true, cond_false, Option.bind_some, Option.bind_fun_some]

end sym
end Go.Abs
namespace Go.Abs
open Go
variable {α : Type} [Inhabited α] {ok : α → Prop} {le : α → α → Prop} {cmp : α → α → Option Int}
theorem aAu (C : Cmp ok le cmp) {P A B S : List α} {a m b : Int} (hA : A ≠ []) (hB : B ≠ []) (oA : Oks ok A) (oB : Oks ok B) (sA : Srt le A) (sB : Srt le B)
    (ha : a = (P.length : Nat)) (hm : m = ((P.length + A.length : Nat) : Int)) (hb : b = ((P.length + A.length + B.length : Nat) : Int)) (hl : (P ++ A ++ B ++ S).length ≤ 1099511627776) : TI cmp le P A B S (P ++ A ++ B ++ S) a m b := by
  by_cases h1 : A.length = 1
  · obtain ⟨x, rfl⟩ := List.length_eq_one_iff.1 h1
    left
    obtain ⟨r, h, h'⟩ := XP C (P := P) (S := S) (x := x) (oA x (by simp)) oB sB ha (by simpa using hm) (by simpa using hb) (by simpa using hl)
    exact ⟨r, h, fun rec => by have := h' rec; simpa using this⟩
  · by_cases h2 : B.length = 1
    · obtain ⟨x, rfl⟩ := List.length_eq_one_iff.1 h2
      left
      obtain ⟨r, h, h'⟩ := ZK C (P := P) (S := S) (x := x) (oB x (by simp)) oA sA h1 ha hm (by simpa using hb) (by simpa using hl)
      exact ⟨r, h, fun rec => by have := h' rec; simpa using this⟩
    · have p1 := List.length_pos_iff.2 hA
      have p2 := List.length_pos_iff.2 hB
      exact aAB C oA oB sA sB (by omega) (by omega) ha hm hb hl

theorem IC (C : Cmp ok le cmp) : ∀ (k : Nat) (P A B S : List α) (a m b : Int), A ≠ [] → B ≠ [] → Oks ok A → Oks ok B → Srt le A → Srt le B →
    a = (P.length : Nat) → m = ((P.length + A.length : Nat) : Int) → b = ((P.length + A.length + B.length : Nat) : Int) → (P ++ A ++ B ++ S).length ≤ 1099511627776 →
    (∀ r, dW cmp k (P ++ A ++ B ++ S) a m b = some r → JN le P A B S r) ∧ (A.length + B.length ≤ k → ∃ r, dW cmp k (P ++ A ++ B ++ S) a m b = some r)
  | 0, P, A, B, S, a, m, b, hA, hB, oA, oB, sA, sB, ha, hm, hb, hl => by
    refine ⟨fun r h => by simp [dW] at h, fun h => ?_⟩
    exact absurd (List.length_eq_zero_iff.1 (by omega)) hA
  | k + 1, P, A, B, S, a, m, b, hA, hB, oA, oB, sA, sB, ha, hm, hb, hl => by
    have part : ∀ (P' A' B' S' : List α) (a' m' b' : Int), Oks ok A' → Oks ok B' → Srt le A' → Srt le B' → a' = (P'.length : Nat) → m' = ((P'.length + A'.length : Nat) : Int) → b' = ((P'.length + A'.length + B'.length : Nat) : Int) → (P' ++ A' ++ B' ++ S').length ≤ 1099511627776 →
        (∀ r, cond (decide (A' ≠ [] ∧ B' ≠ [])) (dW cmp k (P' ++ A' ++ B' ++ S') a' m' b') (some (P' ++ A' ++ B' ++ S')) = some r → JN le P' A' B' S' r) ∧
        (A'.length + B'.length ≤ k → ∃ r, cond (decide (A' ≠ [] ∧ B' ≠ [])) (dW cmp k (P' ++ A' ++ B' ++ S') a' m' b') (some (P' ++ A' ++ B' ++ S')) = some r) := by
      intro P' A' B' S' a' m' b' oA' oB' sA' sB' ha' hm' hb' hl'
      by_cases h : A' ≠ [] ∧ B' ≠ []
      · rw [decide_eq_true h, cond_true]
        exact IC C k P' A' B' S' a' m' b' h.1 h.2 oA' oB' sA' sB' ha' hm' hb' hl'
      · rw [decide_eq_false h, cond_false]
        refine ⟨fun r hr => ?_, fun _ => ⟨_, rfl⟩⟩
        cases hr
        refine ⟨A' ++ B', List.Perm.refl _, ?_, by simp⟩
        by_cases h1 : A' = []
        · subst h1; simpa using sB'
        · have h2 : B' = [] := Classical.byContradiction fun h2 => h ⟨h1, h2⟩
          subst h2; simpa using sA'
    rcases aAu C hA hB oA oB sA sB ha hm hb hl with ⟨r, hr, hs⟩ | ⟨A1, A2, B1, B2, rfl, rfl, p1, p2, hcross, hs⟩
    · have e : dW cmp (k + 1) (P ++ A ++ B ++ S) a m b = some r := hs _
      exact ⟨fun r' h => by rw [e] at h; cases h; exact hr, fun _ => ⟨r, e⟩⟩
    · have e := hs (dW cmp k)
      rw [show dU cmp (dW cmp k) = dW cmp (k + 1) from rfl] at e
      have q1 := part P A1 B1 (A2 ++ B2 ++ S) a (a + (A1.length : Nat)) (a + ((A1.length + B1.length : Nat) : Int)) (fun x hx => oA x (by simp [hx])) (fun x hx => oB x (by simp [hx]))
        (List.pairwise_append.1 sA).1 (List.pairwise_append.1 sB).1 ha (by omega) (by omega) (by simp only [List.length_append] at hl ⊢; omega)
      have hd1 : P ++ A1 ++ B1 ++ A2 ++ B2 ++ S = P ++ A1 ++ B1 ++ (A2 ++ B2 ++ S) := by simp
      rw [hd1] at e
      have q2 : ∀ D1 : List α, D1.Perm (A1 ++ B1) → _ := fun D1 hD1 => part (P ++ D1) A2 B2 S (a + ((A1.length + B1.length : Nat) : Int)) (a + ((A1.length + B1.length + A2.length : Nat) : Int)) b (fun x hx => oA x (by simp [hx])) (fun x hx => oB x (by simp [hx]))
        (List.pairwise_append.1 sA).2.1 (List.pairwise_append.1 sB).2.1 (by have := hD1.length_eq; simp only [List.length_append] at this ⊢; omega) (by have := hD1.length_eq; simp only [List.length_append] at this ⊢; omega)
        (by have := hD1.length_eq; rw [hb]; simp only [List.length_append] at this ⊢; congr 1; omega) (by have := hD1.length_eq; simp only [List.length_append] at hl this ⊢; omega)
      refine ⟨fun r h => ?_, fun hk => ?_⟩
      · rw [e] at h
        obtain ⟨x, h1, h2⟩ := Option.bind_eq_some_iff.1 h
        obtain ⟨D1, d1, d2, rfl⟩ := q1.1 x h1
        have h2' : cond (decide (A2 ≠ [] ∧ B2 ≠ [])) (dW cmp k (P ++ D1 ++ A2 ++ B2 ++ S) (a + ((A1.length + B1.length : Nat) : Int)) (a + ((A1.length + B1.length + A2.length : Nat) : Int)) b) (some (P ++ D1 ++ A2 ++ B2 ++ S)) = some r := by
          have : P ++ D1 ++ (A2 ++ B2 ++ S) = P ++ D1 ++ A2 ++ B2 ++ S := by simp
          rw [this] at h2; exact h2
        obtain ⟨D2, f1, f2, rfl⟩ := (q2 D1 d1).1 r h2'
        refine ⟨D1 ++ D2, ?_, ?_, by simp⟩
        · refine (d1.append f1).trans ?_
          have : (B1 ++ (A2 ++ B2)).Perm (A2 ++ (B1 ++ B2)) := by
            have := (List.perm_append_comm (l₁ := B1) (l₂ := A2)).append_right B2
            simpa using this
          have := this.append_left A1
          simpa using this
        · rw [Srt, List.pairwise_append]
          exact ⟨d2, f2, fun x hx y hy => hcross x (d1.mem_iff.1 hx) y (f1.mem_iff.1 hy)⟩
      · simp only [List.length_append] at hk
        obtain ⟨x, hx⟩ := q1.2 (by omega)
        obtain ⟨D1, d1, d2, rfl⟩ := q1.1 x hx
        obtain ⟨r, hr⟩ := (q2 D1 d1).2 (by omega)
        refine ⟨r, ?_⟩
        rw [e, hx]
        have : P ++ D1 ++ (A2 ++ B2 ++ S) = P ++ D1 ++ A2 ++ B2 ++ S := by simp
        rw [this]; exact hr

theorem UM {β : Type} {g : Nat → Option β} (h : ∃ k r, g k = some r) : ∃ r, HS g = some r := by
  unfold HS
  rw [dif_pos h]
  exact Classical.choose_spec h

theorem XR (C : Cmp ok le cmp) {P A B S d : List α} {a m b : Int} (hd : d = P ++ A ++ B ++ S) (hA : A ≠ []) (hB : B ≠ []) (oA : Oks ok A) (oB : Oks ok B) (sA : Srt le A) (sB : Srt le B)
    (ha : a = (P.length : Nat)) (hm : m = ((P.length + A.length : Nat) : Int)) (hb : b = ((P.length + A.length + B.length : Nat) : Int)) (hl : d.length ≤ 1099511627776) :
    ∃ D, D.Perm (A ++ B) ∧ Srt le D ∧ oE d a m b cmp = some (P ++ D ++ S) := by
  subst hd
  unfold oE
  obtain ⟨r, hr⟩ := (IC C (A.length + B.length) P A B S a m b hA hB oA oB sA sB ha hm hb hl).2 (Nat.le_refl _)
  obtain ⟨r', hr'⟩ := UM (g := fun k => dW cmp k (P ++ A ++ B ++ S) a m b) ⟨_, r, hr⟩
  obtain ⟨k, hk⟩ := EJ hr'
  obtain ⟨D, d1, d2, rfl⟩ := (IC C k P A B S a m b hA hB oA oB sA sB ha hm hb hl).1 r' hk
  exact ⟨D, d1, d2, hr'⟩

inductive mR {β : Type} (le : β → β → Prop) (n : Nat) : List β → Prop
  | last {l : List β} : l.length ≤ n → Srt le l → mR le n l
  | cons {x l : List β} : x.length = n → Srt le x → mR le n l → mR le n (x ++ l)

theorem mR.srt {β : Type} {le : β → β → Prop} {n : Nat} {l : List β} (h : mR le n l) (hl : l.length ≤ n) : Srt le l := by
  cases h with
  | last _ h => exact h
  | cons hx hs hr =>
    rename_i x r
    have : r = [] := List.length_eq_zero_iff.1 (by simp only [List.length_append] at hl; omega)
    subst this; simpa using hs

theorem mR.split {β : Type} {le : β → β → Prop} {n : Nat} {l : List β} (h : mR le n l) (hl : n < l.length) : ∃ x r, l = x ++ r ∧ x.length = n ∧ Srt le x ∧ mR le n r := by
  cases h with
  | last h' _ => omega
  | cons hx hs hr => exact ⟨_, _, rfl, hx, hs, hr⟩

theorem mR.aBr {β : Type} {le : β → β → Prop} {n : Nat} {l : List β} (hn : 0 < n) (h : mR le n l) (hl : 2 * n ≤ l.length) : ∃ x y r, l = x ++ y ++ r ∧ x.length = n ∧ y.length = n ∧ Srt le x ∧ Srt le y ∧ mR le n r := by
  obtain ⟨x, r, rfl, h1, h2, h3⟩ := h.split (by omega)
  simp only [List.length_append] at hl
  by_cases he : r.length = n
  · exact ⟨x, r, [], by simp, h1, he, h2, h3.srt (by omega), mR.last (by simp) List.Pairwise.nil⟩
  · obtain ⟨y, r', rfl, e1, e2, e3⟩ := h3.split (by omega)
    exact ⟨x, y, r', by simp, h1, e1, h2, e2, e3⟩

theorem Oks.perm {β : Type} {ok : β → Prop} {l l' : List β} (h : Oks ok l) (hp : l'.Perm l) : Oks ok l' := fun x hx => h x (hp.mem_iff.1 hx)

theorem aA2 (C : Cmp ok le cmp) {n1 : Int} : ∀ (n : Nat) (F G : List α), G.length ≤ n → Oks ok G → n1 = ((F.length + G.length : Nat) : Int) → (F ++ G).length ≤ 1099511627776 →
    ∃ G1 G2, (G1 ++ G2).Perm G ∧ G2.length < 20 ∧ (∀ H, H.length ≤ 20 → Srt le H → mR le 20 (G1 ++ H)) ∧
      lp (fun s : List α × Int × Int => lW cmp n1 20 s.1 s.2.1 s.2.2) (F ++ G, ((F.length : Nat) : Int), ((F.length + 20 : Nat) : Int)) = some (F ++ G1 ++ G2, ((F.length + G1.length : Nat) : Int)) := by
  intro n
  induction n with
  | zero =>
    intro F G hn hG h1 hl
    refine ⟨[], G, by simp, by omega, fun H h2 h3 => mR.last (by simpa using h2) (by simpa using h3), ?_⟩
    rw [cR (r := (F ++ G, ((F.length : Nat) : Int)))]
    · simp
    · have : decide (((F.length + 20 : Nat) : Int) ≤ n1) = false := by subst h1; simp; omega
      simp only [lW, this, cond_false]
  | succ n ih =>
    intro F G hn hG h1 hl
    by_cases hg : G.length < 20
    · refine ⟨[], G, by simp, by omega, fun H h2 h3 => mR.last (by simpa using h2) (by simpa using h3), ?_⟩
      rw [cR (r := (F ++ G, ((F.length : Nat) : Int)))]
      · simp
      · have : decide (((F.length + 20 : Nat) : Int) ≤ n1) = false := by subst h1; simp; omega
        simp only [lW, this, cond_false]
    · obtain ⟨X, R, rfl, hX⟩ : ∃ X R, G = X ++ R ∧ X.length = 20 := ⟨G.take 20, G.drop 20, (List.take_append_drop _ _).symm, by rw [List.length_take]; omega⟩
      simp only [List.length_append] at hn hl h1 hg
      obtain ⟨D, d1, d2, d3⟩ := XW C (P := F) (A := X) (T := R) (a := ((F.length : Nat) : Int)) (b := ((F.length + 20 : Nat) : Int)) rfl (by rw [hX]) (fun x hx => hG x (by simp [hx])) (by simp only [List.length_append]; omega)
      have hD : D.length = 20 := by rw [d1.length_eq, hX]
      obtain ⟨G1, G2, g1, g2, g3, g4⟩ := ih (F ++ D) R (by omega) (fun x hx => hG x (by simp [hx])) (by rw [h1]; simp only [List.length_append]; congr 1; omega) (by simp only [List.length_append]; omega)
      refine ⟨D ++ G1, G2, ?_, g2, fun H h2 h3 => ?_, ?_⟩
      · have := d1.append g1
        simpa using this
      · rw [List.append_assoc]; exact mR.cons hD d2 (g3 H h2 h3)
      · have hb : (fun s : List α × Int × Int => lW cmp n1 20 s.1 s.2.1 s.2.2) (F ++ (X ++ R), ((F.length : Nat) : Int), ((F.length + 20 : Nat) : Int)) = some (.inl (F ++ D ++ R, (((F ++ D).length : Nat) : Int), (((F ++ D).length + 20 : Nat) : Int))) := by
          show lW cmp n1 20 _ _ _ = _
          have : decide (((F.length + 20 : Nat) : Int) ≤ n1) = true := by subst h1; simp; omega
          simp only [lW, this, cond_true]
          rw [show F ++ (X ++ R) = F ++ X ++ R by simp, d3]
          simp only [Option.bind_some, List.length_append, hD]
          rw [wr (by omega) (by omega)]
          congr 1
        rw [eG hb, g4]
        simp only [List.length_append, List.append_assoc]
        congr 2
        congr 1; omega

theorem aBp (C : Cmp ok le cmp) {n1 : Int} {bs : Nat} (hbs : 0 < bs) (hbs' : bs ≤ 1099511627776) : ∀ (n : Nat) (F G : List α), G.length ≤ n → Oks ok G → mR le bs G → n1 = ((F.length + G.length : Nat) : Int) → (F ++ G).length ≤ 1099511627776 →
    ∃ G1 G2, (G1 ++ G2).Perm G ∧ G2.length < 2 * bs ∧ mR le bs G2 ∧ (∀ H, H.length ≤ 2 * bs → Srt le H → mR le (2 * bs) (G1 ++ H)) ∧
      lp (fun s : List α × Int × Int => lY cmp n1 (bs : Int) s.1 s.2.1 s.2.2) (F ++ G, ((F.length : Nat) : Int), ((F.length + 2 * bs : Nat) : Int)) = some (F ++ G1 ++ G2, ((F.length + G1.length : Nat) : Int)) := by
  have stop : ∀ (F G : List α), mR le bs G → G.length < 2 * bs → n1 = ((F.length + G.length : Nat) : Int) → ∃ G1 G2, (G1 ++ G2).Perm G ∧ G2.length < 2 * bs ∧ mR le bs G2 ∧ (∀ H, H.length ≤ 2 * bs → Srt le H → mR le (2 * bs) (G1 ++ H)) ∧
      lp (fun s : List α × Int × Int => lY cmp n1 (bs : Int) s.1 s.2.1 s.2.2) (F ++ G, ((F.length : Nat) : Int), ((F.length + 2 * bs : Nat) : Int)) = some (F ++ G1 ++ G2, ((F.length + G1.length : Nat) : Int)) := by
    intro F G hG hg h1
    refine ⟨[], G, by simp, hg, hG, fun H h2 h3 => mR.last (by simpa using h2) (by simpa using h3), ?_⟩
    rw [cR (r := (F ++ G, ((F.length : Nat) : Int)))]
    · simp
    · have : decide (((F.length + 2 * bs : Nat) : Int) ≤ n1) = false := by subst h1; simp; omega
      show lY cmp n1 _ _ _ _ = _
      simp only [lY, this, cond_false]
  intro n
  induction n with
  | zero => intro F G hn _ hB h1 _; exact stop F G hB (by omega) h1
  | succ n ih =>
    intro F G hn hG hB h1 hl
    by_cases hg : G.length < 2 * bs
    · exact stop F G hB hg h1
    · obtain ⟨x, y, R, rfl, x1, y1, sx, sy, hR⟩ := hB.aBr hbs (by omega)
      simp only [List.length_append] at hn hl h1 hg
      obtain ⟨D, d1, d2, d3⟩ := XR C (P := F) (A := x) (B := y) (S := R) (d := F ++ (x ++ y ++ R)) (a := ((F.length : Nat) : Int)) (m := ((F.length + bs : Nat) : Int)) (b := ((F.length + 2 * bs : Nat) : Int)) (by simp) (fun h => by rw [h] at x1; simp at x1; omega) (fun h => by rw [h] at y1; simp at y1; omega)
        (fun z hz => hG z (by simp [hz])) (fun z hz => hG z (by simp [hz])) sx sy rfl (by rw [x1]) (by rw [x1, y1]; congr 1; omega) (by simp only [List.length_append]; omega)
      have hD : D.length = 2 * bs := by rw [d1.length_eq]; simp only [List.length_append]; omega
      obtain ⟨G1, G2, g1, g2, g3, g4, g5⟩ := ih (F ++ D) R (by omega) (fun z hz => hG z (by simp [hz])) hR (by rw [h1]; simp only [List.length_append]; congr 1; omega) (by simp only [List.length_append]; omega)
      refine ⟨D ++ G1, G2, ?_, g2, g3, fun H h2 h3 => ?_, ?_⟩
      · have := d1.append g1
        simpa using this
      · rw [List.append_assoc]; exact mR.cons hD d2 (g4 H h2 h3)
      · have hb : (fun s : List α × Int × Int => lY cmp n1 (bs : Int) s.1 s.2.1 s.2.2) (F ++ (x ++ y ++ R), ((F.length : Nat) : Int), ((F.length + 2 * bs : Nat) : Int)) = some (.inl (F ++ D ++ R, (((F ++ D).length : Nat) : Int), (((F ++ D).length + 2 * bs : Nat) : Int))) := by
          show lY cmp n1 _ _ _ _ = _
          have : decide (((F.length + 2 * bs : Nat) : Int) ≤ n1) = true := by subst h1; simp; omega
          have w1 : IntKind.i64.wrap (((F.length : Nat) : Int) + (bs : Int)) = ((F.length + bs : Nat) : Int) := by rw [wr (by omega) (by omega)]; omega
          have w2 : IntKind.i64.wrap (2 * (bs : Int)) = 2 * (bs : Int) := wr (by omega) (by omega)
          have w3 : IntKind.i64.wrap (((F.length + 2 * bs : Nat) : Int) + 2 * (bs : Int)) = ((F.length + 2 * bs + 2 * bs : Nat) : Int) := by rw [wr (by omega) (by omega)]; omega
          simp only [lY, this, cond_true, w1, w2, w3, d3, Option.bind_some, List.length_append, hD]
        rw [eG hb, g5]
        simp only [List.length_append, List.append_assoc]
        congr 2
        congr 1; omega

theorem TZ (C : Cmp ok le cmp) {d : List α} {bs : Nat} (hbs : 0 < bs) (hbs' : bs < d.length) (ho : Oks ok d) (hB : mR le bs d) (hl : d.length ≤ 1099511627776) :
    ∃ r, r.Perm d ∧ mR le (2 * bs) r ∧ jK cmp ((d.length : Nat) : Int) d (bs : Int) = some (.inl (r, ((2 * bs : Nat) : Int))) := by
  obtain ⟨G1, G2, g1, g2, g3, g4, g5⟩ := aBp C (n1 := ((d.length : Nat) : Int)) hbs (by omega) d.length [] d (Nat.le_refl _) ho hB (by simp) (by simpa using hl)
  have hlen := g1.length_eq
  simp only [List.length_append] at hlen
  have w2 : IntKind.i64.wrap (2 * (bs : Int)) = ((2 * bs : Nat) : Int) := by rw [wr (by omega) (by omega)]; omega
  have w4 : IntKind.i64.wrap ((bs : Int) * 2) = ((2 * bs : Nat) : Int) := by rw [wr (by omega) (by omega)]; omega
  have hlt : decide ((bs : Int) < ((d.length : Nat) : Int)) = true := by simp; omega
  simp only [List.nil_append, List.length_nil, Nat.zero_add, Int.natCast_zero] at g5
  have w1 : IntKind.i64.wrap (((G1.length : Nat) : Int) + (bs : Int)) = ((G1.length + bs : Nat) : Int) := by rw [wr (by omega) (by omega)]; omega
  by_cases hg : bs < G2.length
  · obtain ⟨x, y, rfl, x1, sx, hy⟩ := g3.split hg
    simp only [List.length_append] at g2 hg hlen
    have sy : Srt le y := hy.srt (by omega)
    have og : Oks ok (G1 ++ (x ++ y)) := ho.perm g1
    obtain ⟨D, d1, d2, d3⟩ := XR C (P := G1) (A := x) (B := y) (S := []) (d := G1 ++ (x ++ y)) (a := ((G1.length : Nat) : Int)) (m := ((G1.length + bs : Nat) : Int)) (b := ((d.length : Nat) : Int)) (by simp) (fun h => by rw [h] at x1; simp at x1; omega) (fun h => by rw [h] at hg; simp at hg; omega)
      (fun z hz => og z (by simp [hz])) (fun z hz => og z (by simp [hz])) sx sy rfl (by rw [x1]) (by congr 1; omega) (by simp only [List.length_append]; omega)
    refine ⟨G1 ++ D, ?_, ?_, ?_⟩
    · exact (d1.append_left G1).trans g1
    · exact g4 D (by rw [d1.length_eq]; simp only [List.length_append]; omega) d2
    · have hc : decide (((G1.length + bs : Nat) : Int) < ((d.length : Nat) : Int)) = true := by simp; omega
      simp only [jK, hlt, cond_true, w2, uX, g5, Option.bind_some, uR, w1, hc, d3, xT, w4]
      simp
  · refine ⟨G1 ++ G2, g1, g4 G2 (by omega) (g3.srt (by omega)), ?_⟩
    have hc : decide (((G1.length + bs : Nat) : Int) < ((d.length : Nat) : Int)) = false := by simp; omega
    simp only [jK, hlt, cond_true, w2, uX, g5, Option.bind_some, uR, w1, hc, cond_false, xT, w4]

theorem XI (C : Cmp ok le cmp) : ∀ (n : Nat) (d : List α) (bs : Nat), d.length - bs ≤ n → 0 < bs → Oks ok d → mR le bs d → d.length ≤ 1099511627776 →
    ∃ r, r.Perm d ∧ Srt le r ∧ lp (fun s : List α × Int => jK cmp ((d.length : Nat) : Int) s.1 s.2) (d, (bs : Int)) = some r := by
  have stop : ∀ (d : List α) (bs : Nat), d.length ≤ bs → mR le bs d → ∃ r, r.Perm d ∧ Srt le r ∧ lp (fun s : List α × Int => jK cmp ((d.length : Nat) : Int) s.1 s.2) (d, (bs : Int)) = some r := by
    intro d bs h hB
    refine ⟨d, List.Perm.refl _, hB.srt h, cR ?_⟩
    show jK cmp _ _ _ = _
    have : decide ((bs : Int) < ((d.length : Nat) : Int)) = false := by simp; omega
    simp only [jK, this, cond_false]
  intro n
  induction n with
  | zero => intro d bs hn _ _ hB _; exact stop d bs (by omega) hB
  | succ n ih =>
    intro d bs hn hbs ho hB hl
    by_cases h : d.length ≤ bs
    · exact stop d bs h hB
    · obtain ⟨r, r1, r2, r3⟩ := TZ C hbs (by omega) ho hB hl
      obtain ⟨r', e1, e2, e3⟩ := ih r (2 * bs) (by rw [r1.length_eq]; omega) (by omega) (ho.perm r1) r2 (by rw [r1.length_eq]; exact hl)
      rw [r1.length_eq] at e3
      refine ⟨r', e1.trans r1, e2, ?_⟩
      rw [eG (show (fun s : List α × Int => jK cmp ((d.length : Nat) : Int) s.1 s.2) (d, (bs : Int)) = _ from r3)]
      exact e3

theorem MF (C : Cmp ok le cmp) {d : List α} (ho : Oks ok d) (hl : d.length ≤ 1099511627776) : ∃ r, r.Perm d ∧ Srt le r ∧ wD d ((d.length : Nat) : Int) cmp = some r := by
  obtain ⟨G1, G2, g1, g2, g3, g4⟩ := aA2 C (n1 := ((d.length : Nat) : Int)) d.length [] d (Nat.le_refl _) ho (by simp) (by simpa using hl)
  have hlen := g1.length_eq
  simp only [List.length_append] at hlen
  have og := ho.perm g1
  obtain ⟨D, d1, d2, d3⟩ := XW C (P := G1) (A := G2) (T := []) (a := ((G1.length : Nat) : Int)) (b := ((d.length : Nat) : Int)) rfl (by congr 1; omega) (fun z hz => og z (by simp [hz])) (by simp only [List.length_append, List.length_nil]; omega)
  have hp : (G1 ++ D).Perm d := (d1.append_left G1).trans g1
  obtain ⟨r, r1, r2, r3⟩ := XI C (G1 ++ D).length (G1 ++ D) 20 (by omega) (by omega) (ho.perm hp) (g3 D (by rw [d1.length_eq]; omega) d2) (by rw [hp.length_eq]; exact hl)
  refine ⟨r, r1.trans hp, r2, ?_⟩
  simp only [List.nil_append, List.length_nil, Nat.zero_add, Int.natCast_zero] at g4
  unfold wD xR
  have g4' : lp (fun s : List α × Int × Int => lW cmp ((d.length : Nat) : Int) 20 s.1 s.2.1 s.2.2) (d, (0 : Int), (20 : Int)) = some (G1 ++ G2, ((G1.length : Nat) : Int)) := g4
  rw [g4']
  simp only [Option.bind_some, yB]
  rw [show G1 ++ G2 = G1 ++ G2 ++ [] by simp, d3]
  simp only [Option.bind_some, xZ, List.append_nil]
  rw [hp.length_eq] at r3
  have r3' : lp (fun s : List α × Int => jK cmp ((d.length : Nat) : Int) s.1 s.2) (G1 ++ D, (20 : Int)) = some r := r3
  rw [r3']; rfl

end Go.Abs
namespace Go.Abs
open Go
def DN (n : Int) : Bool := decide (n ≤ 1048576) && decide (-1048576 ≤ n)

theorem SN (n : Int) : uS n = some (DN n) := rfl

def CN (last : Int) (j : aB) : Bool := decide (j.At ≤ last) || decide (1125899906842624 ≤ j.At) || decide (j.Net = 0) || !DN j.Net

def chk (last : Int) : List aB → Bool
  | [] => true
  | j :: r => !CN last j && chk j.At r

def iK (f : List aB) : Bool := decide (f.length ≤ 1024) && chk (-2) f

theorem QM {f : List aB} {i : Nat} {a : aB} {last : Int} (ha : f[i]? = some a) (hl : f.length < 4611686018427387904) :
    lZ f (f.length : Nat) last i = some (if CN last a then .inr (.inr false) else .inl (a.At, ((i + 1 : Nat) : Int))) := by
  obtain ⟨d1, d2, d3, d4⟩ := idx ha hl
  simp only [lZ, d1, cond_true, bG d2, d3, d4, SN]
  unfold CN
  cases h : (decide (a.At ≤ last) || decide (1125899906842624 ≤ a.At) || decide (a.Net = 0)) <;> cases h2 : DN a.Net <;> simp [cZ]

theorem QF : ∀ (f : List aB) (last : Int), vM (fun last (j : aB) => some (if CN last j then .inr (.inr false) else .inl j.At)) (fun _ => (.inl () : Unit ⊕ Bool)) last f = some (if chk last f then .inl () else .inr false)
  | [], last => by simp [vM, chk]
  | j :: r, last => by
    cases h : CN last j
    · rw [VE (s' := j.At) (by simp [h])]
      rw [QF r j.At]
      simp [chk, h]
    · rw [VI (x := .inr false) (by simp [h])]
      simp [chk, h]

theorem KH (f : List aB) : nT f = some (iK f) := by
  unfold nT iK
  by_cases hl : f.length ≤ 1024
  · have h1 : decide ((1024 : Int) < ((f.length : Nat) : Int)) = false := by simp; omega
    rw [h1, cond_false]
    unfold yA
    have key := YH (l := f) (body := fun s : Int × Int => lZ f (f.length : Nat) s.1 s.2) (fun last i => (last, i)) _ _
      (fun i a s ha => by
        constructor
        · intro s' hs
          show lZ f (f.length : Nat) s i = _
          rw [QM ha (by omega)]
          split at hs <;> simp_all
        · intro x hs
          show lZ f (f.length : Nat) s i = _
          rw [QM ha (by omega)]
          split at hs <;> simp_all)
      (fun s => by show lZ f (f.length : Nat) s (f.length : Nat) = _; simp only [lZ, lO, cond_false]) (QF f (-2))
    rw [key]
    cases h : chk (-2) f <;> simp [uU, hl]
  · have h1 : decide ((1024 : Int) < ((f.length : Nat) : Int)) = true := by simp; omega
    rw [h1, cond_true]
    simp [hl]

theorem nY {last : Int} {j : aB} : CN last j = false ↔ last < j.At ∧ j.At < 1125899906842624 ∧ j.Net ≠ 0 ∧ j.Net ≤ 1048576 ∧ -1048576 ≤ j.Net := by
  simp [CN, DN]
  omega

def sN (last : Int) : List aB → Prop
  | [] => True
  | j :: r => (last < j.At ∧ j.At < 1125899906842624 ∧ j.Net ≠ 0 ∧ j.Net ≤ 1048576 ∧ -1048576 ≤ j.Net) ∧ sN j.At r

theorem SQ : ∀ {f : List aB} {last : Int}, chk last f = true ↔ sN last f
  | [], last => by simp [chk, sN]
  | j :: r, last => by simp [chk, sN, nY, SQ]

theorem mI {f : List aB} : iK f = true ↔ f.length ≤ 1024 ∧ sN (-2) f := by simp [iK, SQ]

theorem sN.above : ∀ {f : List aB} {last : Int}, sN last f → ∀ j ∈ f, last < j.At ∧ j.At < 1125899906842624 ∧ j.Net ≠ 0 ∧ j.Net ≤ 1048576 ∧ -1048576 ≤ j.Net
  | [], _, _, j, hj => by simp at hj
  | a :: r, last, h, j, hj => by
    rcases List.mem_cons.1 hj with rfl | hj
    · exact h.1
    · have := h.2.above j hj
      have h1 := h.1.1
      exact ⟨by omega, this.2⟩

def val (f : List aB) (t : Int) : Int := (f.map fun j => if j.At ≤ t then j.Net else 0).sum

theorem oL (t : Int) : val [] t = 0 := rfl

theorem cG (j : aB) (r : List aB) (t : Int) : val (j :: r) t = (if j.At ≤ t then j.Net else 0) + val r t := by simp [val]

theorem wW (f g : List aB) (t : Int) : val (f ++ g) t = val f t + val g t := by simp [val]

theorem wF {f : List aB} {t : Int} (h : ∀ j ∈ f, t < j.At) : val f t = 0 := by
  induction f with
  | nil => rfl
  | cons j r ih =>
    rw [cG, ih (fun k hk => h k (List.mem_cons_of_mem _ hk))]
    have := h j (List.mem_cons_self ..)
    rw [if_neg (by omega)]; rfl

theorem aAA (f : List aB) : sG f = some (if iK f then (f, 0) else ([], 7)) := by
  unfold sG
  rw [KH]
  cases h : iK f <;> simp

end Go.Abs
namespace Go.Abs
open Go
section both
variable {op : Int → Int → Option Int} {f g r : List aB} {out : List aB} {a b was t : Int} {j : aB}
end both
def emit (p v was : Int) : List aB := if v = was then [] else [⟨p, v - was⟩]

def xP (was : Int) : List (Int × Int) → List aB
  | [] => []
  | x :: r => emit x.1 x.2 was ++ xP x.2 r

def merge (f g : List aB) (a b : Int) : List (Int × Int × Int) :=
  match f, g with
  | [], [] => []
  | j :: f, [] => (j.At, a + j.Net, b) :: merge f [] (a + j.Net) b
  | [], k :: g => (k.At, a, b + k.Net) :: merge [] g a (b + k.Net)
  | j :: f, k :: g =>
    if j.At < k.At then (j.At, a + j.Net, b) :: merge f (k :: g) (a + j.Net) b
    else if k.At < j.At then (k.At, a, b + k.Net) :: merge (j :: f) g a (b + k.Net)
    else (j.At, a + j.Net, b + k.Net) :: merge f g (a + j.Net) (b + k.Net)

termination_by f.length + g.length
end Go.Abs
namespace Go.Abs
open Go
def comb (OP : Int → Int → Int) (f g : List aB) : List aB := xP 0 ((merge f g 0 0).map fun x => (x.1, OP x.2.1 x.2.2))

def told (f : List aB) : List aB × Int := if iK f then (f, 0) else ([], 7)

theorem YF (f : List aB) : sG f = some (told f) := aAA f

def two (OP : Int → Int → Int) (f g : List aB) : List aB × Int := if iK f && iK g then told (comb OP f g) else ([], 2)

end Go.Abs
namespace Go.Abs
open Go
theorem ZE (p v was t : Int) : val (emit p v was) t = if p ≤ t then v - was else 0 := by
  unfold emit
  by_cases h : v = was
  · rw [if_pos h, oL, h]; split <;> omega
  · rw [if_neg h, cG, oL]; simp

theorem sN.tM {l t : Int} {f : List aB} (h : sN l f) (ht : t ≤ l) : val f t = 0 := wF fun j hj => by have := (h.above j hj).1; omega

end Go.Abs
namespace Go.Abs
open Go
def VA (f : List aB) : Int := (f.map aB.Net).sum

def KP (t : Int) : List aB → List aB
  | [] => []
  | j :: r => if t ≤ j.At then [] else j :: KP t r

def aft (t : Int) : List aB → List aB
  | [] => []
  | j :: r => if t ≤ j.At then j :: r else aft t r

def aAX (t : Int) (f : List aB) : List aB := KP t f ++ (if VA (KP t f) = 0 then [] else [⟨t, -VA (KP t f)⟩])

def ahead (f : List aB) (t : Int) : List aB × Int :=
  if iK f then (if 1125899906842624 ≤ t then (f, 0) else told (aAX t f)) else ([], 2)

end Go.Abs
namespace Go.Abs
open Go
def aBE (t : Int) (f : List aB) : List aB := (if VA (KP t f) = 0 then [] else [⟨-1, VA (KP t f)⟩]) ++ aft t f

def rest (f : List aB) (t : Int) : List aB × Int :=
  if iK f then (if 1125899906842624 ≤ t then ([], 0) else if t ≤ -1 then (f, 0) else told (aBE t f)) else ([], 2)

end Go.Abs
namespace Go.Abs
open Go
def Up (last : Int) : List aB → Prop
  | [] => True
  | j :: r => (last < j.At ∧ j.At < 1125899906842624 ∧ j.Net ≠ 0) ∧ Up j.At r

theorem Up.above : ∀ {f : List aB} {last : Int}, Up last f → ∀ j ∈ f, last < j.At ∧ j.At < 1125899906842624 ∧ j.Net ≠ 0
  | [], _, _, j, hj => by simp at hj
  | a :: r, last, h, j, hj => by
    rcases List.mem_cons.1 hj with rfl | hj
    · exact h.1
    · have := h.2.above j hj
      have h1 := h.1.1
      exact ⟨by omega, this.2⟩

theorem Up.tM {l t : Int} {f : List aB} (h : Up l f) (ht : t ≤ l) : val f t = 0 := wF fun j hj => by have := (h.above j hj).1; omega

theorem Up.weaken {a b : Int} {f : List aB} (h : Up b f) (hab : a ≤ b) : Up a f := by
  cases f with
  | nil => trivial
  | cons j r => exact ⟨⟨by have := h.1.1; omega, h.1.2⟩, h.2⟩

theorem sN.up : ∀ {f : List aB} {last : Int}, sN last f → Up last f
  | [], _, _ => trivial
  | _ :: _, _, h => ⟨⟨h.1.1, h.1.2.1, h.1.2.2.1⟩, h.2.up⟩

theorem Up.ext : ∀ {f g : List aB} {last : Int}, Up last f → Up last g → (∀ t, last < t → t < 1125899906842624 → val f t = val g t) → f = g
  | [], [], _, _, _, _ => rfl
  | j :: r, [], last, hf, _, h => by
    have := h j.At hf.1.1 hf.1.2.1
    rw [cG, if_pos (Int.le_refl _), hf.2.tM (Int.le_refl _), oL] at this
    exact absurd (by omega) hf.1.2.2
  | [], k :: s, last, _, hg, h => by
    have := h k.At hg.1.1 hg.1.2.1
    rw [cG, if_pos (Int.le_refl _), hg.2.tM (Int.le_refl _), oL] at this
    exact absurd (by omega) hg.1.2.2
  | j :: r, k :: s, last, hf, hg, h => by
    have h1 := h j.At hf.1.1 hf.1.2.1
    have h2 := h k.At hg.1.1 hg.1.2.1
    rw [cG, if_pos (Int.le_refl _), hf.2.tM (Int.le_refl _), cG] at h1
    rw [cG, cG k, if_pos (Int.le_refl _), hg.2.tM (Int.le_refl _)] at h2
    have n1 := hf.1.2.2
    have n2 := hg.1.2.2
    have he : j.At = k.At := by
      rcases Int.lt_trichotomy j.At k.At with h3 | h3 | h3
      · rw [if_neg (by omega), hg.2.tM (by omega)] at h1; omega
      · exact h3
      · rw [if_neg (by omega), hf.2.tM (by omega)] at h2; omega
    rw [if_pos (by omega), hg.2.tM (by omega)] at h1
    have hj : j = k := by
      obtain ⟨a, b⟩ := j; obtain ⟨c, d⟩ := k
      simp only at he h1
      simp only [Int.add_zero] at h1
      rw [he, h1]
    subst hj
    rw [hf.2.ext hg.2 (fun t ht ht' => by
      have := h t (by have := hf.1.1; omega) ht'
      rw [cG, cG] at this; omega)]

def Inc (last : Int) : List Int → Prop
  | [] => True
  | p :: r => (last < p ∧ p < 1125899906842624) ∧ Inc p r

theorem Inc.above : ∀ {ps : List Int} {last : Int}, Inc last ps → ∀ p ∈ ps, last < p ∧ p < 1125899906842624
  | [], _, _, j, hj => by simp at hj
  | a :: r, last, h, j, hj => by
    rcases List.mem_cons.1 hj with rfl | hj
    · exact h.1
    · have := h.2.above j hj
      have h1 := h.1.1
      exact ⟨by omega, this.2⟩

theorem DG : ∀ {l : List (Int × Int)} {last was : Int}, Inc last (l.map Prod.fst) → Up last (xP was l)
  | [], _, _, _ => trivial
  | x :: r, last, was, h => by
    simp only [xP]
    have ih : Up x.1 (xP x.2 r) := DG h.2
    have h1 : last < x.1 ∧ x.1 < 1125899906842624 := h.1
    unfold emit
    split
    · exact ih.weaken (by omega)
    · exact ⟨⟨h1.1, h1.2, by simp only; omega⟩, ih⟩

theorem FG {F : Int → Int} : ∀ {ps : List Int} {last : Int}, Inc last ps → (∀ s t, last ≤ s → s ≤ t → t < 1125899906842624 → (∀ p ∈ ps, ¬ (s < p ∧ p ≤ t)) → F s = F t) →
    ∀ t, last ≤ t → t < 1125899906842624 → val (xP (F last) (ps.map fun p => (p, F p))) t = F t - F last
  | [], last, _, hF, t, h1, h2 => by
    have := hF last t (Int.le_refl _) h1 h2 (by simp)
    simp [xP, val, this]
  | p :: r, last, hi, hF, t, h1, h2 => by
    simp only [List.map_cons, xP]
    rw [wW, ZE]
    by_cases hp : p ≤ t
    · rw [if_pos hp, FG (F := F) hi.2 (fun s t' hs hst ht' hn => hF s t' (by have := hi.1.1; omega) hst ht' (fun q hq => by
        rcases List.mem_cons.1 hq with rfl | hq
        · omega
        · exact hn q hq)) t hp h2]
      omega
    · have := hF last t (Int.le_refl _) h1 h2 (fun q hq => by
        rcases List.mem_cons.1 hq with rfl | hq
        · omega
        · have := (hi.2.above q hq).1; omega)
      rw [if_neg hp, Up.tM (DG (last := p) (by rw [List.map_map]; simpa [Function.comp_def] using hi.2)) (by omega)]
      omega

theorem aBc {f : List aB} (h : iK f = true) : Up (-2) f := (mI.1 h).2.up

theorem ZQ {F : Int → Int} (h2 : F (-2) = 0) {ps : List Int} (hi : Inc (-2) ps) (hF : ∀ s t, -2 ≤ s → s ≤ t → t < 1125899906842624 → (∀ p ∈ ps, ¬ (s < p ∧ p ≤ t)) → F s = F t) {h : List aB} (hh : Up (-2) h) (hv : ∀ t, -2 < t → t < 1125899906842624 → val h t = F t) :
    xP 0 (ps.map fun p => (p, F p)) = h := by
  refine (DG (by rw [List.map_map]; simpa [Function.comp_def] using hi)).ext hh fun t h3 h4 => ?_
  have := FG hi hF t (by omega) h4
  rw [h2] at this
  rw [this, hv t h3 h4]; omega

end Go.Abs
namespace Go.Abs
open Go
theorem DK {f : List aB} (h : iK f = true) : ∀ j ∈ f, j.Net ≤ 1048576 ∧ -1048576 ≤ j.Net := fun j hj => by have := (mI.1 h).2.above j hj; omega

def AV (t : Int) : List Int → List Int
  | [] => [t]
  | p :: r => if p = t then p :: r else if t < p then t :: p :: r else p :: AV t r

theorem MX {t x : Int} : ∀ {ps : List Int}, x ∈ AV t ps ↔ x = t ∨ x ∈ ps
  | [] => by simp [AV]
  | p :: r => by
    unfold AV
    split
    · rename_i h; subst h; simp
    · split
      · simp
      · simp only [List.mem_cons, MX (ps := r)]; constructor <;> (intro h; rcases h with h | h | h <;> simp [h])

theorem MY {t : Int} : ∀ {ps : List Int} {last : Int}, Inc last ps → last < t → t < 1125899906842624 → Inc last (AV t ps)
  | [], last, _, h1, h2 => ⟨⟨h1, h2⟩, trivial⟩
  | p :: r, last, h, h1, h2 => by
    unfold AV
    split
    · exact h
    · split
      · rename_i h3 h4
        exact ⟨⟨h1, h2⟩, ⟨h4, h.1.2⟩, h.2⟩
      · exact ⟨h.1, MY h.2 (by omega) h2⟩

def LP (ps : List Int) (f : List aB) : List Int := f.foldl (fun ps j => AV j.At ps) ps

theorem HM {x : Int} : ∀ {f : List aB} {ps : List Int}, x ∈ LP ps f ↔ x ∈ ps ∨ ∃ j ∈ f, j.At = x
  | [], ps => by simp [LP]
  | k :: r, ps => by
    have := HM (x := x) (f := r) (ps := AV k.At ps)
    unfold LP at this ⊢
    rw [List.foldl_cons, this, MX]
    constructor
    · rintro ((h | h) | ⟨j, h, h'⟩)
      · exact Or.inr ⟨k, List.mem_cons_self .., h.symm⟩
      · exact Or.inl h
      · exact Or.inr ⟨j, List.mem_cons_of_mem _ h, h'⟩
    · rintro (h | ⟨j, h, h'⟩)
      · exact Or.inl (Or.inr h)
      · rcases List.mem_cons.1 h with rfl | h
        · exact Or.inl (Or.inl h'.symm)
        · exact Or.inr ⟨j, h, h'⟩

theorem OZ : ∀ {f : List aB} {ps : List Int} {last : Int}, Inc last ps → (∀ j ∈ f, last < j.At ∧ j.At < 1125899906842624) → Inc last (LP ps f)
  | [], _, _, h, _ => h
  | k :: r, ps, last, h, hf => by
    have hk := hf k (List.mem_cons_self ..)
    exact OZ (f := r) (MY h hk.1 hk.2) fun j hj => hf j (List.mem_cons_of_mem _ hj)

end Go.Abs
namespace Go.Abs
open Go
def mn (a b : Int) : Int := if b < a then b else a

def parts (v : Int) : List aB → List Int
  | [] => []
  | j :: r => (v + j.Net) :: parts (v + j.Net) r

def BM (f : List aB) : Int := (f.map fun j => val f j.At).foldl mn (val f (-1))

theorem parts_eq : ∀ {f : List aB} {l v : Int}, sN l f → parts v f = f.map fun j => v + val f j.At
  | [], _, _, _ => rfl
  | j :: r, l, v, h => by
    simp only [parts, List.map_cons]
    rw [parts_eq h.2, cG, if_pos (Int.le_refl _), h.2.tM (Int.le_refl _), Int.add_zero]
    congr 1
    apply List.map_congr_left
    intro k hk
    have := (h.2.above k hk).1
    rw [cG, if_pos (by omega)]; omega

theorem WC {j : aB} {r : List aB} (h : sN (-2) (j :: r)) : val (j :: r) (-1) = if j.At = -1 then j.Net else 0 := by
  have := h.1.1
  by_cases e : j.At = -1
  · rw [if_pos e, cG, if_pos (by omega), h.2.tM (by omega)]; omega
  · rw [if_neg e, wF]
    intro k hk
    rcases List.mem_cons.1 hk with rfl | hk
    · omega
    · have := (h.2.above k hk).1; omega

theorem JW {f : List aB} (hf : iK f = true) (m : Int) (hm : -1125899906842624 ≤ m ∧ m ≤ 1125899906842624) : rT 0 m f (f.length : Nat) 0 = some ((f.map fun j => val f j.At).foldl mn m) := by
  obtain ⟨hl, hr⟩ := mI.1 hf
  unfold rT
  rw [zL (l := f) (body := fun s : Int × Int × Int => mM f (f.length : Nat) s.1 s.2.1 s.2.2) (fun (s : Int × Int) i => (s.1, s.2, i)) (fun s r => (parts s.1 r).foldl mn s.2)
    (fun s r => (∀ j ∈ r, j.Net ≤ 1048576 ∧ -1048576 ≤ j.Net) ∧ r.length ≤ 1024 ∧ s.1 ≤ 1048576 * (1024 - r.length) ∧ -(1048576 * (1024 - r.length)) ≤ s.1) (0, m) ?_ ?_ ?_]
  · simp only [Option.bind_some, rX, parts_eq hr, Int.zero_add]
  · rintro i a r ⟨v, m⟩ ha ⟨h1, h2, h3, h4⟩
    obtain ⟨d1, d2, d3, d4⟩ := idx ha (by omega)
    have hj := h1 a (List.mem_cons_self ..)
    simp only [List.length_cons] at h2 h3 h4
    have hw : IntKind.i64.wrap (v + a.Net) = v + a.Net := gM (by omega) (by omega)
    left
    refine ⟨(v + a.Net, mn m (v + a.Net)), ?_, ⟨fun j hj => h1 j (List.mem_cons_of_mem _ hj), by omega, by simp only; omega, by simp only; omega⟩, rfl⟩
    show mM f (f.length : Nat) v m i = _
    simp only [mM, d1, cond_true, bG d2, d3, d4, hw, mn]
  · rintro ⟨v, m⟩ _
    show mM f (f.length : Nat) v m (f.length : Nat) = _
    simp only [mM, lO, cond_false, parts, List.foldl_nil]
  · exact ⟨DK hf, hl, by simp only; omega, by simp only; omega⟩

theorem ZG (f : List aB) : tI f = some (if iK f then BM f else 0) := by
  unfold tI
  rw [KH]
  cases h : iK f
  · simp
  · cases f with
    | nil => simp [BM, val]
    | cons j r =>
      obtain ⟨hl, hr⟩ := mI.1 h
      have hne : decide (((List.length (j :: r) : Nat) : Int) = 0) = false := by simp; omega
      simp only [Option.bind_some, Bool.not_true, Bool.false_or, hne, cond_false, bG aBL, aA6, if_true]
      have hj := hr.1
      unfold BM
      rw [WC hr]
      by_cases e : j.At = -1
      · simp only [e, decide_true, cond_true, if_true, pI]
        exact JW h j.Net (by omega)
      · simp only [e, decide_false, cond_false, if_false, pI]
        exact JW h 0 (by omega)

theorem BB {s t : Int} (hst : s ≤ t) : ∀ {f : List aB}, (∀ j ∈ f, ¬ (s < j.At ∧ j.At ≤ t)) → val f s = val f t
  | [], _ => rfl
  | j :: r, h => by
    have hj := h j (List.mem_cons_self ..)
    rw [cG, cG, BB hst (fun k hk => h k (List.mem_cons_of_mem _ hk))]
    by_cases e : j.At ≤ s
    · rw [if_pos e, if_pos (by omega)]
    · rw [if_neg e, if_neg (by omega)]

theorem UL {f : List aB} (h : iK f = true) : ∀ j ∈ f, -2 < j.At ∧ j.At < 1125899906842624 := fun j hj => by have := (mI.1 h).2.above j hj; omega

theorem aAG : iK [] = true := by decide

end Go.Abs
namespace Go.Abs
open Go
theorem w1 : IntKind.i64.wrap (0 + 1) = 1 := by rw [gM] <;> omega

theorem w2 : IntKind.i64.wrap (1 + 1) = 2 := by rw [gM] <;> omega

theorem w3 : IntKind.i64.wrap (1 - 1) = 0 := by rw [gM] <;> omega

theorem v0 : IntKind.i64.wrap 0 = 0 := by rw [gM] <;> omega

theorem v1 : IntKind.i64.wrap 1 = 1 := by rw [gM] <;> omega

theorem v2 : IntKind.i64.wrap 2 = 2 := by rw [gM] <;> omega

theorem v3 : IntKind.i64.wrap (-1) = -1 := by rw [gM] <;> omega

end Go.Abs
namespace Go.Abs
open Go
theorem YM (f : List aB) : (told f).1.length ≤ 1024 := by
  unfold told
  cases h : iK f
  · simp
  · simpa using (mI.1 h).1

end Go.Abs
namespace Go.Abs
theorem ZL : @dI = @nD aB _ := rfl

theorem XL : @dR = @dU aB _ := rfl

theorem SL (cmp) : ∀ k, @gI cmp k = @dW aB _ cmp k
  | 0 => rfl
  | k + 1 => by
    show dR cmp _ = dU cmp _
    rw [SL cmp k, XL]

theorem ZI : @eE = @oE aB _ := by
  funext d a m b cmp
  unfold eE oE
  simp only [SL]

theorem RY : @fB = @wD aB _ := by
  funext d n cmp
  unfold fB wD gS xR
  unfold iC lW eX yB
  unfold gW xZ gQ jK
  unfold gZ uX iG lY
  unfold eR uR
  rw [ZI, ZL]
  rfl

end Go.Abs
namespace Go.Abs
open Go
variable {α : Type} [Inhabited α]
noncomputable def oO (f1 : α → Option Bool) (s0 : (List α)) (t7 : Int) (t8 : Int) : Option ((Int) ⊕ (Unit ⊕ Int)) :=
  cond (decide (t8 < t7))
  (bJ (0 ≤ t8 ∧ t8 < ((List.length s0 : Nat) : Int)) <|
  (f1 (List.getD s0 (Int.toNat t8) default)).bind fun x2 =>
  cond x2
  (some (.inr (.inr t8)))
  (some (.inl (IntKind.i64.wrap (t8 + (1 : Int))))))
  (some (.inr (.inl ())))

theorem zZ {l : List α} {f : α → Option Bool} {g : α → Bool} (hl : l.length ≤ 1099511627776) (hf : ∀ x ∈ l, f x = some (g x)) : ∀ (r : List α) (k : Nat), l.drop k = r → k ≤ l.length →
    ∃ x, lp (fun s => oO f l (l.length : Nat) s) (k : Int) = some x ∧ ((x = .inl () ∧ r.any g = false) ∨ (∃ i : Nat, x = .inr (i : Int) ∧ k ≤ i ∧ i < l.length ∧ r.any g = true ∧ g (l.getD i default) = true ∧ ∀ j, k ≤ j → j < i → g (l.getD j default) = false))
  | [], k, hd, hk => by
    have : k = l.length := by
      have := congrArg List.length hd
      simp only [List.length_drop, List.length_nil] at this; omega
    subst this
    refine ⟨.inl (), cR ?_, Or.inl ⟨rfl, rfl⟩⟩
    show oO f l _ _ = _
    simp only [oO, lO, cond_false]
  | a :: r, k, hd, hk => by
    obtain ⟨h1, h2⟩ := drop_cons hd
    have hlt : k < l.length := (List.getElem?_eq_some_iff.1 h1).1
    obtain ⟨d1, d2, d3, d4⟩ := idx h1 (by omega)
    have hga : l.getD k default = a := by rw [Int.toNat_natCast] at d3; exact d3
    have hb : (fun s => oO f l (l.length : Nat) s) (k : Int) = some (if g a then .inr (.inr (k : Int)) else .inl ((k + 1 : Nat) : Int)) := by
      show oO f l _ _ = _
      simp only [oO, d1, cond_true, bG d2, d3, d4, hf a (List.mem_of_getElem? h1), Option.bind_some]
      cases g a <;> simp
    cases hg : g a
    · rw [hg] at hb
      obtain ⟨x, e, hx⟩ := zZ hl hf r (k + 1) h2 (by omega)
      refine ⟨x, by rw [eG hb]; exact e, ?_⟩
      rcases hx with ⟨rfl, h⟩ | ⟨i, rfl, h3, h4, h5, h6, h7⟩
      · exact Or.inl ⟨rfl, by simp [hg, h]⟩
      · refine Or.inr ⟨i, rfl, by omega, h4, by simp [h5], h6, fun j hj hj' => ?_⟩
        by_cases e : j = k
        · subst e; rw [hga, hg]
        · exact h7 j (by omega) hj'
    · rw [hg] at hb
      exact ⟨.inr (k : Int), cR hb, Or.inr ⟨k, rfl, Nat.le_refl _, hlt, by simp [hg], by rw [hga, hg], fun j h h' => by omega⟩⟩

end Go.Abs
namespace Go.Abs
open Go
theorem FT {l : List aB} {f : aB → Option Bool} {g : aB → Bool} (hl : l.length ≤ 1099511627776) (hf : ∀ x ∈ l, f x = some (g x)) : cQ l f = some (l.any g) := by
  unfold cQ fL fI
  obtain ⟨x, e, hx⟩ := zZ hl hf l 0 rfl (Nat.zero_le _)
  have e' : lp (fun s => fE f l (l.length : Nat) s) 0 = some x := e
  rw [e']
  rcases hx with ⟨rfl, h⟩ | ⟨i, rfl, _, _, h, _⟩
  · simp [dN, h]
  · simp [h]

def rZ (j : aB) : Bool := !DN j.Net

def xG (j : aB) : Bool := decide (j.At < -1) || decide (1125899906842624 < j.At)

def vL (l : List aB) : List aB := xP 0 ((LP [] (l.filter fun j => decide (j.At < 1125899906842624))).map fun p => (p, val l p))

def jC (l : List aB) : List aB × Int := if l.any rZ then ([], 2) else if l.any xG then ([], 13) else told (vL l)

end Go.Abs
