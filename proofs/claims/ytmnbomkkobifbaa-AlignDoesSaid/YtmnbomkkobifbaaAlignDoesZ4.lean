/- What the law AlignDoes stands on: the framework, the given functions as plain functions, their walks, and the plain laws; part 4. -/
import Derived.Test.YtmnbomkkobifbaaAlignDoesZ3
set_option linter.unusedSimpArgs false
set_option linter.unusedVariables false
namespace Go.Abs
open Go Go.RowKit Go.Proofs
theorem AK (lo0p : Nat) (aC : (List aB)) (n1 : Int) (cmp2_f : Nat) (cmp2_a cmp2_c : List V) (cmp2 : aB → aB → Option Int) (cmp2_h : ∀ a0 a1 r, cmp2 a0 a1 = some r → cE Try.prog cmp2_f (cmp2_a ++ [(aA a0), (aA a1)] ++ cmp2_c) (eI r)) (r : List aB) (h0 : fX aC n1 cmp2 = some r) : nT Try.prog 57 lo0p 3 (List.map aA aC) (List.map aA r) [(.msl 3 lo0p 0 (List.length aC)), (eI n1), (.fn (.func cmp2_f) cmp2_a cmp2_c)] (.tup []) := by
  intro H0 hl0
  refine cF Try.func57 ?_
  have hO := aL.qX hl0
  clear hl0
  obtain ⟨N0, hN0⟩ : ∃ n, n = List.length aC := ⟨_, rfl⟩
  have hN : List.length aC = N0 := hN0.symm
  unfold fX at h0
  refine aU aF 1 [] [(6, (eI (20 : Int)))] ?_
  refine aU aF 3 [] [(7, (eI (0 : Int))), (8, (eI (20 : Int)))] ?_
  refine cK (fun T H => ∃ aC : List aB, ∃ aQ : Int, ∃ a7 : Int, Has T [(0, (.msl 3 lo0p 0 (List.length aC))), (1, (eI n1)), (2, (.fn (.func cmp2_f) cmp2_a cmp2_c)), (6, (eI aQ)), (7, (eI a7))] ∧ aL ⟨H0, [lo0p], []⟩ H [(lo0p, 3, List.map aA aC)] ∧ List.length aC = N0 ∧ fR cmp2 aC n1 aQ a7 = some r) ?_ ?_
  · clear hO hN h0
    rintro T H ⟨aC, aQ, a7, hT, hO, hN, h0⟩
    refine bC hT ?_
    clear hT
    unfold fR at h0
    refine aN ?_
    refine aV aF 5 ?_
    refine bP 4 ?_
    obtain ⟨x1, hx2, h0⟩ := bB h0
    refine rE [(lo0p, 3, List.map aA x1)] 0 (pE lo0p aC a7 n1 cmp2_f cmp2_a cmp2_c cmp2 cmp2_h _ hx2) hO ?_
    intro H hO hl3
    simp only [List.length_map] at hl3
    replace hN := hl3.trans hN
    refine cT ?_
    refine cV (l := [(0, (.msl 3 lo0p 0 (List.length x1))), (1, (eI n1)), (2, (.fn (.func cmp2_f) cmp2_a cmp2_c)), (6, (eI aQ))]) ⟨[(0, (.msl 3 lo0p 0 (List.length aC))), (1, (eI n1)), (2, (.fn (.func cmp2_f) cmp2_a cmp2_c)), (6, (eI aQ))], by kernel_rfl, rfl, ⟨bA.eq (by simp [hl3]), bA.refl _, bA.refl _, bA.refl _, trivial⟩⟩ ?_
    refine aH (aG (?_))
    refine bT 2 ?_
    refine cS [(0, (.msl 3 lo0p 0 (List.length x1))), (1, (eI n1)), (2, (.fn (.func cmp2_f) cmp2_a cmp2_c)), (6, (eI aQ))] ?_
    refine cG (fun T H => ∃ aC : List aB, ∃ aQ : Int, Has T [(0, (.msl 3 lo0p 0 (List.length aC))), (1, (eI n1)), (2, (.fn (.func cmp2_f) cmp2_a cmp2_c)), (6, (eI aQ))] ∧ aL ⟨H0, [lo0p], []⟩ H [(lo0p, 3, List.map aA aC)] ∧ List.length aC = N0 ∧ jJ cmp2 aC n1 aQ = some r) ?_ ⟨x1, aQ, aW, hO, hN, h0⟩
    clear hO hN h0
    rintro T H ⟨aC, aQ, hT, hO, hN, h0⟩
    refine bC hT ?_
    clear hT
    unfold jJ at h0
    obtain ⟨rr0, hl0, h0⟩ := bB h0
    refine cZ (fun (s : List aB × Int) T H => Has T [(0, (.msl 3 lo0p 0 (List.length s.1))), (1, (eI n1)), (2, (.fn (.func cmp2_f) cmp2_a cmp2_c)), (6, (eI s.2))] ∧ aL ⟨H0, [lo0p], []⟩ H [(lo0p, 3, List.map aA s.1)] ∧ List.length s.1 = N0) hl0 ⟨aW, hO, hN⟩ ?_
    clear hO hN
    rintro k0 s out1 T H ⟨hT, hO, hN⟩ h1 ho0
    obtain ⟨aC, aQ⟩ := s
    replace h1 : jT cmp2 n1 aC aQ = some out1 := h1
    try dsimp only at hT
    refine bC hT ?_
    clear hT
    unfold jT at h1
    refine aN ?_
    refine aU aF 3 [] [(30, (aK (decide (aQ < n1))))] ?_
    refine bK h1 (fun h1 => ?_) (fun h1 => ?_)
    · refine bO ?_
      refine bL [(0, (.msl 3 lo0p 0 (List.length aC))), (1, (eI n1)), (2, (.fn (.func cmp2_f) cmp2_a cmp2_c)), (6, (eI aQ))] ?_
      refine bT 3 ?_
      refine aU aF 4 [] [(7, (eI (0 : Int))), (8, (eI (wR ((2 : Int) * aQ))))] ?_
      refine cK (fun T H => ∃ aC : List aB, ∃ a7 : Int, Has T [(0, (.msl 3 lo0p 0 (List.length aC))), (1, (eI n1)), (2, (.fn (.func cmp2_f) cmp2_a cmp2_c)), (6, (eI aQ)), (7, (eI a7))] ∧ aL ⟨H0, [lo0p], []⟩ H [(lo0p, 3, List.map aA aC)] ∧ List.length aC = N0 ∧ fP cmp2 aC n1 aQ a7 = some out1) ?_ ?_
      · clear hO hN h1
        rintro T H ⟨aC, a7, hT, hO, hN, h1⟩
        refine bC hT ?_
        clear hT
        unfold fP at h1
        refine cK (fun T H => ∃ aC : List aB, Has T [(0, (.msl 3 lo0p 0 (List.length aC))), (1, (eI n1)), (2, (.fn (.func cmp2_f) cmp2_a cmp2_c)), (6, (eI aQ))] ∧ aL ⟨H0, [lo0p], []⟩ H [(lo0p, 3, List.map aA aC)] ∧ List.length aC = N0 ∧ jP cmp2 aC n1 aQ = some out1) ?_ ?_
        · clear hO hN h1
          rintro T H ⟨aC, hT, hO, hN, h1⟩
          refine bC hT ?_
          clear hT
          unfold jP at h1
          refine aV aF 3 ?_
          refine bH ?_
          exact aH (aX (aG (⟨rfl, _, (oI h1).symm, aW, hO, hN⟩)))
        refine aU aF 4 [] [(9, (eI (wR (a7 + aQ))))] ?_
        refine aU aF 3 [] [(54, (aK (decide ((wR (a7 + aQ)) < n1))))] ?_
        refine bK h1 (fun h1 => ?_) (fun h1 => ?_)
        · refine aV aF 6 ?_
          refine bP 5 ?_
          obtain ⟨x6, hx7, h1⟩ := bB h1
          refine rE [(lo0p, 3, List.map aA x6)] 0 (rI lo0p aC a7 (wR (a7 + aQ)) n1 cmp2_f cmp2_a cmp2_c cmp2 cmp2_h _ hx7) hO ?_
          intro H hO hl8
          simp only [List.length_map] at hl8
          replace hN := hl8.trans hN
          refine cT ?_
          refine cV (l := [(0, (.msl 3 lo0p 0 (List.length x6))), (1, (eI n1)), (2, (.fn (.func cmp2_f) cmp2_a cmp2_c)), (6, (eI aQ))]) ⟨[(0, (.msl 3 lo0p 0 (List.length aC))), (1, (eI n1)), (2, (.fn (.func cmp2_f) cmp2_a cmp2_c)), (6, (eI aQ))], by kernel_rfl, rfl, ⟨bA.eq (by simp [hl8]), bA.refl _, bA.refl _, bA.refl _, trivial⟩⟩ ?_
          exact aH (aG (⟨rfl, _, aW, hO, hN, h1⟩))
        refine bO ?_
        exact aH (aG (⟨rfl, _, aW, hO, hN, h1⟩))
      refine bT 4 ?_
      refine cS [(0, (.msl 3 lo0p 0 (List.length aC))), (1, (eI n1)), (2, (.fn (.func cmp2_f) cmp2_a cmp2_c)), (6, (eI aQ)), (7, (eI (0 : Int))), (8, (eI (wR ((2 : Int) * aQ))))] ?_
      refine cG (fun T H => ∃ aC : List aB, ∃ a7 : Int, ∃ b8 : Int, Has T [(0, (.msl 3 lo0p 0 (List.length aC))), (1, (eI n1)), (2, (.fn (.func cmp2_f) cmp2_a cmp2_c)), (6, (eI aQ)), (7, (eI a7)), (8, (eI b8))] ∧ aL ⟨H0, [lo0p], []⟩ H [(lo0p, 3, List.map aA aC)] ∧ List.length aC = N0 ∧ jS cmp2 aC n1 aQ a7 b8 = some out1) ?_ ⟨aC, (0 : Int), wR ((2 : Int) * aQ), aW, hO, hN, h1⟩
      clear hO hN h1
      rintro T H ⟨aC, a7, b8, hT, hO, hN, h1⟩
      refine bC hT ?_
      clear hT
      unfold jS at h1
      obtain ⟨rr1, hl1, h1⟩ := bB h1
      refine cZ (fun (s : List aB × Int × Int) T H => Has T [(0, (.msl 3 lo0p 0 (List.length s.1))), (1, (eI n1)), (2, (.fn (.func cmp2_f) cmp2_a cmp2_c)), (6, (eI aQ)), (7, (eI s.2.1)), (8, (eI s.2.2))] ∧ aL ⟨H0, [lo0p], []⟩ H [(lo0p, 3, List.map aA s.1)] ∧ List.length s.1 = N0) hl1 ⟨aW, hO, hN⟩ ?_
      clear hO hN
      rintro k1 s out2 T H ⟨hT, hO, hN⟩ h2 ho1
      obtain ⟨aC, a7, b8⟩ := s
      replace h2 : jW cmp2 n1 aQ aC a7 b8 = some out2 := h2
      try dsimp only at hT
      refine bC hT ?_
      clear hT
      unfold jW at h2
      refine aN ?_
      refine aU aF 3 [] [(35, (aK (decide (b8 ≤ n1))))] ?_
      refine bK h2 (fun h2 => ?_) (fun h2 => ?_)
      · refine bO ?_
        refine bL [(0, (.msl 3 lo0p 0 (List.length aC))), (1, (eI n1)), (2, (.fn (.func cmp2_f) cmp2_a cmp2_c)), (6, (eI aQ)), (7, (eI a7)), (8, (eI b8))] ?_
        refine bT 5 ?_
        refine aN ?_
        refine aV aF 8 ?_
        refine bP 7 ?_
        obtain ⟨x10, hx11, h2⟩ := bB h2
        refine rE [(lo0p, 3, List.map aA x10)] 0 (rI lo0p aC a7 (wR (a7 + aQ)) b8 cmp2_f cmp2_a cmp2_c cmp2 cmp2_h _ hx11) hO ?_
        intro H hO hl12
        simp only [List.length_map] at hl12
        replace hN := hl12.trans hN
        refine cT ?_
        refine cV (l := [(0, (.msl 3 lo0p 0 (List.length x10))), (1, (eI n1)), (2, (.fn (.func cmp2_f) cmp2_a cmp2_c)), (6, (eI aQ)), (8, (eI b8))]) ⟨[(0, (.msl 3 lo0p 0 (List.length aC))), (1, (eI n1)), (2, (.fn (.func cmp2_f) cmp2_a cmp2_c)), (6, (eI aQ)), (8, (eI b8))], by kernel_rfl, rfl, ⟨bA.eq (by simp [hl12]), bA.refl _, bA.refl _, bA.refl _, bA.refl _, trivial⟩⟩ ?_
        refine aH (aG (?_))
        refine aU aF 2 [] [(7, (eI b8))] ?_
        refine aV aF 5 ?_
        refine bH ?_
        exact aH (aX (aG (⟨rfl, _, (oI h2).symm, aW, hO, hN⟩)))
      refine cX 4 ?_
      obtain rfl := oI h2
      obtain rfl : _ = rr1 := ho1
      replace h1 : fP cmp2 aC n1 aQ a7 = some out1 := h1
      exact aH (aS (aS (bQ (aG (⟨rfl, _, _, aW, hO, hN, h1⟩)))))
    refine cX 2 ?_
    obtain rfl := oI h1
    obtain rfl : _ = rr0 := ho0
    replace h0 : some aC = some r := h0
    obtain rfl := oI h0
    exact aH (aS (aS (bQ (tR (x := (.tup [])) (by kernel_rfl) (bA.refl _) ⟨rfl, hO.ext, hO.at 0 (by kernel_rfl), by first | rfl | (simp only [List.length_map]; exact hN.trans hN0)⟩))))
  refine bT 0 ?_
  refine cS [(0, (.msl 3 lo0p 0 (List.length aC))), (1, (eI n1)), (2, (.fn (.func cmp2_f) cmp2_a cmp2_c)), (6, (eI (20 : Int))), (7, (eI (0 : Int))), (8, (eI (20 : Int)))] ?_
  refine cG (fun T H => ∃ aC : List aB, ∃ aQ : Int, ∃ a7 : Int, ∃ b8 : Int, Has T [(0, (.msl 3 lo0p 0 (List.length aC))), (1, (eI n1)), (2, (.fn (.func cmp2_f) cmp2_a cmp2_c)), (6, (eI aQ)), (7, (eI a7)), (8, (eI b8))] ∧ aL ⟨H0, [lo0p], []⟩ H [(lo0p, 3, List.map aA aC)] ∧ List.length aC = N0 ∧ jV cmp2 aC n1 aQ a7 b8 = some r) ?_ ⟨aC, (20 : Int), (0 : Int), (20 : Int), aW, hO, hN, h0⟩
  clear hO hN h0
  rintro T H ⟨aC, aQ, a7, b8, hT, hO, hN, h0⟩
  refine bC hT ?_
  clear hT
  unfold jV at h0
  obtain ⟨rr0, hl0, h0⟩ := bB h0
  refine cZ (fun (s : List aB × Int × Int) T H => Has T [(0, (.msl 3 lo0p 0 (List.length s.1))), (1, (eI n1)), (2, (.fn (.func cmp2_f) cmp2_a cmp2_c)), (6, (eI aQ)), (7, (eI s.2.1)), (8, (eI s.2.2))] ∧ aL ⟨H0, [lo0p], []⟩ H [(lo0p, 3, List.map aA s.1)] ∧ List.length s.1 = N0) hl0 ⟨aW, hO, hN⟩ ?_
  clear hO hN
  rintro k0 s out1 T H ⟨hT, hO, hN⟩ h1 ho0
  obtain ⟨aC, a7, b8⟩ := s
  replace h1 : jN cmp2 n1 aQ aC a7 b8 = some out1 := h1
  try dsimp only at hT
  refine bC hT ?_
  clear hT
  unfold jN at h1
  refine aN ?_
  refine aU aF 3 [] [(13, (aK (decide (b8 ≤ n1))))] ?_
  refine bK h1 (fun h1 => ?_) (fun h1 => ?_)
  · refine bO ?_
    refine bL [(0, (.msl 3 lo0p 0 (List.length aC))), (1, (eI n1)), (2, (.fn (.func cmp2_f) cmp2_a cmp2_c)), (6, (eI aQ)), (7, (eI a7)), (8, (eI b8))] ?_
    refine bT 1 ?_
    refine aN ?_
    refine aV aF 5 ?_
    refine bP 4 ?_
    obtain ⟨x14, hx15, h1⟩ := bB h1
    refine rE [(lo0p, 3, List.map aA x14)] 0 (pE lo0p aC a7 b8 cmp2_f cmp2_a cmp2_c cmp2 cmp2_h _ hx15) hO ?_
    intro H hO hl16
    simp only [List.length_map] at hl16
    replace hN := hl16.trans hN
    refine cT ?_
    refine cV (l := [(0, (.msl 3 lo0p 0 (List.length x14))), (1, (eI n1)), (2, (.fn (.func cmp2_f) cmp2_a cmp2_c)), (6, (eI aQ)), (8, (eI b8))]) ⟨[(0, (.msl 3 lo0p 0 (List.length aC))), (1, (eI n1)), (2, (.fn (.func cmp2_f) cmp2_a cmp2_c)), (6, (eI aQ)), (8, (eI b8))], by kernel_rfl, rfl, ⟨bA.eq (by simp [hl16]), bA.refl _, bA.refl _, bA.refl _, bA.refl _, trivial⟩⟩ ?_
    refine aH (aG (?_))
    refine aU aF 2 [] [(7, (eI b8))] ?_
    refine aV aF 4 ?_
    refine bH ?_
    exact aH (aX (aG (⟨rfl, _, (oI h1).symm, aW, hO, hN⟩)))
  refine cX 0 ?_
  obtain rfl := oI h1
  obtain rfl : _ = rr0 := ho0
  replace h0 : fR cmp2 aC n1 aQ a7 = some r := h0
  exact aH (aS (aS (bQ (aG (⟨rfl, _, _, _, aW, hO, hN, h0⟩)))))

theorem uF (lo0p : Nat) (x0 : (List aB)) (cmp1_f : Nat) (cmp1_a cmp1_c : List V) (cmp1 : aB → aB → Option Int) (cmp1_h : ∀ a0 a1 r, cmp1 a0 a1 = some r → cE Try.prog cmp1_f (cmp1_a ++ [(aA a0), (aA a1)] ++ cmp1_c) (eI r)) (r : List aB) (h0 : dP x0 cmp1 = some r) : nT Try.prog 35 lo0p 3 (List.map aA x0) (List.map aA r) [(.msl 3 lo0p 0 (List.length x0)), (.fn (.func cmp1_f) cmp1_a cmp1_c)] (.tup []) := by
  intro H0 hl0
  refine cF Try.func35 ?_
  have hO := aL.qX hl0
  clear hl0
  obtain ⟨N0, hN0⟩ : ∃ n, n = List.length x0 := ⟨_, rfl⟩
  have hN : List.length x0 = N0 := hN0.symm
  unfold dP at h0
  refine aV aF 5 ?_
  refine bP 4 ?_
  obtain ⟨x1, hx2, h0⟩ := bB h0
  refine rE [(lo0p, 3, List.map aA x1)] 0 (AK lo0p x0 (lN x0) cmp1_f cmp1_a cmp1_c cmp1 cmp1_h _ hx2) hO ?_
  intro H hO hl3
  simp only [List.length_map] at hl3
  replace hN := hl3.trans hN
  refine cT ?_
  refine cV (l := [(0, (.msl 3 lo0p 0 (List.length x1)))]) ⟨[(0, (.msl 3 lo0p 0 (List.length x0)))], by kernel_rfl, rfl, ⟨bA.eq (by simp [hl3]), trivial⟩⟩ ?_
  obtain rfl := oI h0
  exact aH (tR (x := (.tup [])) (by kernel_rfl) (bA.refl _) ⟨rfl, hO.ext, hO.at 0 (by kernel_rfl), by simp only [List.length_map]; exact hN.trans hN0⟩)

theorem UD (AZ : (List Int)) (r : Int) (h0 : xD AZ = some r) : cE Try.prog 37 [(eL (eI) AZ)] (eI r) := by
  intro H0
  refine cF Try.func37 ?_
  have hO := aL.start H0
  unfold xD at h0
  refine aU aF 1 [] [] ?_
  refine aU aF 1 [] [(3, (eI (0 : Int)))] ?_
  refine cK (fun T H => ∃ qA : Int, Has T [(3, (eI qA))] ∧ aL ⟨H0, [], []⟩ H [] ∧ vD qA = some r) ?_ ?_
  · clear hO h0
    rintro T H ⟨qA, hT, hO, h0⟩
    refine bC hT ?_
    clear hT
    unfold vD at h0
    refine bV aF 2 [(2, (eI qA))] ?_
    refine bM ?_
    obtain rfl := oI h0
    exact aH (Q_r hO)
  refine aU aF 3 [0] [(6, (eL (eI) AZ)), (7, (eI (lN AZ))), (8, (eI (0 : Int)))] ?_
  refine bT 0 ?_
  refine cS [(3, (eI (0 : Int))), (6, (eL (eI) AZ)), (7, (eI (lN AZ))), (8, (eI (0 : Int)))] ?_
  refine cG (fun T H => ∃ qA : Int, ∃ t6 : (List Int), ∃ t7 : Int, ∃ t8 : Int, Has T [(3, (eI qA)), (6, (eL (eI) t6)), (7, (eI t7)), (8, (eI t8))] ∧ aL ⟨H0, [], []⟩ H [] ∧ zF qA t6 t7 t8 = some r) ?_ ⟨(0 : Int), AZ, (lN AZ), (0 : Int), aW, hO, h0⟩
  clear hO h0
  rintro T H ⟨qA, t6, t7, t8, hT, hO, h0⟩
  refine bC hT ?_
  clear hT
  unfold zF at h0
  obtain ⟨rr0, hl0, h0⟩ := bB h0
  refine cZ (fun (s : Int) T H => Has T [(3, (eI qA)), (6, (eL (eI) t6)), (7, (eI t7)), (8, (eI s))] ∧ aL ⟨H0, [], []⟩ H []) hl0 ⟨aW, hO⟩ ?_
  clear hO
  rintro k0 s out1 T H ⟨hT, hO⟩ h1 ho0
  obtain ⟨t8, rfl⟩ : ∃ x, x = s := ⟨_, rfl⟩
  replace h1 : iV qA t6 t7 t8 = some out1 := h1
  refine bC hT ?_
  clear hT
  unfold iV at h1
  refine aU aF 1 [] [(9, (aK (decide (t8 < t7))))] ?_
  refine aN ?_
  refine bK h1 (fun h1 => ?_) (fun h1 => ?_)
  · refine bO ?_
    refine bL [(3, (eI qA)), (6, (eL (eI) t6)), (7, (eI t7)), (8, (eI t8))] ?_
    refine aN ?_
    refine bT 1 ?_
    refine aN ?_
    refine aV aF 3 ?_
    obtain ⟨c2, h1⟩ := bG h1
    refine oH [0 ≤ t8 ∧ t8 < (lN t6)] ⟨c2, trivial⟩ ?_
    refine bS [] [(5, (eI (gD t6 t8)))] ?_
    refine aU aF 3 [] [(14, (aK (!decide ((gD t6 t8) = qA))))] ?_
    refine bK h1 (fun h1 => ?_) (fun h1 => ?_)
    · refine bV aF 2 [(2, (eI (gD t6 t8)))] ?_
      refine bM ?_
      obtain rfl := oI h1
      obtain rfl : _ = rr0 := ho0
      replace h0 : some (gD t6 t8) = some r := h0
      obtain rfl := oI h0
      exact aH (bJ (aP (aP (bJ (aP (Q_r hO))))))
    refine bO ?_
    refine cO [(3, (eI qA)), (6, (eL (eI) t6)), (7, (eI t7)), (8, (eI t8))] ?_
    refine aH (aX (aG (?_)))
    refine aV aF 2 ?_
    refine bH ?_
    exact aH (aG (⟨rfl, _, (oI h1).symm, aW, hO⟩))
  refine cX 0 ?_
  obtain rfl := oI h1
  obtain rfl : _ = rr0 := ho0
  replace h0 : vD qA = some r := h0
  exact aH (aS (aS (bQ (aG (⟨rfl, _, aW, hO, h0⟩)))))

theorem RZ (x0 : aB) (y1 : aB) (r : Int) (h0 : oR x0 y1 = some r) : cE Try.prog 36 [(aA x0), (aA y1)] (eI r) := by
  intro H0
  refine cF Try.func36 ?_
  have hO := aL.start H0
  unfold oR at h0
  refine aN ?_
  refine aV aF 3 ?_
  refine sE 3 (aA x0) ?_
  refine sE 3 (aA y1) ?_
  refine bH ?_
  refine bL [(2, (.rp (aA x0))), (3, (.rp (aA y1)))] ?_
  refine aN ?_
  refine fB (fC [6, 8, 9, 11, 13, 14, 15, 16]) aF 13 ?_
  refine sG 4 ?_
  obtain ⟨x1, hx2, h0⟩ := bB h0
  refine BF (IP x0.Row y1.Row _ hx2) hO ?_
  intro H hO
  refine sG 9 ?_
  obtain ⟨x4, hx5, h0⟩ := bB h0
  refine BF (yG x0.At y1.At _ hx5) hO ?_
  intro H hO
  refine HE (xs := [(eI x1), (eI x4)]) (k := 1) (by kernel_rfl) (by kernel_rfl) ?_
  obtain ⟨x7, hx8, h0⟩ := bB h0
  refine XW 37 [(dA [(eI x1), (eI x4)])] (eI x7) (by kernel_rfl) (by kernel_rfl) (cE.sub (UD ([x1, x4]) _ hx8) ⟨EU (l := [x1, x4]), trivial⟩) hO ?_
  intro H hO
  refine jB ?_
  refine bL [(4, (eI x7))] ?_
  refine bM ?_
  obtain rfl := oI h0
  exact aH (Q_r hO)

theorem ZZ (lo0p : Nat) (l0 : (List aB)) (r1 : (List aI)) (f2 : (List aD)) (r : (List aB)) (h0 : AQ l0 r1 f2 = some r) : aAc Try.prog 64 lo0p 3 (List.map aA l0) [(.msl 3 lo0p 0 (List.length l0)), (eL aJ r1), (eL aE f2)] (fun lo => .msl 3 lo 0 (List.length r)) (List.map aA r) := by
  intro H0 hl0
  refine cF Try.func64 ?_
  have hO := aL.qX hl0
  clear hl0
  unfold AQ at h0
  refine aU aF 1 [] [] ?_
  refine cK (fun T H => ∃ l0 : List aB, ∃ lo1 : Nat, Has T [(0, (.msl 3 lo1 0 (List.length l0)))] ∧ aL ⟨H0, [lo0p], []⟩ H [(lo1, 3, List.map aA l0)] ∧ CE l0 = some r) ?_ ?_
  · clear hO h0
    rintro T H ⟨l0, lo1, hT, hO, h0⟩
    refine bC hT ?_
    clear hT
    unfold CE at h0
    refine bV aF 2 [(6, (.msl 3 lo1 0 (List.length l0)))] ?_
    refine bM ?_
    obtain rfl := oI h0
    exact aH (nU (x := (.msl 3 lo1 0 (List.length l0))) (by kernel_rfl) (bA.refl _) ⟨lo1, rfl, hO⟩)
  refine aU aF 3 [2] [(9, (eL aE f2)), (10, (eI (lN f2))), (11, (eI (0 : Int)))] ?_
  refine bT 0 ?_
  refine cS [(0, (.msl 3 lo0p 0 (List.length l0))), (1, (eL aJ r1)), (9, (eL aE f2)), (10, (eI (lN f2))), (11, (eI (0 : Int)))] ?_
  refine cG (fun T H => ∃ l0 : List aB, ∃ t9 : (List aD), ∃ t10 : Int, ∃ t11 : Int, ∃ lo3 : Nat, Has T [(0, (.msl 3 lo3 0 (List.length l0))), (1, (eL aJ r1)), (9, (eL aE t9)), (10, (eI t10)), (11, (eI t11))] ∧ aL ⟨H0, [lo0p], []⟩ H [(lo3, 3, List.map aA l0)] ∧ CP l0 r1 t9 t10 t11 = some r) ?_ ⟨l0, f2, (lN f2), (0 : Int), lo0p, aW, hO, h0⟩
  clear hO h0
  rintro T H ⟨l0, t9, t10, t11, lo3, hT, hO, h0⟩
  refine bC hT ?_
  clear hT
  unfold CP at h0
  obtain ⟨rr0, hl0, h0⟩ := bB h0
  refine cZ (fun (s : List aB × Int) T H => ∃ lo3 : Nat, Has T [(0, (.msl 3 lo3 0 (List.length s.1))), (1, (eL aJ r1)), (9, (eL aE t9)), (10, (eI t10)), (11, (eI s.2))] ∧ aL ⟨H0, [lo0p], []⟩ H [(lo3, 3, List.map aA s.1)]) hl0 ⟨lo3, aW, hO⟩ ?_
  clear hO
  rintro k0 s out1 T H ⟨lo3, hT, hO⟩ h1 ho0
  obtain ⟨l0, t11⟩ := s
  replace h1 : rM r1 t9 t10 l0 t11 = some out1 := h1
  try dsimp only at hT
  refine bC hT ?_
  clear hT
  unfold rM at h1
  refine aU aF 1 [] [(12, (aK (decide (t11 < t10))))] ?_
  refine aN ?_
  refine bK h1 (fun h1 => ?_) (fun h1 => ?_)
  · refine bO ?_
    refine bL [(0, (.msl 3 lo3 0 (List.length l0))), (1, (eL aJ r1)), (9, (eL aE t9)), (10, (eI t10)), (11, (eI t11))] ?_
    refine aN ?_
    refine bT 1 ?_
    refine aN ?_
    refine aV aF 4 ?_
    obtain ⟨c5, h1⟩ := bG h1
    refine iB 2 [0 ≤ t11 ∧ t11 < (lN t9)] ⟨c5, trivial⟩ ?_
    refine nH 2 (aE (aD.mk 0 0)) (by kernel_rfl) (by kernel_rfl) hO ?_
    intro lo6 H hO
    refine mQ 1 lo6 2 0 (aE (aD.mk 0 0)) (aE (gD t9 t11)) [(aE (aD.mk 0 0))] [(lo3, 3, List.map aA l0), (lo6, 2, [(aE (gD t9 t11))])] hO rfl (by kernel_rfl) ?_
    intro H hO
    refine cT ?_
    refine bS [] [(8, (.lp lo6 0 0))] ?_
    refine cS [(0, (.msl 3 lo3 0 (List.length l0))), (1, (eL aJ r1)), (8, (.lp lo6 0 0)), (9, (eL aE t9)), (10, (eI t10)), (11, (eI t11))] ?_
    refine KG 2 1 8 2 lo6 (aE (gD t9 t11)) [(lo3, 3, List.map aA l0)] hO (by kernel_rfl) (by kernel_rfl) (by kernel_rfl) ?_
    intro H hO
    refine fB (fC [19, 21, 23]) aF 11 ?_
    refine sG 2 ?_
    obtain ⟨x7, hx8, h1⟩ := bB h1
    refine BF (NI r1 _ hx8) hO ?_
    intro H hO
    refine sG 8 ?_
    refine HE (xs := [(aA (aB.mk x7 ((gD t9 t11).At) ((gD t9 t11).Net)))]) (k := 3) (by kernel_rfl) (by kernel_rfl) ?_
    obtain ⟨c11, h1⟩ := bG h1
    refine GR (e := aA) l0 ([aB.mk x7 ((gD t9 t11).At) ((gD t9 t11).Net)]) 0 lo3 3 40 (dA [(aA (aB.mk x7 ((gD t9 t11).At) ((gD t9 t11).Net)))]) (fun lo10 => [(lo10, 3, List.map aA (l0 ++ ([aB.mk x7 ((gD t9 t11).At) ((gD t9 t11).Net)])))]) (by kernel_rfl) (by kernel_rfl) hO (by kernel_rfl) (by kernel_rfl) c11 (fun _ => by kernel_rfl) ?_
    intro lo10 H hO
    refine jB ?_
    refine cO [(0, (.msl 3 lo10 0 (List.length (l0 ++ ([aB.mk x7 ((gD t9 t11).At) ((gD t9 t11).Net)]))))), (1, (eL aJ r1)), (9, (eL aE t9)), (10, (eI t10)), (11, (eI t11))] ?_
    refine aH (aX (aG (?_)))
    refine aV aF 2 ?_
    refine bH ?_
    exact aH (aG (⟨rfl, _, (oI h1).symm, _, aW, hO⟩))
  refine cX 0 ?_
  obtain rfl := oI h1
  obtain rfl : _ = rr0 := ho0
  replace h0 : CE l0 = some r := h0
  exact aH (aS (aS (bQ (aG (⟨rfl, _, _, aW, hO, h0⟩)))))

theorem SA (l0 : (List aB)) (by1_f : Nat) (by1_a by1_c : List V) (by1 : (List aD) → Option ((List aD) × Int)) (by1_h : ∀ a0 r, by1 a0 = some r → cE Try.prog by1_f (by1_a ++ [(eL aE a0)] ++ by1_c) (.tup [(eL aE r.1), (eI r.2)])) (r : ((List aB) × Int)) (h0 : vR l0 by1 = some r) : cE Try.prog 40 [(eL aA l0), (.fn (.func by1_f) by1_a by1_c)] (.tup [(eL aA r.1), (eI r.2)]) := by
  intro H0
  refine YO aF Try.func40 (by kernel_rfl) (by kernel_rfl) (by kernel_rfl) ?_
  have hO := aL.start H0
  unfold vR at h0
  refine aN ?_
  refine aV aF 3 ?_
  refine sE 1 (.fn (.func by1_f) by1_a by1_c) ?_
  refine HI 1 (.sl true 0 (fun _ => .bad)) (eL aA ([])) (by kernel_rfl) (by kernel_rfl) (by kernel_rfl) (iY) (by kernel_rfl) (by kernel_rfl) hO ?_
  intro lo1 H hO
  refine nH 1 (eI 0) (by kernel_rfl) (by kernel_rfl) hO ?_
  intro lo2 H hO
  refine cT ?_
  refine bS [1] [(3, (.rp (.fn (.func by1_f) by1_a by1_c))), (4, (.lp lo1 0 0)), (5, (.lp lo2 0 0))] ?_
  refine aN ?_
  refine aV aF 3 ?_
  refine kM [] 3 ?_
  refine nH 1 (.sl true 0 (fun _ => .bad)) (by kernel_rfl) (by kernel_rfl) hO ?_
  intro lo3 H hO
  refine aDK 11 3 (fun _ => .bad) (by kernel_rfl) hO (by kernel_rfl) ?_
  intro lo4 H hO
  refine mQ 2 lo3 1 0 (.sl true 0 (fun _ => .bad)) (.msl 3 lo4 0 (List.length ([] : List aB))) [(.sl true 0 (fun _ => .bad))] [(lo1, 1, [(eL aA ([]))]), (lo2, 1, [(eI 0)]), (lo3, 1, [(.msl 3 lo4 0 (List.length ([] : List aB)))]), (lo4, 3, List.map aA ([] : List aB))] hO rfl (by kernel_rfl) ?_
  intro H hO
  refine cT ?_
  refine bS [] [(6, (.lp lo3 0 0))] ?_
  refine aN ?_
  refine aN ?_
  refine aV aF 2 ?_
  refine bP 1 ?_
  obtain ⟨x5, hx6, h0⟩ := bB h0
  refine dB (LU l0 _ hx6) hO ?_
  intro H hO
  refine cT ?_
  refine bS [0] [(13, (.fn (.func 83) [] [(.rp (eL aA x5))]))] ?_
  refine bT 0 ?_
  refine cS [(3, (.rp (.fn (.func by1_f) by1_a by1_c))), (4, (.lp lo1 0 0)), (5, (.lp lo2 0 0)), (6, (.lp lo3 0 0)), (13, (.fn (.func 83) [] [(.rp (eL aA x5))]))] ?_
  refine cG (fun T H => ∃ t4 : (List aB), ∃ t5 : Int, ∃ out6 : List aB, ∃ lM : (List aB), ∃ lo7 : Nat, Has T [(3, (.rp (.fn (.func by1_f) by1_a by1_c))), (4, (.lp lo1 0 0)), (5, (.lp lo2 0 0)), (6, (.lp lo3 0 0)), (13, (.fn (.func 83) [] [(.rp (eL aA lM))]))] ∧ aL ⟨H0, [], []⟩ H [(lo1, 1, [(eL aA t4)]), (lo2, 1, [(eI t5)]), (lo3, 1, [(.msl 3 lo7 0 (List.length out6))]), (lo7, 3, List.map aA out6)] ∧ xY by1 t4 t5 out6 lM = some r) ?_ ⟨[], 0, ([] : List aB), x5, lo4, aW, hO, h0⟩
  clear hO h0
  rintro T H ⟨t4, t5, out6, lM, lo7, hT, hO, h0⟩
  refine bC (l := [(3, (.rp (.fn (.func by1_f) by1_a by1_c))), (4, (.lp lo1 0 0)), (5, (.lp lo2 0 0)), (6, (.lp lo3 0 0)), (13, (.fn (.func 83) [] [(.rp (eL aA lM))]))]) hT ?_
  clear hT
  unfold xY at h0
  obtain ⟨o0, hl0, h0⟩ := bB h0
  refine UK (fid := 83) (ys := []) (cs := [(.rp (eL aA lM))]) #[14, 15] (fun (A : HV) (b lL : Nat) (st : ((List aB) × Int × List aB) ⊕ ((List aB) × Int × List aB)) (G' : Gs) => Sum.elim (fun (s : (List aB) × Int × List aB) => ∃ lo7 : Nat, G' = (lL, .raw (oE b A .ready none)) :: (up [(lo1, 1, [(eL aA s.1)]), (lo2, 1, [(eI s.2.1)]), (lo3, 1, [(.msl 3 lo7 0 (List.length s.2.2))]), (lo7, 3, List.map aA s.2.2)] ++ [])) (fun (s : (List aB) × Int × List aB) => ∃ lo7 : Nat, G' = (lL, .raw (oE b A .done (some .ret))) :: (up [(lo1, 1, [(eL aA s.1)]), (lo2, 1, [(eI s.2.1)]), (lo3, 1, [(.msl 3 lo7 0 (List.length s.2.2))]), (lo7, 3, List.map aA s.2.2)] ++ [])) st) (.inl (t4, t5, out6)) o0 (.tup []) (by kernel_rfl) (by kernel_rfl) (by kernel_rfl) hO (fun _ _ => ⟨lo7, rfl⟩) ?_ ?_
  · intro b lL
    clear hO h0
    refine FK _ b (fun st t14 t15 => rnd (fun (s : (List aB) × Int × List aB) => pJ by1 lM s.1 s.2.1 s.2.2 t14 t15) st) ?_ lM _ _ hl0
    intro st t14 t15 out1 rr hr
    obtain ⟨s, rfl, h1, rfl⟩ := aDv hr
    clear hr
    intro Hr Gr hi hg
    obtain ⟨t4, t5, out6⟩ := s
    dsimp only [Sum.elim_inl] at hi
    obtain ⟨lo7, rfl⟩ := hi
    replace h1 : pJ by1 lM t4 t5 out6 t14 t15 = some out1 := h1
    unfold pJ at h1
    obtain ⟨E1, hE, hO⟩ := LV hg
    refine LY (US (hO.gm 0 _ rfl).2 (by kernel_rfl) (by kernel_rfl) ?_)
    refine cS [(3, (.rp (.fn (.func by1_f) by1_a by1_c))), (4, (.lp lo1 0 0)), (5, (.lp lo2 0 0)), (6, (.lp lo3 0 0)), (13, (.fn (.func 83) [] [(.rp (eL aA lM))])), (14, (eL aJ t14)), (15, (eL aE t15))] ?_
    refine aU aF 1 [13, 14] [(7, (eL aJ t14))] ?_
    refine aV aF 1 ?_
    refine bH ?_
    refine cO [(3, (.rp (.fn (.func by1_f) by1_a by1_c))), (4, (.lp lo1 0 0)), (5, (.lp lo2 0 0)), (6, (.lp lo3 0 0)), (7, (eL aJ t14)), (8, (eL aE t15))] ?_
    refine aH (⟨rfl, rfl, (hO.gm 0 _ rfl).2, ?_⟩)
    intro o1 ho1
    replace hO := hO.KN o1
    refine bT 1 ?_
    refine aN ?_
    refine aV aF 8 ?_
    refine bP 2 ?_
    obtain ⟨x8, hx9, h1⟩ := bB h1
    refine dB (by1_h t15 _ hx9) hO ?_
    intro H hO
    refine bH ?_
    refine bS [3, 8] [(9, (eL aE x8.1)), (10, (eI x8.2))] ?_
    refine aN ?_
    refine aU aF 2 [] [(23, (aK (!decide (x8.2 = (0 : Int)))))] ?_
    refine bK h1 (fun h1 => ?_) (fun h1 => ?_)
    · refine aN ?_
      refine aV aF 3 ?_
      refine bP 1 ?_
      refine mQ 0 lo1 1 0 (eL aA t4) (.sl true 0 (fun _ => .bad)) [(eL aA t4)] [(lo1, 1, [(.sl true 0 (fun _ => .bad))]), (lo2, 1, [(eI t5)]), (lo3, 1, [(.msl 3 lo7 0 (List.length out6))]), (lo7, 3, List.map aA out6)] hO rfl (by kernel_rfl) ?_
      intro H hO
      refine mQ 1 lo2 1 0 (eI t5) (eI x8.2) [(eI t5)] [(lo1, 1, [(.sl true 0 (fun _ => .bad))]), (lo2, 1, [(eI x8.2)]), (lo3, 1, [(.msl 3 lo7 0 (List.length out6))]), (lo7, 3, List.map aA out6)] hO rfl (by kernel_rfl) ?_
      intro H hO
      refine cT ?_
      refine TZ 0 lo1 1 (.sl true 0 (fun _ => .bad)) (eL aA ([])) [(lo1, 1, [(eL aA ([]))]), (lo2, 1, [(eI x8.2)]), (lo3, 1, [(.msl 3 lo7 0 (List.length out6))]), (lo7, 3, List.map aA out6)] hO (by kernel_rfl) (by kernel_rfl) iY (by kernel_rfl) ?_
      intro H hO
      refine bL [(4, (.lp lo1 0 0)), (5, (.lp lo2 0 0)), (6, (.lp lo3 0 0))] ?_
      refine bM ?_
      refine cO [(4, (.lp lo1 0 0)), (5, (.lp lo2 0 0)), (6, (.lp lo3 0 0))] ?_
      obtain rfl := oI h1
      exact aH (aP (bJ (⟨(rJ hO hE ho1 .dead).1, rfl, _, ⟨lo7, rfl⟩, (rJ hO hE ho1 _).2⟩)))
    refine bO ?_
    refine bL [(4, (.lp lo1 0 0)), (5, (.lp lo2 0 0)), (6, (.lp lo3 0 0)), (7, (eL aJ t14)), (9, (eL aE x8.1))] ?_
    refine aN ?_
    refine aV aF 5 ?_
    refine eF 2 lo3 1 0 (.msl 3 lo7 0 (List.length out6)) (.msl 3 lo7 0 (List.length out6)) [(.msl 3 lo7 0 (List.length out6))] hO rfl ?_
    refine bP 3 ?_
    obtain ⟨x12, hx13, h1⟩ := bB h1
    refine XQ (L' := fun lo14 => [(lo1, 1, [(eL aA t4)]), (lo2, 1, [(eI t5)]), (lo3, 1, [(.msl 3 lo7 0 (List.length out6))]), (lo14, 3, List.map aA x12)]) 3 lo7 3 (List.map aA out6) (List.map aA x12) 64 [(.msl 3 lo7 0 (List.length out6)), (eL aJ t14), (eL aE x8.1)] (fun lo14 => (.msl 3 lo14 0 (List.length x12))) (by kernel_rfl) (by kernel_rfl) (ZZ lo7 out6 t14 x8.1 _ hx13) hO (by kernel_rfl) (fun _ => by kernel_rfl) ?_
    intro lo14 H hO
    refine mQ 2 lo3 1 0 (.msl 3 lo7 0 (List.length out6)) (.msl 3 lo14 0 (List.length x12)) [(.msl 3 lo7 0 (List.length out6))] [(lo1, 1, [(eL aA t4)]), (lo2, 1, [(eI t5)]), (lo3, 1, [(.msl 3 lo14 0 (List.length x12))]), (lo14, 3, List.map aA x12)] hO rfl (by kernel_rfl) ?_
    intro H hO
    refine cT ?_
    refine bS [7, 9] [] ?_
    refine aN ?_
    refine aV aF 3 ?_
    refine eF 2 lo3 1 0 (.msl 3 lo14 0 (List.length x12)) (.msl 3 lo14 0 (List.length x12)) [(.msl 3 lo14 0 (List.length x12))] hO rfl ?_
    refine bH ?_
    refine bS [] [(31, (aK (decide ((4096 : Int) < (lN x12)))))] ?_
    refine bK h1 (fun h1 => ?_) (fun h1 => ?_)
    · refine aN ?_
      refine aV aF 2 ?_
      refine mQ 0 lo1 1 0 (eL aA t4) (.sl true 0 (fun _ => .bad)) [(eL aA t4)] [(lo1, 1, [(.sl true 0 (fun _ => .bad))]), (lo2, 1, [(eI t5)]), (lo3, 1, [(.msl 3 lo14 0 (List.length x12))]), (lo14, 3, List.map aA x12)] hO rfl (by kernel_rfl) ?_
      intro H hO
      refine mQ 1 lo2 1 0 (eI t5) (eI (7 : Int)) [(eI t5)] [(lo1, 1, [(.sl true 0 (fun _ => .bad))]), (lo2, 1, [(eI (7 : Int))]), (lo3, 1, [(.msl 3 lo14 0 (List.length x12))]), (lo14, 3, List.map aA x12)] hO rfl (by kernel_rfl) ?_
      intro H hO
      refine cT ?_
      refine TZ 0 lo1 1 (.sl true 0 (fun _ => .bad)) (eL aA ([])) [(lo1, 1, [(eL aA ([]))]), (lo2, 1, [(eI (7 : Int))]), (lo3, 1, [(.msl 3 lo14 0 (List.length x12))]), (lo14, 3, List.map aA x12)] hO (by kernel_rfl) (by kernel_rfl) iY (by kernel_rfl) ?_
      intro H hO
      refine bL [(4, (.lp lo1 0 0)), (5, (.lp lo2 0 0)), (6, (.lp lo3 0 0))] ?_
      refine bM ?_
      refine cO [(4, (.lp lo1 0 0)), (5, (.lp lo2 0 0)), (6, (.lp lo3 0 0))] ?_
      obtain rfl := oI h1
      exact aH (bJ (⟨(rJ hO hE ho1 .dead).1, rfl, _, ⟨lo14, rfl⟩, (rJ hO hE ho1 _).2⟩))
    refine bO ?_
    refine cO [(4, (.lp lo1 0 0)), (5, (.lp lo2 0 0)), (6, (.lp lo3 0 0))] ?_
    obtain rfl := oI h1
    exact aH (aX (⟨(rJ hO hE ho1 .dead).1, rfl, _, ⟨lo14, rfl⟩, (rJ hO hE ho1 _).2⟩))
  · intro b lD16 lL H' G' hi hO
    rcases o0 with s | s
    · dsimp only [Sum.elim_inl] at hi
      obtain ⟨lo7, rfl⟩ := hi
      replace h0 : (some (s.2.2, (0 : Int))) = some r := h0
      obtain ⟨hlL, hO⟩ := DU hO
      refine ⟨_, _, hlL, (by intro e; cases e), ?_⟩
      refine cO [(4, (.lp lo1 0 0)), (5, (.lp lo2 0 0)), (6, (.lp lo3 0 0))] ?_
      refine aH (aX (aG (?_)))
      refine aN ?_
      refine HT (e := aA) s.2.2 2 3 1 3 lo3 lo7 (List.length s.2.2) [(lo1, 1, [(eL aA s.1)]), (lo2, 1, [(eI s.2.1)]), (lo3, 1, [(eL aA s.2.2)])] hO (by kernel_rfl) (by kernel_rfl) (by kernel_rfl) (.inr (by decide)) (by kernel_rfl) ?_
      intro H hO
      refine aV aF 3 ?_
      refine eF 2 lo3 1 0 (eL aA s.2.2) (eL aA s.2.2) [(eL aA s.2.2)] hO rfl ?_
      refine mQ 0 lo1 1 0 (eL aA s.1) (eL aA s.2.2) [(eL aA s.1)] [(lo1, 1, [(eL aA s.2.2)]), (lo2, 1, [(eI s.2.1)]), (lo3, 1, [(eL aA s.2.2)])] hO rfl (by kernel_rfl) ?_
      intro H hO
      refine mQ 1 lo2 1 0 (eI s.2.1) (eI (0 : Int)) [(eI s.2.1)] [(lo1, 1, [(eL aA s.2.2)]), (lo2, 1, [(eI (0 : Int))]), (lo3, 1, [(eL aA s.2.2)])] hO rfl (by kernel_rfl) ?_
      intro H hO
      refine cT ?_
      replace hO := hO.pick (L' := [(lo1, 1, [(eL aA s.2.2)]), (lo2, 1, [(eI (0 : Int))])]) [0, 1] (by decide) (by kernel_rfl)
      refine bS [6] [] ?_
      refine bM ?_
      obtain rfl := oI h0
      have hD := (hO.gm 0 _ rfl).2
      replace hO := (hO.KN .dead).ID
      exact aH (QM1 (.inr rfl) hD (rs := [.cell 4 34, .cell 5 24]) (xs := [(eL aA s.2.2), (eI (0 : Int))]) (x := (.tup [(eL aA s.2.2), (eI (0 : Int))])) (by kernel_rfl) (BS (lo := lo1) (k := 1) (y := (eL aA s.2.2)) (x := (eL aA s.2.2)) 0 hO (by kernel_rfl) (by kernel_rfl) (by kernel_rfl) (by kernel_rfl) (BS (lo := lo2) (k := 1) (y := (eI (0 : Int))) (x := (eI (0 : Int))) 1 hO (by kernel_rfl) (by kernel_rfl) (by kernel_rfl) (by kernel_rfl) JR)) (by kernel_rfl) ⟨rfl, hO.out⟩)
    · dsimp only [Sum.elim_inr] at hi
      obtain ⟨lo7, rfl⟩ := hi
      replace h0 : (some (s.1, s.2.1)) = some r := h0
      obtain ⟨hlL, hO⟩ := DU hO
      refine ⟨_, _, hlL, (by intro e; cases e), ?_⟩
      refine bM ?_
      replace hO := hO.pick (L' := [(lo1, 1, [(eL aA s.1)]), (lo2, 1, [(eI s.2.1)])]) [0, 1] (by decide) (by kernel_rfl)
      obtain rfl := oI h0
      have hD := (hO.gm 0 _ rfl).2
      replace hO := (hO.KN .dead).ID
      exact aH (bJ (aP (QM1 (.inr rfl) hD (rs := [.cell 4 34, .cell 5 24]) (xs := [(eL aA s.1), (eI s.2.1)]) (x := (.tup [(eL aA s.1), (eI s.2.1)])) (by kernel_rfl) (BS (lo := lo1) (k := 1) (y := (eL aA s.1)) (x := (eL aA s.1)) 0 hO (by kernel_rfl) (by kernel_rfl) (by kernel_rfl) (by kernel_rfl) (BS (lo := lo2) (k := 1) (y := (eI s.2.1)) (x := (eI s.2.1)) 1 hO (by kernel_rfl) (by kernel_rfl) (by kernel_rfl) (by kernel_rfl) JR)) (by kernel_rfl) ⟨rfl, hO.out⟩)))

theorem wX (s0 : (List aD)) (f1_f : Nat) (f1_a f1_c : List V) (f1 : aD → Option Bool) (f1_h : ∀ a0 r, f1 a0 = some r → cE Try.prog f1_f (f1_a ++ [(aE a0)] ++ f1_c) (aK r)) (r : Int) (h0 : gN s0 f1 = some r) : cE Try.prog 86 [(eL aE s0), (.fn (.func f1_f) f1_a f1_c)] (eI r) := by
  intro H0
  refine cF Try.func86 ?_
  have hO := aL.start H0
  unfold gN at h0
  refine aU aF 1 [] [] ?_
  refine cK (fun T H => Has T [] ∧ aL ⟨H0, [], []⟩ H [] ∧ eE f1  = some r) ?_ ?_
  · clear hO h0
    rintro T H ⟨hT, hO, h0⟩
    refine bC hT ?_
    clear hT
    unfold eE at h0
    refine bV aF 1 [(4, (eI (-1 : Int)))] ?_
    refine bM ?_
    obtain rfl := oI h0
    exact aH (Q_r hO)
  refine aU aF 3 [] [(7, (eI (lN s0))), (8, (eI (0 : Int)))] ?_
  refine bT 0 ?_
  refine cS [(0, (eL aE s0)), (1, (.fn (.func f1_f) f1_a f1_c)), (7, (eI (lN s0))), (8, (eI (0 : Int)))] ?_
  refine cG (fun T H => ∃ t7 : Int, ∃ t8 : Int, Has T [(0, (eL aE s0)), (1, (.fn (.func f1_f) f1_a f1_c)), (7, (eI t7)), (8, (eI t8))] ∧ aL ⟨H0, [], []⟩ H [] ∧ gF f1 s0 t7 t8 = some r) ?_ ⟨(lN s0), (0 : Int), aW, hO, h0⟩
  clear hO h0
  rintro T H ⟨t7, t8, hT, hO, h0⟩
  refine bC hT ?_
  clear hT
  unfold gF at h0
  obtain ⟨rr0, hl0, h0⟩ := bB h0
  refine cZ (fun (s : Int) T H => Has T [(0, (eL aE s0)), (1, (.fn (.func f1_f) f1_a f1_c)), (7, (eI t7)), (8, (eI s))] ∧ aL ⟨H0, [], []⟩ H []) hl0 ⟨aW, hO⟩ ?_
  clear hO
  rintro k0 s out1 T H ⟨hT, hO⟩ h1 ho0
  obtain ⟨t8, rfl⟩ : ∃ x, x = s := ⟨_, rfl⟩
  replace h1 : gH f1 s0 t7 t8 = some out1 := h1
  refine bC hT ?_
  clear hT
  unfold gH at h1
  refine aU aF 1 [] [(9, (aK (decide (t8 < t7))))] ?_
  refine aN ?_
  refine bK h1 (fun h1 => ?_) (fun h1 => ?_)
  · refine bO ?_
    refine bL [(0, (eL aE s0)), (1, (.fn (.func f1_f) f1_a f1_c)), (7, (eI t7)), (8, (eI t8))] ?_
    refine aN ?_
    refine bT 1 ?_
    refine aU aF 2 [] [(5, (eI t8))] ?_
    refine aN ?_
    refine aV aF 6 ?_
    obtain ⟨c2, h1⟩ := bG h1
    refine iB 5 [0 ≤ t8 ∧ t8 < (lN s0)] ⟨c2, trivial⟩ ?_
    obtain ⟨x3, hx4, h1⟩ := bB h1
    refine dB (f1_h (gD s0 t8) _ hx4) hO ?_
    intro H hO
    refine cT ?_
    refine bS [] [(16, (aK x3))] ?_
    refine bK h1 (fun h1 => ?_) (fun h1 => ?_)
    · refine bV aF 2 [(4, (eI t8))] ?_
      refine bM ?_
      obtain rfl := oI h1
      obtain rfl : _ = rr0 := ho0
      replace h0 : some t8 = some r := h0
      obtain rfl := oI h0
      exact aH (bJ (aP (aP (bJ (aP (Q_r hO))))))
    refine bO ?_
    refine cO [(0, (eL aE s0)), (1, (.fn (.func f1_f) f1_a f1_c)), (7, (eI t7)), (8, (eI t8))] ?_
    refine aH (aX (aG (?_)))
    refine aV aF 2 ?_
    refine bH ?_
    exact aH (aG (⟨rfl, _, (oI h1).symm, aW, hO⟩))
  refine cX 0 ?_
  obtain rfl := oI h1
  obtain rfl : _ = rr0 := ho0
  replace h0 : eE f1  = some r := h0
  exact aH (aS (aS (bQ (aG (⟨rfl, aW, hO, h0⟩)))))

theorem oQ (s0 : (List aD)) (f1_f : Nat) (f1_a f1_c : List V) (f1 : aD → Option Bool) (f1_h : ∀ a0 r, f1 a0 = some r → cE Try.prog f1_f (f1_a ++ [(aE a0)] ++ f1_c) (aK r)) (r : Bool) (h0 : dG s0 f1 = some r) : cE Try.prog 65 [(eL aE s0), (.fn (.func f1_f) f1_a f1_c)] (aK r) := by
  intro H0
  refine cF Try.func65 ?_
  have hO := aL.start H0
  unfold dG at h0
  refine aU aF 1 [] [] ?_
  refine aN ?_
  refine aV aF 5 ?_
  refine bP 2 ?_
  obtain ⟨x1, hx2, h0⟩ := bB h0
  refine dB (wX s0 f1_f f1_a f1_c f1 f1_h _ hx2) hO ?_
  intro H hO
  refine bH ?_
  refine bL [(4, (aK (decide ((0 : Int) ≤ x1))))] ?_
  refine bM ?_
  obtain rfl := oI h0
  exact aH (Q_r hO)

theorem RV (j0 : aD) (r : Bool) (h0 : vG j0 = some r) : cE Try.prog 66 [(aE j0)] (aK r) := by
  intro H0
  refine cF Try.func66 ?_
  have hO := aL.start H0
  unfold vG at h0
  refine aN ?_
  refine aV aF 2 ?_
  refine sE 2 (aE j0) ?_
  refine bH ?_
  refine bL [(1, (.rp (aE j0)))] ?_
  refine aN ?_
  refine aV aF 5 ?_
  refine bP 2 ?_
  obtain ⟨x1, hx2, h0⟩ := bB h0
  refine dB (LX j0.Net _ hx2) hO ?_
  intro H hO
  refine bH ?_
  refine bL [(2, (aK (!x1)))] ?_
  refine bM ?_
  obtain rfl := oI h0
  exact aH (Q_r hO)

theorem RP (j0 : aD) (r : Bool) (h0 : vM j0 = some r) : cE Try.prog 68 [(aE j0)] (aK r) := by
  intro H0
  refine cF Try.func68 ?_
  have hO := aL.start H0
  unfold vM at h0
  refine aN ?_
  refine aV aF 2 ?_
  refine sE 2 (aE j0) ?_
  refine bH ?_
  refine bL [(1, (.rp (aE j0)))] ?_
  refine bV aF 9 [(2, (aK ((decide (j0.At < (-1 : Int))) || (decide ((1125899906842624 : Int) < j0.At)))))] ?_
  refine bM ?_
  obtain rfl := oI h0
  exact aH (Q_r hO)

theorem AD (s0 : (List aD)) (r : (List aD)) (h0 : fO s0 = some r) : LJ Try.prog 69 [(eL aE s0)] (fun lo => (.msl 2 lo 0 (List.length r))) 2 (List.map aE r) := by
  intro H0
  refine cF Try.func69 ?_
  have hO := aL.start H0
  unfold fO at h0
  refine aU aF 1 [] [] ?_
  refine aN ?_
  refine aN ?_
  refine aV aF 2 ?_
  refine bP 1 ?_
  refine aCC false (List.length s0) (fun i => aE (List.getD s0 i default)) (by kernel_rfl) (by kernel_rfl) ?_
  intro b1 hn2
  refine cT ?_
  refine bS [] [(4, (aK b1))] ?_
  refine nB (b1) (fun hc3 => ?_) (fun hc3 => ?_)
  · replace h0 : some ([] : List aD) = some r := by
      have hl := List.eq_nil_of_length_eq_zero (hn2 hc3)
      rw [hl] at h0
      exact (bG h0).2
    refine bV aF 1 [(2, (.sl true 0 (fun _ => .bad)))] ?_
    refine bM ?_
    refine cO [(2, (.sl true 0 (fun _ => .bad)))] ?_
    refine UO (el := (fun _ => .bad)) 0 2 2 hO (by kernel_rfl) ?_
    intro lo4 H5 hO
    obtain rfl := oI h0
    exact aH (aP (nU (x := (.msl 2 lo4 0 (List.length ([] : List aD)))) (by kernel_rfl) (bA.refl _) ⟨lo4, rfl, hO⟩))
  · refine bO ?_
    refine bL [(0, (eL aE s0))] ?_
    refine aN ?_
    refine aV aF 4 ?_
    refine kM [] 2 ?_
    refine bP 2 ?_
    obtain ⟨c7, h0⟩ := bG h0
    refine LG (e := aE) s0 (fun _ => .bad) 2 16 (eL aE s0) (fun lo6 => [(lo6, 2, List.map aE s0)]) (by kernel_rfl) (by kernel_rfl) hO (AJ (fun _ => by kernel_rfl)) c7 (fun _ => by kernel_rfl) ?_
    intro lo6 H hO
    refine bH ?_
    refine bL [(2, (.msl 2 lo6 0 (List.length s0)))] ?_
    refine bM ?_
    obtain rfl := oI h0
    exact aH (nU (x := (.msl 2 lo6 0 (List.length s0))) (by kernel_rfl) (bA.refl _) ⟨lo6, rfl, hO⟩)

theorem oY (lo0p : Nat) (aC : (List aD)) (a1 : Int) (b2 : Int) (cmp3_f : Nat) (cmp3_a cmp3_c : List V) (cmp3 : aD → aD → Option Int) (cmp3_h : ∀ a0 a1 r, cmp3 a0 a1 = some r → cE Try.prog cmp3_f (cmp3_a ++ [(aE a0), (aE a1)] ++ cmp3_c) (eI r)) (r : List aD) (h0 : eB aC a1 b2 cmp3 = some r) : nT Try.prog 95 lo0p 2 (List.map aE aC) (List.map aE r) [(.msl 2 lo0p 0 (List.length aC)), (eI a1), (eI b2), (.fn (.func cmp3_f) cmp3_a cmp3_c)] (.tup []) := by
  intro H0 hl0
  refine cF Try.func95 ?_
  have hO := aL.qX hl0
  clear hl0
  obtain ⟨N0, hN0⟩ : ∃ n, n = List.length aC := ⟨_, rfl⟩
  have hN : List.length aC = N0 := hN0.symm
  unfold eB at h0
  refine aU aF 3 [] [(8, (eI (wR (a1 + (1 : Int)))))] ?_
  refine bT 0 ?_
  refine cS [(0, (.msl 2 lo0p 0 (List.length aC))), (1, (eI a1)), (2, (eI b2)), (3, (.fn (.func cmp3_f) cmp3_a cmp3_c)), (8, (eI (wR (a1 + (1 : Int)))))] ?_
  refine cG (fun T H => ∃ aC : List aD, ∃ i8 : Int, Has T [(0, (.msl 2 lo0p 0 (List.length aC))), (1, (eI a1)), (2, (eI b2)), (3, (.fn (.func cmp3_f) cmp3_a cmp3_c)), (8, (eI i8))] ∧ aL ⟨H0, [lo0p], []⟩ H [(lo0p, 2, List.map aE aC)] ∧ List.length aC = N0 ∧ kB cmp3 aC a1 b2 i8 = some r) ?_ ⟨aC, wR (a1 + (1 : Int)), aW, hO, hN, h0⟩
  clear hO hN h0
  rintro T H ⟨aC, i8, hT, hO, hN, h0⟩
  refine bC hT ?_
  clear hT
  unfold kB at h0
  obtain ⟨rr0, hl0, h0⟩ := bB h0
  refine cZ (fun (s : List aD × Int) T H => Has T [(0, (.msl 2 lo0p 0 (List.length s.1))), (1, (eI a1)), (2, (eI b2)), (3, (.fn (.func cmp3_f) cmp3_a cmp3_c)), (8, (eI s.2))] ∧ aL ⟨H0, [lo0p], []⟩ H [(lo0p, 2, List.map aE s.1)] ∧ List.length s.1 = N0) hl0 ⟨aW, hO, hN⟩ ?_
  clear hO hN
  rintro k0 s out1 T H ⟨hT, hO, hN⟩ h1 ho0
  obtain ⟨aC, i8⟩ := s
  replace h1 : kC cmp3 a1 b2 aC i8 = some out1 := h1
  try dsimp only at hT
  refine bC hT ?_
  clear hT
  unfold kC at h1
  refine aN ?_
  refine aU aF 3 [] [(14, (aK (decide (i8 < b2))))] ?_
  refine bK h1 (fun h1 => ?_) (fun h1 => ?_)
  · refine bO ?_
    refine bL [(0, (.msl 2 lo0p 0 (List.length aC))), (1, (eI a1)), (2, (eI b2)), (3, (.fn (.func cmp3_f) cmp3_a cmp3_c)), (8, (eI i8))] ?_
    refine cK (fun T H => ∃ aC : List aD, Has T [(0, (.msl 2 lo0p 0 (List.length aC))), (1, (eI a1)), (2, (eI b2)), (3, (.fn (.func cmp3_f) cmp3_a cmp3_c)), (8, (eI i8))] ∧ aL ⟨H0, [lo0p], []⟩ H [(lo0p, 2, List.map aE aC)] ∧ List.length aC = N0 ∧ fK cmp3 aC a1 b2 i8 = some out1) ?_ ?_
    · clear hO hN h1
      rintro T H ⟨aC, hT, hO, hN, h1⟩
      refine bC hT ?_
      clear hT
      unfold fK at h1
      refine aV aF 3 ?_
      refine bH ?_
      exact aH (aG (⟨rfl, _, (oI h1).symm, aW, hO, hN⟩))
    refine bT 1 ?_
    refine aU aF 2 [] [(9, (eI i8))] ?_
    refine bT 2 ?_
    refine cS [(0, (.msl 2 lo0p 0 (List.length aC))), (1, (eI a1)), (2, (eI b2)), (3, (.fn (.func cmp3_f) cmp3_a cmp3_c)), (8, (eI i8)), (9, (eI i8))] ?_
    refine cG (fun T H => ∃ aC : List aD, ∃ j9 : Int, Has T [(0, (.msl 2 lo0p 0 (List.length aC))), (1, (eI a1)), (2, (eI b2)), (3, (.fn (.func cmp3_f) cmp3_a cmp3_c)), (8, (eI i8)), (9, (eI j9))] ∧ aL ⟨H0, [lo0p], []⟩ H [(lo0p, 2, List.map aE aC)] ∧ List.length aC = N0 ∧ jZ cmp3 aC a1 b2 i8 j9 = some out1) ?_ ⟨aC, i8, aW, hO, hN, h1⟩
    clear hO hN h1
    rintro T H ⟨aC, j9, hT, hO, hN, h1⟩
    refine bC hT ?_
    clear hT
    unfold jZ at h1
    obtain ⟨rr1, hl1, h1⟩ := bB h1
    refine cZ (fun (s : List aD × Int) T H => Has T [(0, (.msl 2 lo0p 0 (List.length s.1))), (1, (eI a1)), (2, (eI b2)), (3, (.fn (.func cmp3_f) cmp3_a cmp3_c)), (8, (eI i8)), (9, (eI s.2))] ∧ aL ⟨H0, [lo0p], []⟩ H [(lo0p, 2, List.map aE s.1)] ∧ List.length s.1 = N0) hl1 ⟨aW, hO, hN⟩ ?_
    clear hO hN
    rintro k1 s out2 T H ⟨hT, hO, hN⟩ h2 ho1
    obtain ⟨aC, j9⟩ := s
    replace h2 : kA cmp3 a1 b2 i8 aC j9 = some out2 := h2
    try dsimp only at hT
    refine bC hT ?_
    clear hT
    unfold kA at h2
    refine aN ?_
    refine aN ?_
    obtain ⟨c2, h2⟩ := bG h2
    obtain ⟨c3, h2⟩ := bG h2
    obtain ⟨x4, hx5, h2⟩ := bB h2
    refine fB (fC []) aF 17 ?_
    refine yR (K := fun T H => Has (lift T) [(0, (.msl 2 lo0p 0 (List.length aC))), (1, (eI a1)), (2, (eI b2)), (3, (.fn (.func cmp3_f) cmp3_a cmp3_c)), (8, (eI i8)), (9, (eI j9)), (34, (aK ((decide (a1 < j9)) && (decide (x4 < (0 : Int))))))] ∧ aL ⟨H0, [lo0p], []⟩ H [(lo0p, 2, List.map aE aC)]) ?_ ?_
    · refine sG 4 ?_
      refine uB (t := 21) (e := decide (a1 < j9)) (by kernel_rfl) (fun hg6 => ?_) (fun hg6 => ?_)
      · refine cW 8 [0 ≤ j9 ∧ j9 < (lN aC)] ⟨(c2 hg6), trivial⟩ ?_
        refine JI 0 lo0p 2 (0 + Int.toNat j9) (aE (gD aC j9)) (aE (gD aC j9)) (List.map aE aC) hO (cD (c2 hg6)) ?_
        refine cW 13 [0 ≤ (wR (j9 - (1 : Int))) ∧ (wR (j9 - (1 : Int))) < (lN aC)] ⟨(c3 hg6), trivial⟩ ?_
        refine JI 0 lo0p 2 (0 + Int.toNat (wR (j9 - (1 : Int)))) (aE (gD aC (wR (j9 - (1 : Int))))) (aE (gD aC (wR (j9 - (1 : Int))))) (List.map aE aC) hO (cD (c3 hg6)) ?_
        refine BT cmp3_f (cmp3_a ++ [(aE (gD aC j9)), (aE (gD aC (wR (j9 - (1 : Int)))))] ++ cmp3_c) (eI x4) (by kernel_rfl) (by kernel_rfl) (cmp3_h (gD aC j9) (gD aC (wR (j9 - (1 : Int)))) _ (qW hx5 hg6)) hO ?_
        intro H hO
        refine jB ?_
        exact ⟨⟨[(0, (.msl 2 lo0p 0 (List.length aC))), (1, (eI a1)), (2, (eI b2)), (3, (.fn (.func cmp3_f) cmp3_a cmp3_c)), (8, (eI i8)), (9, (eI j9)), (34, (aK (decide (x4 < (0 : Int)))))], by kernel_rfl, rfl, ⟨bA.refl _, bA.refl _, bA.refl _, bA.refl _, bA.refl _, bA.refl _, bA.eq (congrArg aK (tO hg6 rfl).symm), trivial⟩⟩, hO⟩
      refine jB ?_
      exact ⟨⟨[(0, (.msl 2 lo0p 0 (List.length aC))), (1, (eI a1)), (2, (eI b2)), (3, (.fn (.func cmp3_f) cmp3_a cmp3_c)), (8, (eI i8)), (9, (eI j9)), (34, (aK false))], by kernel_rfl, rfl, ⟨bA.refl _, bA.refl _, bA.refl _, bA.refl _, bA.refl _, bA.refl _, bA.eq (congrArg aK (tO hg6 rfl).symm), trivial⟩⟩, hO⟩
    · rintro T H ⟨hT, hO⟩
      refine cV hT ?_
      clear hT
      refine aH (aG ?_)
      refine bK h2 (fun h2 => ?_) (fun h2 => ?_)
      · refine bO ?_
        refine bL [(0, (.msl 2 lo0p 0 (List.length aC))), (1, (eI a1)), (2, (eI b2)), (3, (.fn (.func cmp3_f) cmp3_a cmp3_c)), (8, (eI i8)), (9, (eI j9))] ?_
        refine aN ?_
        refine bT 3 ?_
        refine fB (fC []) aF 18 ?_
        obtain ⟨c8, h2⟩ := bG h2
        refine cW 9 [0 ≤ (wR (j9 - (1 : Int))) ∧ (wR (j9 - (1 : Int))) < (lN aC)] ⟨c8, trivial⟩ ?_
        refine kO 0 lo0p 2 (0 + Int.toNat (wR (j9 - (1 : Int)))) (aE (gD aC (wR (j9 - (1 : Int))))) (aE (gD aC (wR (j9 - (1 : Int))))) (List.map aE aC) hO (cD c8) ?_
        obtain ⟨c9, h2⟩ := bG h2
        refine cW 13 [0 ≤ j9 ∧ j9 < (lN aC)] ⟨c9, trivial⟩ ?_
        refine kO 0 lo0p 2 (0 + Int.toNat j9) (aE (gD aC j9)) (aE (gD aC j9)) (List.map aE aC) hO (cD c9) ?_
        obtain ⟨c10, h2⟩ := bG h2
        refine cW 15 [0 ≤ j9 ∧ j9 < (lN aC)] ⟨c10, trivial⟩ ?_
        refine wJ 0 lo0p 2 (0 + Int.toNat j9) (aE (gD aC j9)) (aE (gD aC (wR (j9 - (1 : Int))))) (List.map aE aC) [(lo0p, 2, List.map aE (List.set aC (Int.toNat j9) (gD aC (wR (j9 - (1 : Int))))))] hO (cD c10) (by simp only [List.set, mA]) ?_
        intro H hO
        replace hN : List.length (List.set aC (Int.toNat j9) (gD aC (wR (j9 - (1 : Int))))) = N0 := by simpa using hN
        obtain ⟨c11, h2⟩ := bG h2
        refine cW 17 [0 ≤ (wR (j9 - (1 : Int))) ∧ (wR (j9 - (1 : Int))) < (lN aC)] ⟨c11, trivial⟩ ?_
        refine wJ 0 lo0p 2 (0 + Int.toNat (wR (j9 - (1 : Int)))) (aE (gD (List.set aC (Int.toNat j9) (gD aC (wR (j9 - (1 : Int))))) (wR (j9 - (1 : Int))))) (aE (gD aC j9)) (List.map aE (List.set aC (Int.toNat j9) (gD aC (wR (j9 - (1 : Int)))))) [(lo0p, 2, List.map aE (List.set (List.set aC (Int.toNat j9) (gD aC (wR (j9 - (1 : Int))))) (Int.toNat (wR (j9 - (1 : Int)))) (gD aC j9)))] hO (AE c11 (by simp [])) (by simp only [List.set, mA]) ?_
        intro H hO
        replace hN : List.length (List.set (List.set aC (Int.toNat j9) (gD aC (wR (j9 - (1 : Int))))) (Int.toNat (wR (j9 - (1 : Int)))) (gD aC j9)) = N0 := by simpa using hN
        refine CS (by kernel_rfl) ?_
        refine cV (l := [(0, (.msl 2 lo0p 0 (List.length (List.set (List.set aC (Int.toNat j9) (gD aC (wR (j9 - (1 : Int))))) (Int.toNat (wR (j9 - (1 : Int)))) (gD aC j9))))), (1, (eI a1)), (2, (eI b2)), (3, (.fn (.func cmp3_f) cmp3_a cmp3_c)), (8, (eI i8)), (9, (eI j9))]) ⟨[(0, (.msl 2 lo0p 0 (List.length aC))), (1, (eI a1)), (2, (eI b2)), (3, (.fn (.func cmp3_f) cmp3_a cmp3_c)), (8, (eI i8)), (9, (eI j9))], by kernel_rfl, rfl, ⟨bA.eq (by simp []), bA.refl _, bA.refl _, bA.refl _, bA.refl _, bA.refl _, trivial⟩⟩ ?_
        refine aH (aX (aG (?_)))
        refine aV aF 3 ?_
        refine bH ?_
        exact aH (aG (⟨rfl, _, (oI h2).symm, aW, hO, hN⟩))
      refine cX 2 ?_
      obtain rfl := oI h2
      obtain rfl : _ = rr1 := ho1
      replace h1 : fK cmp3 aC a1 b2 i8 = some out1 := h1
      exact aH (aS (aS (bQ (aX (aG (⟨rfl, _, aW, hO, hN, h1⟩))))))
  refine cX 0 ?_
  obtain rfl := oI h1
  obtain rfl : _ = rr0 := ho0
  replace h0 : some aC = some r := h0
  obtain rfl := oI h0
  exact aH (aS (aS (bQ (tR (x := (.tup [])) (by kernel_rfl) (bA.refl _) ⟨rfl, hO.ext, hO.at 0 (by kernel_rfl), by first | rfl | (simp only [List.length_map]; exact hN.trans hN0)⟩))))

theorem mM (lo0p : Nat) (aC : (List aD)) (a1 : Int) (b2 : Int) (n3 : Int) (cmp4_f : Nat) (cmp4_a cmp4_c : List V) (cmp4 : aD → aD → Option Int) (cmp4_h : ∀ a0 a1 r, cmp4 a0 a1 = some r → cE Try.prog cmp4_f (cmp4_a ++ [(aE a0), (aE a1)] ++ cmp4_c) (eI r)) (r : List aD) (h0 : eW aC a1 b2 n3 cmp4 = some r) : nT Try.prog 100 lo0p 2 (List.map aE aC) (List.map aE r) [(.msl 2 lo0p 0 (List.length aC)), (eI a1), (eI b2), (eI n3), (.fn (.func cmp4_f) cmp4_a cmp4_c)] (.tup []) := by
  intro H0 hl0
  refine cF Try.func100 ?_
  have hO := aL.qX hl0
  clear hl0
  obtain ⟨N0, hN0⟩ : ∃ n, n = List.length aC := ⟨_, rfl⟩
  have hN : List.length aC = N0 := hN0.symm
  unfold eW at h0
  refine aU aF 1 [4] [(10, (eI (0 : Int)))] ?_
  refine bT 0 ?_
  refine cS [(0, (.msl 2 lo0p 0 (List.length aC))), (1, (eI a1)), (2, (eI b2)), (3, (eI n3)), (10, (eI (0 : Int)))] ?_
  refine cG (fun T H => ∃ aC : List aD, ∃ i10 : Int, Has T [(0, (.msl 2 lo0p 0 (List.length aC))), (1, (eI a1)), (2, (eI b2)), (3, (eI n3)), (10, (eI i10))] ∧ aL ⟨H0, [lo0p], []⟩ H [(lo0p, 2, List.map aE aC)] ∧ List.length aC = N0 ∧ lC cmp4 aC a1 b2 n3 i10 = some r) ?_ ⟨aC, (0 : Int), aW, hO, hN, h0⟩
  clear hO hN h0
  rintro T H ⟨aC, i10, hT, hO, hN, h0⟩
  refine bC hT ?_
  clear hT
  unfold lC at h0
  obtain ⟨rr0, hl0, h0⟩ := bB h0
  refine cZ (fun (s : List aD × Int) T H => Has T [(0, (.msl 2 lo0p 0 (List.length s.1))), (1, (eI a1)), (2, (eI b2)), (3, (eI n3)), (10, (eI s.2))] ∧ aL ⟨H0, [lo0p], []⟩ H [(lo0p, 2, List.map aE s.1)] ∧ List.length s.1 = N0) hl0 ⟨aW, hO, hN⟩ ?_
  clear hO hN
  rintro k0 s out1 T H ⟨hT, hO, hN⟩ h1 ho0
  obtain ⟨aC, i10⟩ := s
  replace h1 : lZ cmp4 a1 b2 n3 aC i10 = some out1 := h1
  try dsimp only at hT
  refine bC hT ?_
  clear hT
  unfold lZ at h1
  refine aN ?_
  refine aU aF 3 [] [(13, (aK (decide (i10 < n3))))] ?_
  refine bK h1 (fun h1 => ?_) (fun h1 => ?_)
  · refine bO ?_
    refine bL [(0, (.msl 2 lo0p 0 (List.length aC))), (1, (eI a1)), (2, (eI b2)), (3, (eI n3)), (10, (eI i10))] ?_
    refine aN ?_
    refine bT 1 ?_
    refine fB (fC []) aF 24 ?_
    obtain ⟨c2, h1⟩ := bG h1
    refine cW 13 [0 ≤ (wR (b2 + i10)) ∧ (wR (b2 + i10)) < (lN aC)] ⟨c2, trivial⟩ ?_
    refine kO 0 lo0p 2 (0 + Int.toNat (wR (b2 + i10))) (aE (gD aC (wR (b2 + i10)))) (aE (gD aC (wR (b2 + i10)))) (List.map aE aC) hO (cD c2) ?_
    obtain ⟨c3, h1⟩ := bG h1
    refine cW 19 [0 ≤ (wR (a1 + i10)) ∧ (wR (a1 + i10)) < (lN aC)] ⟨c3, trivial⟩ ?_
    refine kO 0 lo0p 2 (0 + Int.toNat (wR (a1 + i10))) (aE (gD aC (wR (a1 + i10)))) (aE (gD aC (wR (a1 + i10)))) (List.map aE aC) hO (cD c3) ?_
    obtain ⟨c4, h1⟩ := bG h1
    refine cW 21 [0 ≤ (wR (a1 + i10)) ∧ (wR (a1 + i10)) < (lN aC)] ⟨c4, trivial⟩ ?_
    refine wJ 0 lo0p 2 (0 + Int.toNat (wR (a1 + i10))) (aE (gD aC (wR (a1 + i10)))) (aE (gD aC (wR (b2 + i10)))) (List.map aE aC) [(lo0p, 2, List.map aE (List.set aC (Int.toNat (wR (a1 + i10))) (gD aC (wR (b2 + i10)))))] hO (cD c4) (by simp only [List.set, mA]) ?_
    intro H hO
    replace hN : List.length (List.set aC (Int.toNat (wR (a1 + i10))) (gD aC (wR (b2 + i10)))) = N0 := by simpa using hN
    obtain ⟨c5, h1⟩ := bG h1
    refine cW 23 [0 ≤ (wR (b2 + i10)) ∧ (wR (b2 + i10)) < (lN aC)] ⟨c5, trivial⟩ ?_
    refine wJ 0 lo0p 2 (0 + Int.toNat (wR (b2 + i10))) (aE (gD (List.set aC (Int.toNat (wR (a1 + i10))) (gD aC (wR (b2 + i10)))) (wR (b2 + i10)))) (aE (gD aC (wR (a1 + i10)))) (List.map aE (List.set aC (Int.toNat (wR (a1 + i10))) (gD aC (wR (b2 + i10))))) [(lo0p, 2, List.map aE (List.set (List.set aC (Int.toNat (wR (a1 + i10))) (gD aC (wR (b2 + i10)))) (Int.toNat (wR (b2 + i10))) (gD aC (wR (a1 + i10)))))] hO (AE c5 (by simp [])) (by simp only [List.set, mA]) ?_
    intro H hO
    replace hN : List.length (List.set (List.set aC (Int.toNat (wR (a1 + i10))) (gD aC (wR (b2 + i10)))) (Int.toNat (wR (b2 + i10))) (gD aC (wR (a1 + i10)))) = N0 := by simpa using hN
    refine CS (by kernel_rfl) ?_
    refine cV (l := [(0, (.msl 2 lo0p 0 (List.length (List.set (List.set aC (Int.toNat (wR (a1 + i10))) (gD aC (wR (b2 + i10)))) (Int.toNat (wR (b2 + i10))) (gD aC (wR (a1 + i10))))))), (1, (eI a1)), (2, (eI b2)), (3, (eI n3)), (10, (eI i10))]) ⟨[(0, (.msl 2 lo0p 0 (List.length aC))), (1, (eI a1)), (2, (eI b2)), (3, (eI n3)), (10, (eI i10))], by kernel_rfl, rfl, ⟨bA.eq (by simp []), bA.refl _, bA.refl _, bA.refl _, bA.refl _, trivial⟩⟩ ?_
    refine aH (aX (aG (?_)))
    refine aV aF 3 ?_
    refine bH ?_
    exact aH (aG (⟨rfl, _, (oI h1).symm, aW, hO, hN⟩))
  refine cX 0 ?_
  obtain rfl := oI h1
  obtain rfl : _ = rr0 := ho0
  replace h0 : some aC = some r := h0
  obtain rfl := oI h0
  exact aH (aS (aS (bQ (tR (x := (.tup [])) (by kernel_rfl) (bA.refl _) ⟨rfl, hO.ext, hO.at 0 (by kernel_rfl), by first | rfl | (simp only [List.length_map]; exact hN.trans hN0)⟩))))

theorem AO (lo0p : Nat) (aC : (List aD)) (a1 : Int) (m2 : Int) (b3 : Int) (cmp4_f : Nat) (cmp4_a cmp4_c : List V) (cmp4 : aD → aD → Option Int) (cmp4_h : ∀ a0 a1 r, cmp4 a0 a1 = some r → cE Try.prog cmp4_f (cmp4_a ++ [(aE a0), (aE a1)] ++ cmp4_c) (eI r)) (r : List aD) (h0 : nV aC a1 m2 b3 cmp4 = some r) : nT Try.prog 99 lo0p 2 (List.map aE aC) (List.map aE r) [(.msl 2 lo0p 0 (List.length aC)), (eI a1), (eI m2), (eI b3), (.fn (.func cmp4_f) cmp4_a cmp4_c)] (.tup []) := by
  intro H0 hl0
  refine cF Try.func99 ?_
  have hO := aL.qX hl0
  clear hl0
  obtain ⟨N0, hN0⟩ : ∃ n, n = List.length aC := ⟨_, rfl⟩
  have hN : List.length aC = N0 := hN0.symm
  unfold nV at h0
  refine aU aF 4 [1] [(10, (eI (wR (m2 - a1))))] ?_
  refine aU aF 4 [3] [(11, (eI (wR (b3 - m2))))] ?_
  refine cK (fun T H => ∃ aC : List aD, ∃ i10 : Int, Has T [(0, (.msl 2 lo0p 0 (List.length aC))), (2, (eI m2)), (4, (.fn (.func cmp4_f) cmp4_a cmp4_c)), (10, (eI i10))] ∧ aL ⟨H0, [lo0p], []⟩ H [(lo0p, 2, List.map aE aC)] ∧ List.length aC = N0 ∧ jQ cmp4 aC m2 i10 = some r) ?_ ?_
  · clear hO hN h0
    rintro T H ⟨aC, i10, hT, hO, hN, h0⟩
    refine bC hT ?_
    clear hT
    unfold jQ at h0
    refine aV aF 8 ?_
    refine bP 7 ?_
    obtain ⟨x1, hx2, h0⟩ := bB h0
    refine rE [(lo0p, 2, List.map aE x1)] 0 (mM lo0p aC (wR (m2 - i10)) m2 i10 cmp4_f cmp4_a cmp4_c cmp4 cmp4_h _ hx2) hO ?_
    intro H hO hl3
    simp only [List.length_map] at hl3
    replace hN := hl3.trans hN
    refine cT ?_
    refine cV (l := [(0, (.msl 2 lo0p 0 (List.length x1)))]) ⟨[(0, (.msl 2 lo0p 0 (List.length aC)))], by kernel_rfl, rfl, ⟨bA.eq (by simp [hl3]), trivial⟩⟩ ?_
    obtain rfl := oI h0
    exact aH (tR (x := (.tup [])) (by kernel_rfl) (bA.refl _) ⟨rfl, hO.ext, hO.at 0 (by kernel_rfl), by simp only [List.length_map]; exact hN.trans hN0⟩)
  refine bT 0 ?_
  refine cS [(0, (.msl 2 lo0p 0 (List.length aC))), (2, (eI m2)), (4, (.fn (.func cmp4_f) cmp4_a cmp4_c)), (10, (eI (wR (m2 - a1)))), (11, (eI (wR (b3 - m2))))] ?_
  refine cG (fun T H => ∃ aC : List aD, ∃ i10 : Int, ∃ j11 : Int, Has T [(0, (.msl 2 lo0p 0 (List.length aC))), (2, (eI m2)), (4, (.fn (.func cmp4_f) cmp4_a cmp4_c)), (10, (eI i10)), (11, (eI j11))] ∧ aL ⟨H0, [lo0p], []⟩ H [(lo0p, 2, List.map aE aC)] ∧ List.length aC = N0 ∧ nL cmp4 aC m2 i10 j11 = some r) ?_ ⟨aC, wR (m2 - a1), wR (b3 - m2), aW, hO, hN, h0⟩
  clear hO hN h0
  rintro T H ⟨aC, i10, j11, hT, hO, hN, h0⟩
  refine bC hT ?_
  clear hT
  unfold nL at h0
  obtain ⟨rr0, hl0, h0⟩ := bB h0
  refine cZ (fun (s : List aD × Int × Int) T H => Has T [(0, (.msl 2 lo0p 0 (List.length s.1))), (2, (eI m2)), (4, (.fn (.func cmp4_f) cmp4_a cmp4_c)), (10, (eI s.2.1)), (11, (eI s.2.2))] ∧ aL ⟨H0, [lo0p], []⟩ H [(lo0p, 2, List.map aE s.1)] ∧ List.length s.1 = N0) hl0 ⟨aW, hO, hN⟩ ?_
  clear hO hN
  rintro k0 s out1 T H ⟨hT, hO, hN⟩ h1 ho0
  obtain ⟨aC, i10, j11⟩ := s
  replace h1 : nK cmp4 m2 aC i10 j11 = some out1 := h1
  try dsimp only at hT
  refine bC hT ?_
  clear hT
  unfold nK at h1
  refine aN ?_
  refine aU aF 3 [] [(20, (aK (!decide (i10 = j11))))] ?_
  refine bK h1 (fun h1 => ?_) (fun h1 => ?_)
  · refine bO ?_
    refine bL [(0, (.msl 2 lo0p 0 (List.length aC))), (2, (eI m2)), (4, (.fn (.func cmp4_f) cmp4_a cmp4_c)), (10, (eI i10)), (11, (eI j11))] ?_
    refine bT 1 ?_
    refine aU aF 3 [] [(23, (aK (decide (j11 < i10))))] ?_
    refine bK h1 (fun h1 => ?_) (fun h1 => ?_)
    · refine aN ?_
      refine aV aF 8 ?_
      refine bP 7 ?_
      obtain ⟨x6, hx7, h1⟩ := bB h1
      refine rE [(lo0p, 2, List.map aE x6)] 0 (mM lo0p aC (wR (m2 - i10)) m2 j11 cmp4_f cmp4_a cmp4_c cmp4 cmp4_h _ hx7) hO ?_
      intro H hO hl8
      simp only [List.length_map] at hl8
      replace hN := hl8.trans hN
      refine cT ?_
      refine cV (l := [(0, (.msl 2 lo0p 0 (List.length x6))), (2, (eI m2)), (4, (.fn (.func cmp4_f) cmp4_a cmp4_c)), (10, (eI i10)), (11, (eI j11))]) ⟨[(0, (.msl 2 lo0p 0 (List.length aC))), (2, (eI m2)), (4, (.fn (.func cmp4_f) cmp4_a cmp4_c)), (10, (eI i10)), (11, (eI j11))], by kernel_rfl, rfl, ⟨bA.eq (by simp [hl8]), bA.refl _, bA.refl _, bA.refl _, bA.refl _, trivial⟩⟩ ?_
      refine aH (aG (?_))
      refine aV aF 4 ?_
      refine bH ?_
      exact aH (aX (aG (⟨rfl, _, (oI h1).symm, aW, hO, hN⟩)))
    refine aN ?_
    refine aV aF 12 ?_
    refine bP 11 ?_
    obtain ⟨x9, hx10, h1⟩ := bB h1
    refine rE [(lo0p, 2, List.map aE x9)] 0 (mM lo0p aC (wR (m2 - i10)) (wR ((wR (m2 + j11)) - i10)) i10 cmp4_f cmp4_a cmp4_c cmp4 cmp4_h _ hx10) hO ?_
    intro H hO hl11
    simp only [List.length_map] at hl11
    replace hN := hl11.trans hN
    refine cT ?_
    refine cV (l := [(0, (.msl 2 lo0p 0 (List.length x9))), (2, (eI m2)), (4, (.fn (.func cmp4_f) cmp4_a cmp4_c)), (10, (eI i10)), (11, (eI j11))]) ⟨[(0, (.msl 2 lo0p 0 (List.length aC))), (2, (eI m2)), (4, (.fn (.func cmp4_f) cmp4_a cmp4_c)), (10, (eI i10)), (11, (eI j11))], by kernel_rfl, rfl, ⟨bA.eq (by simp [hl11]), bA.refl _, bA.refl _, bA.refl _, bA.refl _, trivial⟩⟩ ?_
    refine aH (aG (?_))
    refine aV aF 4 ?_
    refine bH ?_
    exact aH (aX (aG (⟨rfl, _, (oI h1).symm, aW, hO, hN⟩)))
  refine cX 0 ?_
  obtain rfl := oI h1
  obtain rfl : _ = rr0 := ho0
  replace h0 : jQ cmp4 aC m2 i10 = some r := h0
  exact aH (aS (aS (bQ (aG (⟨rfl, _, _, aW, hO, hN, h0⟩)))))

end Go.Abs
namespace Go.Abs
open Go Go.RowKit Go.Proofs
theorem wH (cmp4_f : Nat) (cmp4_a cmp4_c : List V) (cmp4 : aD → aD → Option Int) (cmp4_h : ∀ a0 a1 r, cmp4 a0 a1 = some r → cE Try.prog cmp4_f (cmp4_a ++ [(aE a0), (aE a1)] ++ cmp4_c) (eI r)) (rec : (List aD) → Int → Int → Int → Option (List aD)) (ih : ∀ (lo0p : Nat) (aC : (List aD)) (a1 : Int) (m2 : Int) (b3 : Int) (r : List aD), rec aC a1 m2 b3 = some r → nT Try.prog 96 lo0p 2 (List.map aE aC) (List.map aE r) [(.msl 2 lo0p 0 (List.length aC)), (eI a1), (eI m2), (eI b3), (.fn (.func cmp4_f) cmp4_a cmp4_c)] (.tup [])) (lo0p : Nat) (aC : (List aD)) (a1 : Int) (m2 : Int) (b3 : Int) (r : List aD) (h0 : eH cmp4 rec aC a1 m2 b3 = some r) : nT Try.prog 96 lo0p 2 (List.map aE aC) (List.map aE r) [(.msl 2 lo0p 0 (List.length aC)), (eI a1), (eI m2), (eI b3), (.fn (.func cmp4_f) cmp4_a cmp4_c)] (.tup []) := by
  intro H0 hl0
  refine cF Try.func96 ?_
  have hO := aL.qX hl0
  clear hl0
  obtain ⟨N0, hN0⟩ : ∃ n, n = List.length aC := ⟨_, rfl⟩
  have hN : List.length aC = N0 := hN0.symm
  unfold eH at h0
  refine cK (fun T H => ∃ aC : List aD, Has T [(0, (.msl 2 lo0p 0 (List.length aC))), (1, (eI a1)), (2, (eI m2)), (3, (eI b3)), (4, (.fn (.func cmp4_f) cmp4_a cmp4_c))] ∧ aL ⟨H0, [lo0p], []⟩ H [(lo0p, 2, List.map aE aC)] ∧ List.length aC = N0 ∧ mK cmp4 rec aC a1 m2 b3 = some r) ?_ ?_
  · clear hO hN h0
    rintro T H ⟨aC, hT, hO, hN, h0⟩
    refine bC hT ?_
    clear hT
    unfold mK at h0
    refine cK (fun T H => ∃ aC : List aD, Has T [(0, (.msl 2 lo0p 0 (List.length aC))), (1, (eI a1)), (2, (eI m2)), (3, (eI b3)), (4, (.fn (.func cmp4_f) cmp4_a cmp4_c))] ∧ aL ⟨H0, [lo0p], []⟩ H [(lo0p, 2, List.map aE aC)] ∧ List.length aC = N0 ∧ mJ cmp4 rec aC a1 m2 b3 = some r) ?_ ?_
    · clear hO hN h0
      rintro T H ⟨aC, hT, hO, hN, h0⟩
      refine bC hT ?_
      clear hT
      unfold mJ at h0
      refine aN ?_
      refine aV aF 7 ?_
      obtain ⟨c1, h0⟩ := bG h0
      refine oH [0 ≤ (1 : Int)] ⟨c1, trivial⟩ ?_
      refine bS [] [(18, (eI (wR (Int.fdiv (IntKind.u64.wrap (wR (a1 + b3))) (2 ^ (min (Int.toNat (1 : Int)) 64))))))] ?_
      refine aU aF 4 [] [(19, (eI (wR ((wR (Int.fdiv (IntKind.u64.wrap (wR (a1 + b3))) (2 ^ (min (Int.toNat (1 : Int)) 64)))) + m2))))] ?_
      refine aU aF 2 [] [] ?_
      refine cK (fun T H => ∃ aC : List aD, ∃ bY : Int, ∃ n19 : Int, ∃ aZ : Int, ∃ r21 : Int, Has T [(0, (.msl 2 lo0p 0 (List.length aC))), (1, (eI a1)), (2, (eI m2)), (3, (eI b3)), (4, (.fn (.func cmp4_f) cmp4_a cmp4_c)), (18, (eI bY)), (19, (eI n19)), (20, (eI aZ)), (21, (eI r21))] ∧ aL ⟨H0, [lo0p], []⟩ H [(lo0p, 2, List.map aE aC)] ∧ List.length aC = N0 ∧ iC cmp4 rec aC a1 m2 b3 bY n19 aZ r21 = some r) ?_ ?_
      · clear hO hN h0
        rintro T H ⟨aC, bY, n19, aZ, r21, hT, hO, hN, h0⟩
        refine bC hT ?_
        clear hT
        unfold iC at h0
        refine aU aF 3 [] [(22, (eI (wR (n19 - (1 : Int)))))] ?_
        refine cK (fun T H => ∃ aC : List aD, ∃ aZ : Int, Has T [(0, (.msl 2 lo0p 0 (List.length aC))), (1, (eI a1)), (2, (eI m2)), (3, (eI b3)), (4, (.fn (.func cmp4_f) cmp4_a cmp4_c)), (18, (eI bY)), (19, (eI n19)), (20, (eI aZ))] ∧ aL ⟨H0, [lo0p], []⟩ H [(lo0p, 2, List.map aE aC)] ∧ List.length aC = N0 ∧ iU cmp4 rec aC a1 m2 b3 bY n19 aZ = some r) ?_ ?_
        · clear hO hN h0
          rintro T H ⟨aC, aZ, hT, hO, hN, h0⟩
          refine bC hT ?_
          clear hT
          unfold iU at h0
          refine aU aF 4 [19] [(24, (eI (wR (n19 - aZ))))] ?_
          refine cK (fun T H => ∃ aC : List aD, ∃ eN : Int, Has T [(0, (.msl 2 lo0p 0 (List.length aC))), (1, (eI a1)), (3, (eI b3)), (4, (.fn (.func cmp4_f) cmp4_a cmp4_c)), (18, (eI bY)), (20, (eI aZ)), (24, (eI eN))] ∧ aL ⟨H0, [lo0p], []⟩ H [(lo0p, 2, List.map aE aC)] ∧ List.length aC = N0 ∧ iN cmp4 rec aC a1 b3 bY aZ eN = some r) ?_ ?_
          · clear hO hN h0
            rintro T H ⟨aC, eN, hT, hO, hN, h0⟩
            refine bC hT ?_
            clear hT
            unfold iN at h0
            refine cK (fun T H => ∃ aC : List aD, Has T [(0, (.msl 2 lo0p 0 (List.length aC))), (3, (eI b3)), (4, (.fn (.func cmp4_f) cmp4_a cmp4_c)), (18, (eI bY)), (24, (eI eN))] ∧ aL ⟨H0, [lo0p], []⟩ H [(lo0p, 2, List.map aE aC)] ∧ List.length aC = N0 ∧ iR cmp4 rec aC b3 bY eN = some r) ?_ ?_
            · clear hO hN h0
              rintro T H ⟨aC, hT, hO, hN, h0⟩
              refine bC hT ?_
              clear hT
              unfold iR at h0
              refine aU aF 8 [] [(213, (aK ((decide (bY < eN)) && (decide (eN < b3)))))] ?_
              refine bK h0 (fun h0 => ?_) (fun h0 => ?_)
              · refine aV aF 6 ?_
                refine bP 5 ?_
                obtain ⟨x3, hx4, h0⟩ := bB h0
                refine rE [(lo0p, 2, List.map aE x3)] 0 (ih lo0p aC bY eN b3 _ hx4) hO ?_
                intro H hO hl5
                simp only [List.length_map] at hl5
                replace hN := hl5.trans hN
                refine cT ?_
                refine cV (l := [(0, (.msl 2 lo0p 0 (List.length x3)))]) ⟨[(0, (.msl 2 lo0p 0 (List.length aC)))], by kernel_rfl, rfl, ⟨bA.eq (by simp [hl5]), trivial⟩⟩ ?_
                obtain rfl := oI h0
                exact aH (tR (x := (.tup [])) (by kernel_rfl) (bA.refl _) ⟨rfl, hO.ext, hO.at 0 (by kernel_rfl), by simp only [List.length_map]; exact hN.trans hN0⟩)
              refine bO ?_
              obtain rfl := oI h0
              exact aH (tR (x := (.tup [])) (by kernel_rfl) (bA.refl _) ⟨rfl, hO.ext, hO.at 0 (by kernel_rfl), by first | rfl | (simp only [List.length_map]; exact hN.trans hN0)⟩)
            refine aU aF 8 [] [(199, (aK ((decide (a1 < aZ)) && (decide (aZ < bY)))))] ?_
            refine bK h0 (fun h0 => ?_) (fun h0 => ?_)
            · refine aV aF 6 ?_
              refine bP 5 ?_
              obtain ⟨x7, hx8, h0⟩ := bB h0
              refine rE [(lo0p, 2, List.map aE x7)] 0 (ih lo0p aC a1 aZ bY _ hx8) hO ?_
              intro H hO hl9
              simp only [List.length_map] at hl9
              replace hN := hl9.trans hN
              refine cT ?_
              refine cV (l := [(0, (.msl 2 lo0p 0 (List.length x7))), (3, (eI b3)), (4, (.fn (.func cmp4_f) cmp4_a cmp4_c)), (18, (eI bY)), (24, (eI eN))]) ⟨[(0, (.msl 2 lo0p 0 (List.length aC))), (3, (eI b3)), (4, (.fn (.func cmp4_f) cmp4_a cmp4_c)), (18, (eI bY)), (24, (eI eN))], by kernel_rfl, rfl, ⟨bA.eq (by simp [hl9]), bA.refl _, bA.refl _, bA.refl _, bA.refl _, trivial⟩⟩ ?_
              exact aH (aG (⟨rfl, _, aW, hO, hN, h0⟩))
            refine bO ?_
            exact aH (aG (⟨rfl, _, aW, hO, hN, h0⟩))
          refine aU aF 8 [] [(185, (aK ((decide (aZ < m2)) && (decide (m2 < (wR (n19 - aZ)))))))] ?_
          refine bK h0 (fun h0 => ?_) (fun h0 => ?_)
          · refine aV aF 6 ?_
            refine bP 5 ?_
            obtain ⟨x11, hx12, h0⟩ := bB h0
            refine rE [(lo0p, 2, List.map aE x11)] 0 (AO lo0p aC aZ m2 (wR (n19 - aZ)) cmp4_f cmp4_a cmp4_c cmp4 cmp4_h _ hx12) hO ?_
            intro H hO hl13
            simp only [List.length_map] at hl13
            replace hN := hl13.trans hN
            refine cT ?_
            refine cV (l := [(0, (.msl 2 lo0p 0 (List.length x11))), (1, (eI a1)), (3, (eI b3)), (4, (.fn (.func cmp4_f) cmp4_a cmp4_c)), (18, (eI bY)), (20, (eI aZ)), (24, (eI (wR (n19 - aZ))))]) ⟨[(0, (.msl 2 lo0p 0 (List.length aC))), (1, (eI a1)), (3, (eI b3)), (4, (.fn (.func cmp4_f) cmp4_a cmp4_c)), (18, (eI bY)), (20, (eI aZ)), (24, (eI (wR (n19 - aZ))))], by kernel_rfl, rfl, ⟨bA.eq (by simp [hl13]), bA.refl _, bA.refl _, bA.refl _, bA.refl _, bA.refl _, bA.refl _, trivial⟩⟩ ?_
            exact aH (aG (⟨rfl, _, _, aW, hO, hN, h0⟩))
          refine bO ?_
          exact aH (aG (⟨rfl, _, _, aW, hO, hN, h0⟩))
        refine bT 8 ?_
        refine cS [(0, (.msl 2 lo0p 0 (List.length aC))), (1, (eI a1)), (2, (eI m2)), (3, (eI b3)), (4, (.fn (.func cmp4_f) cmp4_a cmp4_c)), (18, (eI bY)), (19, (eI n19)), (20, (eI aZ)), (21, (eI r21)), (22, (eI (wR (n19 - (1 : Int)))))] ?_
        refine cG (fun T H => ∃ aC : List aD, ∃ aZ : Int, ∃ r21 : Int, ∃ p22 : Int, Has T [(0, (.msl 2 lo0p 0 (List.length aC))), (1, (eI a1)), (2, (eI m2)), (3, (eI b3)), (4, (.fn (.func cmp4_f) cmp4_a cmp4_c)), (18, (eI bY)), (19, (eI n19)), (20, (eI aZ)), (21, (eI r21)), (22, (eI p22))] ∧ aL ⟨H0, [lo0p], []⟩ H [(lo0p, 2, List.map aE aC)] ∧ List.length aC = N0 ∧ mE cmp4 rec aC a1 m2 b3 bY n19 aZ r21 p22 = some r) ?_ ⟨aC, aZ, r21, wR (n19 - (1 : Int)), aW, hO, hN, h0⟩
        clear hO hN h0
        rintro T H ⟨aC, aZ, r21, p22, hT, hO, hN, h0⟩
        refine bC hT ?_
        clear hT
        unfold mE at h0
        obtain ⟨rr0, hl0, h0⟩ := bB h0
        refine cZ (fun (s : List aD × Int × Int) T H => Has T [(0, (.msl 2 lo0p 0 (List.length s.1))), (1, (eI a1)), (2, (eI m2)), (3, (eI b3)), (4, (.fn (.func cmp4_f) cmp4_a cmp4_c)), (18, (eI bY)), (19, (eI n19)), (20, (eI s.2.1)), (21, (eI s.2.2)), (22, (eI p22))] ∧ aL ⟨H0, [lo0p], []⟩ H [(lo0p, 2, List.map aE s.1)] ∧ List.length s.1 = N0) hl0 ⟨aW, hO, hN⟩ ?_
        clear hO hN
        rintro k0 s out1 T H ⟨hT, hO, hN⟩ h1 ho0
        obtain ⟨aC, aZ, r21⟩ := s
        replace h1 : mH cmp4 rec a1 m2 b3 bY n19 p22 aC aZ r21 = some out1 := h1
        try dsimp only at hT
        refine bC hT ?_
        clear hT
        unfold mH at h1
        refine aN ?_
        refine aU aF 3 [] [(151, (aK (decide (aZ < r21))))] ?_
        refine bK h1 (fun h1 => ?_) (fun h1 => ?_)
        · refine bO ?_
          refine bL [(0, (.msl 2 lo0p 0 (List.length aC))), (1, (eI a1)), (2, (eI m2)), (3, (eI b3)), (4, (.fn (.func cmp4_f) cmp4_a cmp4_c)), (18, (eI bY)), (19, (eI n19)), (20, (eI aZ)), (21, (eI r21)), (22, (eI p22))] ?_
          refine bT 9 ?_
          refine aN ?_
          refine aV aF 7 ?_
          obtain ⟨c15, h1⟩ := bG h1
          refine oH [0 ≤ (1 : Int)] ⟨c15, trivial⟩ ?_
          refine bS [] [(23, (eI (wR (Int.fdiv (IntKind.u64.wrap (wR (aZ + r21))) (2 ^ (min (Int.toNat (1 : Int)) 64))))))] ?_
          refine aN ?_
          refine fB (fC [169]) aF 14 ?_
          obtain ⟨c16, h1⟩ := bG h1
          refine cW 6 [0 ≤ (wR (p22 - (wR (Int.fdiv (IntKind.u64.wrap (wR (aZ + r21))) (2 ^ (min (Int.toNat (1 : Int)) 64)))))) ∧ (wR (p22 - (wR (Int.fdiv (IntKind.u64.wrap (wR (aZ + r21))) (2 ^ (min (Int.toNat (1 : Int)) 64)))))) < (lN aC)] ⟨c16, trivial⟩ ?_
          refine kO 0 lo0p 2 (0 + Int.toNat (wR (p22 - (wR (Int.fdiv (IntKind.u64.wrap (wR (aZ + r21))) (2 ^ (min (Int.toNat (1 : Int)) 64))))))) (aE (gD aC (wR (p22 - (wR (Int.fdiv (IntKind.u64.wrap (wR (aZ + r21))) (2 ^ (min (Int.toNat (1 : Int)) 64)))))))) (aE (gD aC (wR (p22 - (wR (Int.fdiv (IntKind.u64.wrap (wR (aZ + r21))) (2 ^ (min (Int.toNat (1 : Int)) 64)))))))) (List.map aE aC) hO (cD c16) ?_
          obtain ⟨c17, h1⟩ := bG h1
          refine cW 10 [0 ≤ (wR (Int.fdiv (IntKind.u64.wrap (wR (aZ + r21))) (2 ^ (min (Int.toNat (1 : Int)) 64)))) ∧ (wR (Int.fdiv (IntKind.u64.wrap (wR (aZ + r21))) (2 ^ (min (Int.toNat (1 : Int)) 64)))) < (lN aC)] ⟨c17, trivial⟩ ?_
          refine kO 0 lo0p 2 (0 + Int.toNat (wR (Int.fdiv (IntKind.u64.wrap (wR (aZ + r21))) (2 ^ (min (Int.toNat (1 : Int)) 64))))) (aE (gD aC (wR (Int.fdiv (IntKind.u64.wrap (wR (aZ + r21))) (2 ^ (min (Int.toNat (1 : Int)) 64)))))) (aE (gD aC (wR (Int.fdiv (IntKind.u64.wrap (wR (aZ + r21))) (2 ^ (min (Int.toNat (1 : Int)) 64)))))) (List.map aE aC) hO (cD c17) ?_
          obtain ⟨x18, hx19, h1⟩ := bB h1
          refine BF (cmp4_h (gD aC (wR (p22 - (wR (Int.fdiv (IntKind.u64.wrap (wR (aZ + r21))) (2 ^ (min (Int.toNat (1 : Int)) 64))))))) (gD aC (wR (Int.fdiv (IntKind.u64.wrap (wR (aZ + r21))) (2 ^ (min (Int.toNat (1 : Int)) 64))))) _ hx19) hO ?_
          intro H hO
          refine jB ?_
          refine bS [] [(171, (aK (!(decide (x18 < (0 : Int))))))] ?_
          refine bK h1 (fun h1 => ?_) (fun h1 => ?_)
          · refine aV aF 3 ?_
            refine bH ?_
            exact aH (aX (aG (⟨rfl, _, (oI h1).symm, aW, hO, hN⟩)))
          refine aV aF 2 ?_
          refine bH ?_
          exact aH (aX (aG (⟨rfl, _, (oI h1).symm, aW, hO, hN⟩)))
        refine cX 8 ?_
        obtain rfl := oI h1
        obtain rfl : _ = rr0 := ho0
        replace h0 : iU cmp4 rec aC a1 m2 b3 bY n19 aZ = some r := h0
        exact aH (aS (aS (bQ (aG (⟨rfl, _, _, aW, hO, hN, h0⟩)))))
      refine aU aF 3 [] [(140, (aK (decide ((wR (Int.fdiv (IntKind.u64.wrap (wR (a1 + b3))) (2 ^ (min (Int.toNat (1 : Int)) 64)))) < m2))))] ?_
      refine bK h0 (fun h0 => ?_) (fun h0 => ?_)
      · refine bV aF 4 [(0, (.msl 2 lo0p 0 (List.length aC))), (1, (eI a1)), (2, (eI m2)), (3, (eI b3)), (4, (.fn (.func cmp4_f) cmp4_a cmp4_c)), (18, (eI (wR (Int.fdiv (IntKind.u64.wrap (wR (a1 + b3))) (2 ^ (min (Int.toNat (1 : Int)) 64)))))), (19, (eI (wR ((wR (Int.fdiv (IntKind.u64.wrap (wR (a1 + b3))) (2 ^ (min (Int.toNat (1 : Int)) 64)))) + m2)))), (20, (eI (wR ((wR ((wR (Int.fdiv (IntKind.u64.wrap (wR (a1 + b3))) (2 ^ (min (Int.toNat (1 : Int)) 64)))) + m2)) - b3))))] ?_
        refine aV aF 2 ?_
        refine bH ?_
        exact aH (aG (⟨rfl, _, _, _, _, _, aW, hO, hN, h0⟩))
      refine bV aF 2 [(0, (.msl 2 lo0p 0 (List.length aC))), (1, (eI a1)), (2, (eI m2)), (3, (eI b3)), (4, (.fn (.func cmp4_f) cmp4_a cmp4_c)), (18, (eI (wR (Int.fdiv (IntKind.u64.wrap (wR (a1 + b3))) (2 ^ (min (Int.toNat (1 : Int)) 64)))))), (19, (eI (wR ((wR (Int.fdiv (IntKind.u64.wrap (wR (a1 + b3))) (2 ^ (min (Int.toNat (1 : Int)) 64)))) + m2)))), (20, (eI a1))] ?_
      refine aV aF 2 ?_
      refine bH ?_
      exact aH (aG (⟨rfl, _, _, _, _, _, aW, hO, hN, h0⟩))
    refine aU aF 4 [] [(80, (aK (decide ((wR (b3 - m2)) = (1 : Int)))))] ?_
    refine bK h0 (fun h0 => ?_) (fun h0 => ?_)
    · refine aU aF 2 [1, 3, 80] [(14, (eI a1))] ?_
      refine aU aF 2 [] [(15, (eI m2))] ?_
      refine cK (fun T H => ∃ aC : List aD, ∃ i14 : Int, Has T [(0, (.msl 2 lo0p 0 (List.length aC))), (2, (eI m2)), (14, (eI i14))] ∧ aL ⟨H0, [lo0p], []⟩ H [(lo0p, 2, List.map aE aC)] ∧ List.length aC = N0 ∧ iI cmp4 rec aC m2 i14 = some r) ?_ ?_
      · clear hO hN h0
        rintro T H ⟨aC, i14, hT, hO, hN, h0⟩
        refine bC hT ?_
        clear hT
        unfold iI at h0
        refine cK (fun T H => ∃ aC : List aD, Has T [(0, (.msl 2 lo0p 0 (List.length aC)))] ∧ aL ⟨H0, [lo0p], []⟩ H [(lo0p, 2, List.map aE aC)] ∧ List.length aC = N0 ∧ iS cmp4 rec aC = some r) ?_ ?_
        · clear hO hN h0
          rintro T H ⟨aC, hT, hO, hN, h0⟩
          refine bC hT ?_
          clear hT
          unfold iS at h0
          refine bM ?_
          obtain rfl := oI h0
          exact aH (aP (nU (x := (.tup [])) (by kernel_rfl) (bA.refl _) ⟨rfl, hO.ext, hO.at 0 (by kernel_rfl), by first | rfl | (simp only [List.length_map]; exact hN.trans hN0)⟩))
        refine aU aF 2 [2] [(17, (eI m2))] ?_
        refine bT 6 ?_
        refine cS [(0, (.msl 2 lo0p 0 (List.length aC))), (14, (eI i14)), (17, (eI m2))] ?_
        refine cG (fun T H => ∃ aC : List aD, ∃ k17 : Int, Has T [(0, (.msl 2 lo0p 0 (List.length aC))), (14, (eI i14)), (17, (eI k17))] ∧ aL ⟨H0, [lo0p], []⟩ H [(lo0p, 2, List.map aE aC)] ∧ List.length aC = N0 ∧ lR cmp4 rec aC i14 k17 = some r) ?_ ⟨aC, m2, aW, hO, hN, h0⟩
        clear hO hN h0
        rintro T H ⟨aC, k17, hT, hO, hN, h0⟩
        refine bC hT ?_
        clear hT
        unfold lR at h0
        obtain ⟨rr0, hl0, h0⟩ := bB h0
        refine cZ (fun (s : List aD × Int) T H => Has T [(0, (.msl 2 lo0p 0 (List.length s.1))), (14, (eI i14)), (17, (eI s.2))] ∧ aL ⟨H0, [lo0p], []⟩ H [(lo0p, 2, List.map aE s.1)] ∧ List.length s.1 = N0) hl0 ⟨aW, hO, hN⟩ ?_
        clear hO hN
        rintro k0 s out1 T H ⟨hT, hO, hN⟩ h1 ho0
        obtain ⟨aC, k17⟩ := s
        replace h1 : lV cmp4 rec i14 aC k17 = some out1 := h1
        try dsimp only at hT
        refine bC hT ?_
        clear hT
        unfold lV at h1
        refine aN ?_
        refine aU aF 3 [] [(110, (aK (decide (i14 < k17))))] ?_
        refine bK h1 (fun h1 => ?_) (fun h1 => ?_)
        · refine bO ?_
          refine bL [(0, (.msl 2 lo0p 0 (List.length aC))), (14, (eI i14)), (17, (eI k17))] ?_
          refine aN ?_
          refine bT 7 ?_
          refine fB (fC []) aF 18 ?_
          obtain ⟨c25, h1⟩ := bG h1
          refine cW 9 [0 ≤ (wR (k17 - (1 : Int))) ∧ (wR (k17 - (1 : Int))) < (lN aC)] ⟨c25, trivial⟩ ?_
          refine kO 0 lo0p 2 (0 + Int.toNat (wR (k17 - (1 : Int)))) (aE (gD aC (wR (k17 - (1 : Int))))) (aE (gD aC (wR (k17 - (1 : Int))))) (List.map aE aC) hO (cD c25) ?_
          obtain ⟨c26, h1⟩ := bG h1
          refine cW 13 [0 ≤ k17 ∧ k17 < (lN aC)] ⟨c26, trivial⟩ ?_
          refine kO 0 lo0p 2 (0 + Int.toNat k17) (aE (gD aC k17)) (aE (gD aC k17)) (List.map aE aC) hO (cD c26) ?_
          obtain ⟨c27, h1⟩ := bG h1
          refine cW 15 [0 ≤ k17 ∧ k17 < (lN aC)] ⟨c27, trivial⟩ ?_
          refine wJ 0 lo0p 2 (0 + Int.toNat k17) (aE (gD aC k17)) (aE (gD aC (wR (k17 - (1 : Int))))) (List.map aE aC) [(lo0p, 2, List.map aE (List.set aC (Int.toNat k17) (gD aC (wR (k17 - (1 : Int))))))] hO (cD c27) (by simp only [List.set, mA]) ?_
          intro H hO
          replace hN : List.length (List.set aC (Int.toNat k17) (gD aC (wR (k17 - (1 : Int))))) = N0 := by simpa using hN
          obtain ⟨c28, h1⟩ := bG h1
          refine cW 17 [0 ≤ (wR (k17 - (1 : Int))) ∧ (wR (k17 - (1 : Int))) < (lN aC)] ⟨c28, trivial⟩ ?_
          refine wJ 0 lo0p 2 (0 + Int.toNat (wR (k17 - (1 : Int)))) (aE (gD (List.set aC (Int.toNat k17) (gD aC (wR (k17 - (1 : Int))))) (wR (k17 - (1 : Int))))) (aE (gD aC k17)) (List.map aE (List.set aC (Int.toNat k17) (gD aC (wR (k17 - (1 : Int)))))) [(lo0p, 2, List.map aE (List.set (List.set aC (Int.toNat k17) (gD aC (wR (k17 - (1 : Int))))) (Int.toNat (wR (k17 - (1 : Int)))) (gD aC k17)))] hO (AE c28 (by simp [])) (by simp only [List.set, mA]) ?_
          intro H hO
          replace hN : List.length (List.set (List.set aC (Int.toNat k17) (gD aC (wR (k17 - (1 : Int))))) (Int.toNat (wR (k17 - (1 : Int)))) (gD aC k17)) = N0 := by simpa using hN
          refine CS (by kernel_rfl) ?_
          refine cV (l := [(0, (.msl 2 lo0p 0 (List.length (List.set (List.set aC (Int.toNat k17) (gD aC (wR (k17 - (1 : Int))))) (Int.toNat (wR (k17 - (1 : Int)))) (gD aC k17))))), (14, (eI i14)), (17, (eI k17))]) ⟨[(0, (.msl 2 lo0p 0 (List.length aC))), (14, (eI i14)), (17, (eI k17))], by kernel_rfl, rfl, ⟨bA.eq (by simp []), bA.refl _, bA.refl _, trivial⟩⟩ ?_
          refine aH (aX (aG (?_)))
          refine aV aF 3 ?_
          refine bH ?_
          exact aH (aG (⟨rfl, _, (oI h1).symm, aW, hO, hN⟩))
        refine cX 6 ?_
        obtain rfl := oI h1
        obtain rfl : _ = rr0 := ho0
        replace h0 : iS cmp4 rec aC = some r := h0
        exact aH (aS (aS (bQ (aG (⟨rfl, _, aW, hO, hN, h0⟩)))))
      refine bT 4 ?_
      refine cS [(0, (.msl 2 lo0p 0 (List.length aC))), (2, (eI m2)), (4, (.fn (.func cmp4_f) cmp4_a cmp4_c)), (14, (eI a1)), (15, (eI m2))] ?_
      refine cG (fun T H => ∃ aC : List aD, ∃ i14 : Int, ∃ j15 : Int, Has T [(0, (.msl 2 lo0p 0 (List.length aC))), (2, (eI m2)), (4, (.fn (.func cmp4_f) cmp4_a cmp4_c)), (14, (eI i14)), (15, (eI j15))] ∧ aL ⟨H0, [lo0p], []⟩ H [(lo0p, 2, List.map aE aC)] ∧ List.length aC = N0 ∧ lO cmp4 rec aC m2 i14 j15 = some r) ?_ ⟨aC, a1, m2, aW, hO, hN, h0⟩
      clear hO hN h0
      rintro T H ⟨aC, i14, j15, hT, hO, hN, h0⟩
      refine bC hT ?_
      clear hT
      unfold lO at h0
      obtain ⟨rr0, hl0, h0⟩ := bB h0
      refine cZ (fun (s : List aD × Int × Int) T H => Has T [(0, (.msl 2 lo0p 0 (List.length s.1))), (2, (eI m2)), (4, (.fn (.func cmp4_f) cmp4_a cmp4_c)), (14, (eI s.2.1)), (15, (eI s.2.2))] ∧ aL ⟨H0, [lo0p], []⟩ H [(lo0p, 2, List.map aE s.1)] ∧ List.length s.1 = N0) hl0 ⟨aW, hO, hN⟩ ?_
      clear hO hN
      rintro k0 s out1 T H ⟨hT, hO, hN⟩ h1 ho0
      obtain ⟨aC, i14, j15⟩ := s
      replace h1 : lX cmp4 rec m2 aC i14 j15 = some out1 := h1
      try dsimp only at hT
      refine bC hT ?_
      clear hT
      unfold lX at h1
      refine aN ?_
      refine aU aF 3 [] [(85, (aK (decide (i14 < j15))))] ?_
      refine bK h1 (fun h1 => ?_) (fun h1 => ?_)
      · refine bO ?_
        refine bL [(0, (.msl 2 lo0p 0 (List.length aC))), (2, (eI m2)), (4, (.fn (.func cmp4_f) cmp4_a cmp4_c)), (14, (eI i14)), (15, (eI j15))] ?_
        refine bT 5 ?_
        refine aN ?_
        refine aV aF 7 ?_
        obtain ⟨c30, h1⟩ := bG h1
        refine oH [0 ≤ (1 : Int)] ⟨c30, trivial⟩ ?_
        refine bS [] [(16, (eI (wR (Int.fdiv (IntKind.u64.wrap (wR (i14 + j15))) (2 ^ (min (Int.toNat (1 : Int)) 64))))))] ?_
        refine aN ?_
        refine fB (fC [101]) aF 12 ?_
        obtain ⟨c31, h1⟩ := bG h1
        refine cW 4 [0 ≤ m2 ∧ m2 < (lN aC)] ⟨c31, trivial⟩ ?_
        refine kO 0 lo0p 2 (0 + Int.toNat m2) (aE (gD aC m2)) (aE (gD aC m2)) (List.map aE aC) hO (cD c31) ?_
        obtain ⟨c32, h1⟩ := bG h1
        refine cW 8 [0 ≤ (wR (Int.fdiv (IntKind.u64.wrap (wR (i14 + j15))) (2 ^ (min (Int.toNat (1 : Int)) 64)))) ∧ (wR (Int.fdiv (IntKind.u64.wrap (wR (i14 + j15))) (2 ^ (min (Int.toNat (1 : Int)) 64)))) < (lN aC)] ⟨c32, trivial⟩ ?_
        refine kO 0 lo0p 2 (0 + Int.toNat (wR (Int.fdiv (IntKind.u64.wrap (wR (i14 + j15))) (2 ^ (min (Int.toNat (1 : Int)) 64))))) (aE (gD aC (wR (Int.fdiv (IntKind.u64.wrap (wR (i14 + j15))) (2 ^ (min (Int.toNat (1 : Int)) 64)))))) (aE (gD aC (wR (Int.fdiv (IntKind.u64.wrap (wR (i14 + j15))) (2 ^ (min (Int.toNat (1 : Int)) 64)))))) (List.map aE aC) hO (cD c32) ?_
        obtain ⟨x33, hx34, h1⟩ := bB h1
        refine BF (cmp4_h (gD aC m2) (gD aC (wR (Int.fdiv (IntKind.u64.wrap (wR (i14 + j15))) (2 ^ (min (Int.toNat (1 : Int)) 64))))) _ hx34) hO ?_
        intro H hO
        refine jB ?_
        refine bS [] [(103, (aK (!(decide (x33 < (0 : Int))))))] ?_
        refine bK h1 (fun h1 => ?_) (fun h1 => ?_)
        · refine aV aF 3 ?_
          refine bH ?_
          exact aH (aX (aG (⟨rfl, _, (oI h1).symm, aW, hO, hN⟩)))
        refine aV aF 2 ?_
        refine bH ?_
        exact aH (aX (aG (⟨rfl, _, (oI h1).symm, aW, hO, hN⟩)))
      refine cX 4 ?_
      obtain rfl := oI h1
      obtain rfl : _ = rr0 := ho0
      replace h0 : iI cmp4 rec aC m2 i14 = some r := h0
      exact aH (aS (aS (bQ (aG (⟨rfl, _, _, aW, hO, hN, h0⟩)))))
    refine bO ?_
    exact aH (aG (⟨rfl, _, aW, hO, hN, h0⟩))
  refine aU aF 4 [] [(28, (aK (decide ((wR (m2 - a1)) = (1 : Int)))))] ?_
  refine bK h0 (fun h0 => ?_) (fun h0 => ?_)
  · refine aU aF 2 [2, 28] [(10, (eI m2))] ?_
    refine aU aF 2 [3] [(11, (eI b3))] ?_
    refine cK (fun T H => ∃ aC : List aD, ∃ i10 : Int, Has T [(0, (.msl 2 lo0p 0 (List.length aC))), (1, (eI a1)), (10, (eI i10))] ∧ aL ⟨H0, [lo0p], []⟩ H [(lo0p, 2, List.map aE aC)] ∧ List.length aC = N0 ∧ hU cmp4 rec aC a1 i10 = some r) ?_ ?_
    · clear hO hN h0
      rintro T H ⟨aC, i10, hT, hO, hN, h0⟩
      refine bC hT ?_
      clear hT
      unfold hU at h0
      refine cK (fun T H => ∃ aC : List aD, Has T [(0, (.msl 2 lo0p 0 (List.length aC)))] ∧ aL ⟨H0, [lo0p], []⟩ H [(lo0p, 2, List.map aE aC)] ∧ List.length aC = N0 ∧ hM cmp4 rec aC = some r) ?_ ?_
      · clear hO hN h0
        rintro T H ⟨aC, hT, hO, hN, h0⟩
        refine bC hT ?_
        clear hT
        unfold hM at h0
        refine bM ?_
        obtain rfl := oI h0
        exact aH (aP (nU (x := (.tup [])) (by kernel_rfl) (bA.refl _) ⟨rfl, hO.ext, hO.at 0 (by kernel_rfl), by first | rfl | (simp only [List.length_map]; exact hN.trans hN0)⟩))
      refine aU aF 2 [1] [(13, (eI a1))] ?_
      refine bT 2 ?_
      refine cS [(0, (.msl 2 lo0p 0 (List.length aC))), (10, (eI i10)), (13, (eI a1))] ?_
      refine cG (fun T H => ∃ aC : List aD, ∃ k13 : Int, Has T [(0, (.msl 2 lo0p 0 (List.length aC))), (10, (eI i10)), (13, (eI k13))] ∧ aL ⟨H0, [lo0p], []⟩ H [(lo0p, 2, List.map aE aC)] ∧ List.length aC = N0 ∧ lI cmp4 rec aC i10 k13 = some r) ?_ ⟨aC, a1, aW, hO, hN, h0⟩
      clear hO hN h0
      rintro T H ⟨aC, k13, hT, hO, hN, h0⟩
      refine bC hT ?_
      clear hT
      unfold lI at h0
      obtain ⟨rr0, hl0, h0⟩ := bB h0
      refine cZ (fun (s : List aD × Int) T H => Has T [(0, (.msl 2 lo0p 0 (List.length s.1))), (10, (eI i10)), (13, (eI s.2))] ∧ aL ⟨H0, [lo0p], []⟩ H [(lo0p, 2, List.map aE s.1)] ∧ List.length s.1 = N0) hl0 ⟨aW, hO, hN⟩ ?_
      clear hO hN
      rintro k0 s out1 T H ⟨hT, hO, hN⟩ h1 ho0
      obtain ⟨aC, k13⟩ := s
      replace h1 : lA cmp4 rec i10 aC k13 = some out1 := h1
      try dsimp only at hT
      refine bC hT ?_
      clear hT
      unfold lA at h1
      refine aN ?_
      refine aU aF 4 [] [(58, (aK (decide (k13 < (wR (i10 - (1 : Int)))))))] ?_
      refine bK h1 (fun h1 => ?_) (fun h1 => ?_)
      · refine bO ?_
        refine bL [(0, (.msl 2 lo0p 0 (List.length aC))), (10, (eI i10)), (13, (eI k13))] ?_
        refine aN ?_
        refine bT 3 ?_
        refine fB (fC []) aF 18 ?_
        obtain ⟨c39, h1⟩ := bG h1
        refine cW 9 [0 ≤ (wR (k13 + (1 : Int))) ∧ (wR (k13 + (1 : Int))) < (lN aC)] ⟨c39, trivial⟩ ?_
        refine kO 0 lo0p 2 (0 + Int.toNat (wR (k13 + (1 : Int)))) (aE (gD aC (wR (k13 + (1 : Int))))) (aE (gD aC (wR (k13 + (1 : Int))))) (List.map aE aC) hO (cD c39) ?_
        obtain ⟨c40, h1⟩ := bG h1
        refine cW 13 [0 ≤ k13 ∧ k13 < (lN aC)] ⟨c40, trivial⟩ ?_
        refine kO 0 lo0p 2 (0 + Int.toNat k13) (aE (gD aC k13)) (aE (gD aC k13)) (List.map aE aC) hO (cD c40) ?_
        obtain ⟨c41, h1⟩ := bG h1
        refine cW 15 [0 ≤ k13 ∧ k13 < (lN aC)] ⟨c41, trivial⟩ ?_
        refine wJ 0 lo0p 2 (0 + Int.toNat k13) (aE (gD aC k13)) (aE (gD aC (wR (k13 + (1 : Int))))) (List.map aE aC) [(lo0p, 2, List.map aE (List.set aC (Int.toNat k13) (gD aC (wR (k13 + (1 : Int))))))] hO (cD c41) (by simp only [List.set, mA]) ?_
        intro H hO
        replace hN : List.length (List.set aC (Int.toNat k13) (gD aC (wR (k13 + (1 : Int))))) = N0 := by simpa using hN
        obtain ⟨c42, h1⟩ := bG h1
        refine cW 17 [0 ≤ (wR (k13 + (1 : Int))) ∧ (wR (k13 + (1 : Int))) < (lN aC)] ⟨c42, trivial⟩ ?_
        refine wJ 0 lo0p 2 (0 + Int.toNat (wR (k13 + (1 : Int)))) (aE (gD (List.set aC (Int.toNat k13) (gD aC (wR (k13 + (1 : Int))))) (wR (k13 + (1 : Int))))) (aE (gD aC k13)) (List.map aE (List.set aC (Int.toNat k13) (gD aC (wR (k13 + (1 : Int)))))) [(lo0p, 2, List.map aE (List.set (List.set aC (Int.toNat k13) (gD aC (wR (k13 + (1 : Int))))) (Int.toNat (wR (k13 + (1 : Int)))) (gD aC k13)))] hO (AE c42 (by simp [])) (by simp only [List.set, mA]) ?_
        intro H hO
        replace hN : List.length (List.set (List.set aC (Int.toNat k13) (gD aC (wR (k13 + (1 : Int))))) (Int.toNat (wR (k13 + (1 : Int)))) (gD aC k13)) = N0 := by simpa using hN
        refine CS (by kernel_rfl) ?_
        refine cV (l := [(0, (.msl 2 lo0p 0 (List.length (List.set (List.set aC (Int.toNat k13) (gD aC (wR (k13 + (1 : Int))))) (Int.toNat (wR (k13 + (1 : Int)))) (gD aC k13))))), (10, (eI i10)), (13, (eI k13))]) ⟨[(0, (.msl 2 lo0p 0 (List.length aC))), (10, (eI i10)), (13, (eI k13))], by kernel_rfl, rfl, ⟨bA.eq (by simp []), bA.refl _, bA.refl _, trivial⟩⟩ ?_
        refine aH (aX (aG (?_)))
        refine aV aF 3 ?_
        refine bH ?_
        exact aH (aG (⟨rfl, _, (oI h1).symm, aW, hO, hN⟩))
      refine cX 2 ?_
      obtain rfl := oI h1
      obtain rfl : _ = rr0 := ho0
      replace h0 : hM cmp4 rec aC = some r := h0
      exact aH (aS (aS (bQ (aG (⟨rfl, _, aW, hO, hN, h0⟩)))))
    refine bT 0 ?_
    refine cS [(0, (.msl 2 lo0p 0 (List.length aC))), (1, (eI a1)), (4, (.fn (.func cmp4_f) cmp4_a cmp4_c)), (10, (eI m2)), (11, (eI b3))] ?_
    refine cG (fun T H => ∃ aC : List aD, ∃ i10 : Int, ∃ j11 : Int, Has T [(0, (.msl 2 lo0p 0 (List.length aC))), (1, (eI a1)), (4, (.fn (.func cmp4_f) cmp4_a cmp4_c)), (10, (eI i10)), (11, (eI j11))] ∧ aL ⟨H0, [lo0p], []⟩ H [(lo0p, 2, List.map aE aC)] ∧ List.length aC = N0 ∧ lT cmp4 rec aC a1 i10 j11 = some r) ?_ ⟨aC, m2, b3, aW, hO, hN, h0⟩
    clear hO hN h0
    rintro T H ⟨aC, i10, j11, hT, hO, hN, h0⟩
    refine bC hT ?_
    clear hT
    unfold lT at h0
    obtain ⟨rr0, hl0, h0⟩ := bB h0
    refine cZ (fun (s : List aD × Int × Int) T H => Has T [(0, (.msl 2 lo0p 0 (List.length s.1))), (1, (eI a1)), (4, (.fn (.func cmp4_f) cmp4_a cmp4_c)), (10, (eI s.2.1)), (11, (eI s.2.2))] ∧ aL ⟨H0, [lo0p], []⟩ H [(lo0p, 2, List.map aE s.1)] ∧ List.length s.1 = N0) hl0 ⟨aW, hO, hN⟩ ?_
    clear hO hN
    rintro k0 s out1 T H ⟨hT, hO, hN⟩ h1 ho0
    obtain ⟨aC, i10, j11⟩ := s
    replace h1 : kY cmp4 rec a1 aC i10 j11 = some out1 := h1
    try dsimp only at hT
    refine bC hT ?_
    clear hT
    unfold kY at h1
    refine aN ?_
    refine aU aF 3 [] [(33, (aK (decide (i10 < j11))))] ?_
    refine bK h1 (fun h1 => ?_) (fun h1 => ?_)
    · refine bO ?_
      refine bL [(0, (.msl 2 lo0p 0 (List.length aC))), (1, (eI a1)), (4, (.fn (.func cmp4_f) cmp4_a cmp4_c)), (10, (eI i10)), (11, (eI j11))] ?_
      refine bT 1 ?_
      refine aN ?_
      refine aV aF 7 ?_
      obtain ⟨c44, h1⟩ := bG h1
      refine oH [0 ≤ (1 : Int)] ⟨c44, trivial⟩ ?_
      refine bS [] [(12, (eI (wR (Int.fdiv (IntKind.u64.wrap (wR (i10 + j11))) (2 ^ (min (Int.toNat (1 : Int)) 64))))))] ?_
      refine aN ?_
      refine fB (fC [49]) aF 11 ?_
      obtain ⟨c45, h1⟩ := bG h1
      refine cW 4 [0 ≤ (wR (Int.fdiv (IntKind.u64.wrap (wR (i10 + j11))) (2 ^ (min (Int.toNat (1 : Int)) 64)))) ∧ (wR (Int.fdiv (IntKind.u64.wrap (wR (i10 + j11))) (2 ^ (min (Int.toNat (1 : Int)) 64)))) < (lN aC)] ⟨c45, trivial⟩ ?_
      refine kO 0 lo0p 2 (0 + Int.toNat (wR (Int.fdiv (IntKind.u64.wrap (wR (i10 + j11))) (2 ^ (min (Int.toNat (1 : Int)) 64))))) (aE (gD aC (wR (Int.fdiv (IntKind.u64.wrap (wR (i10 + j11))) (2 ^ (min (Int.toNat (1 : Int)) 64)))))) (aE (gD aC (wR (Int.fdiv (IntKind.u64.wrap (wR (i10 + j11))) (2 ^ (min (Int.toNat (1 : Int)) 64)))))) (List.map aE aC) hO (cD c45) ?_
      obtain ⟨c46, h1⟩ := bG h1
      refine cW 8 [0 ≤ a1 ∧ a1 < (lN aC)] ⟨c46, trivial⟩ ?_
      refine kO 0 lo0p 2 (0 + Int.toNat a1) (aE (gD aC a1)) (aE (gD aC a1)) (List.map aE aC) hO (cD c46) ?_
      obtain ⟨x47, hx48, h1⟩ := bB h1
      refine BF (cmp4_h (gD aC (wR (Int.fdiv (IntKind.u64.wrap (wR (i10 + j11))) (2 ^ (min (Int.toNat (1 : Int)) 64))))) (gD aC a1) _ hx48) hO ?_
      intro H hO
      refine jB ?_
      refine bS [] [(50, (aK (decide (x47 < (0 : Int)))))] ?_
      refine bK h1 (fun h1 => ?_) (fun h1 => ?_)
      · refine aV aF 3 ?_
        refine bH ?_
        exact aH (aX (aG (⟨rfl, _, (oI h1).symm, aW, hO, hN⟩)))
      refine aV aF 2 ?_
      refine bH ?_
      exact aH (aX (aG (⟨rfl, _, (oI h1).symm, aW, hO, hN⟩)))
    refine cX 0 ?_
    obtain rfl := oI h1
    obtain rfl : _ = rr0 := ho0
    replace h0 : hU cmp4 rec aC a1 i10 = some r := h0
    exact aH (aS (aS (bQ (aG (⟨rfl, _, _, aW, hO, hN, h0⟩)))))
  refine bO ?_
  exact aH (aG (⟨rfl, _, aW, hO, hN, h0⟩))

theorem qI (cmp4_f : Nat) (cmp4_a cmp4_c : List V) (cmp4 : aD → aD → Option Int) (cmp4_h : ∀ a0 a1 r, cmp4 a0 a1 = some r → cE Try.prog cmp4_f (cmp4_a ++ [(aE a0), (aE a1)] ++ cmp4_c) (eI r)) : ∀ (k : Nat) (lo0p : Nat) (aC : (List aD)) (a1 : Int) (m2 : Int) (b3 : Int) (r : List aD), iF cmp4 k aC a1 m2 b3 = some r → nT Try.prog 96 lo0p 2 (List.map aE aC) (List.map aE r) [(.msl 2 lo0p 0 (List.length aC)), (eI a1), (eI m2), (eI b3), (.fn (.func cmp4_f) cmp4_a cmp4_c)] (.tup [])
  | 0, _, _, _, _, _, _, h => by cases h
  | k + 1, lo0p, aC, a1, m2, b3, r, h => wH cmp4_f cmp4_a cmp4_c cmp4 cmp4_h _ (qI cmp4_f cmp4_a cmp4_c cmp4 cmp4_h k) lo0p aC a1 m2 b3 r h

theorem rG (lo0p : Nat) (aC : (List aD)) (a1 : Int) (m2 : Int) (b3 : Int) (cmp4_f : Nat) (cmp4_a cmp4_c : List V) (cmp4 : aD → aD → Option Int) (cmp4_h : ∀ a0 a1 r, cmp4 a0 a1 = some r → cE Try.prog cmp4_f (cmp4_a ++ [(aE a0), (aE a1)] ++ cmp4_c) (eI r)) (r : List aD) (h0 : fH aC a1 m2 b3 cmp4 = some r) : nT Try.prog 96 lo0p 2 (List.map aE aC) (List.map aE r) [(.msl 2 lo0p 0 (List.length aC)), (eI a1), (eI m2), (eI b3), (.fn (.func cmp4_f) cmp4_a cmp4_c)] (.tup []) := by
  obtain ⟨k, hk⟩ := JG h0
  exact qI cmp4_f cmp4_a cmp4_c cmp4 cmp4_h k lo0p aC a1 m2 b3 r hk

theorem AL (lo0p : Nat) (aC : (List aD)) (n1 : Int) (cmp2_f : Nat) (cmp2_a cmp2_c : List V) (cmp2 : aD → aD → Option Int) (cmp2_h : ∀ a0 a1 r, cmp2 a0 a1 = some r → cE Try.prog cmp2_f (cmp2_a ++ [(aE a0), (aE a1)] ++ cmp2_c) (eI r)) (r : List aD) (h0 : fY aC n1 cmp2 = some r) : nT Try.prog 87 lo0p 2 (List.map aE aC) (List.map aE r) [(.msl 2 lo0p 0 (List.length aC)), (eI n1), (.fn (.func cmp2_f) cmp2_a cmp2_c)] (.tup []) := by
  intro H0 hl0
  refine cF Try.func87 ?_
  have hO := aL.qX hl0
  clear hl0
  obtain ⟨N0, hN0⟩ : ∃ n, n = List.length aC := ⟨_, rfl⟩
  have hN : List.length aC = N0 := hN0.symm
  unfold fY at h0
  refine aU aF 1 [] [(6, (eI (20 : Int)))] ?_
  refine aU aF 3 [] [(7, (eI (0 : Int))), (8, (eI (20 : Int)))] ?_
  refine cK (fun T H => ∃ aC : List aD, ∃ aQ : Int, ∃ a7 : Int, Has T [(0, (.msl 2 lo0p 0 (List.length aC))), (1, (eI n1)), (2, (.fn (.func cmp2_f) cmp2_a cmp2_c)), (6, (eI aQ)), (7, (eI a7))] ∧ aL ⟨H0, [lo0p], []⟩ H [(lo0p, 2, List.map aE aC)] ∧ List.length aC = N0 ∧ fN cmp2 aC n1 aQ a7 = some r) ?_ ?_
  · clear hO hN h0
    rintro T H ⟨aC, aQ, a7, hT, hO, hN, h0⟩
    refine bC hT ?_
    clear hT
    unfold fN at h0
    refine aN ?_
    refine aV aF 5 ?_
    refine bP 4 ?_
    obtain ⟨x1, hx2, h0⟩ := bB h0
    refine rE [(lo0p, 2, List.map aE x1)] 0 (oY lo0p aC a7 n1 cmp2_f cmp2_a cmp2_c cmp2 cmp2_h _ hx2) hO ?_
    intro H hO hl3
    simp only [List.length_map] at hl3
    replace hN := hl3.trans hN
    refine cT ?_
    refine cV (l := [(0, (.msl 2 lo0p 0 (List.length x1))), (1, (eI n1)), (2, (.fn (.func cmp2_f) cmp2_a cmp2_c)), (6, (eI aQ))]) ⟨[(0, (.msl 2 lo0p 0 (List.length aC))), (1, (eI n1)), (2, (.fn (.func cmp2_f) cmp2_a cmp2_c)), (6, (eI aQ))], by kernel_rfl, rfl, ⟨bA.eq (by simp [hl3]), bA.refl _, bA.refl _, bA.refl _, trivial⟩⟩ ?_
    refine aH (aG (?_))
    refine bT 2 ?_
    refine cS [(0, (.msl 2 lo0p 0 (List.length x1))), (1, (eI n1)), (2, (.fn (.func cmp2_f) cmp2_a cmp2_c)), (6, (eI aQ))] ?_
    refine cG (fun T H => ∃ aC : List aD, ∃ aQ : Int, Has T [(0, (.msl 2 lo0p 0 (List.length aC))), (1, (eI n1)), (2, (.fn (.func cmp2_f) cmp2_a cmp2_c)), (6, (eI aQ))] ∧ aL ⟨H0, [lo0p], []⟩ H [(lo0p, 2, List.map aE aC)] ∧ List.length aC = N0 ∧ jI cmp2 aC n1 aQ = some r) ?_ ⟨x1, aQ, aW, hO, hN, h0⟩
    clear hO hN h0
    rintro T H ⟨aC, aQ, hT, hO, hN, h0⟩
    refine bC hT ?_
    clear hT
    unfold jI at h0
    obtain ⟨rr0, hl0, h0⟩ := bB h0
    refine cZ (fun (s : List aD × Int) T H => Has T [(0, (.msl 2 lo0p 0 (List.length s.1))), (1, (eI n1)), (2, (.fn (.func cmp2_f) cmp2_a cmp2_c)), (6, (eI s.2))] ∧ aL ⟨H0, [lo0p], []⟩ H [(lo0p, 2, List.map aE s.1)] ∧ List.length s.1 = N0) hl0 ⟨aW, hO, hN⟩ ?_
    clear hO hN
    rintro k0 s out1 T H ⟨hT, hO, hN⟩ h1 ho0
    obtain ⟨aC, aQ⟩ := s
    replace h1 : jK cmp2 n1 aC aQ = some out1 := h1
    try dsimp only at hT
    refine bC hT ?_
    clear hT
    unfold jK at h1
    refine aN ?_
    refine aU aF 3 [] [(30, (aK (decide (aQ < n1))))] ?_
    refine bK h1 (fun h1 => ?_) (fun h1 => ?_)
    · refine bO ?_
      refine bL [(0, (.msl 2 lo0p 0 (List.length aC))), (1, (eI n1)), (2, (.fn (.func cmp2_f) cmp2_a cmp2_c)), (6, (eI aQ))] ?_
      refine bT 3 ?_
      refine aU aF 4 [] [(7, (eI (0 : Int))), (8, (eI (wR ((2 : Int) * aQ))))] ?_
      refine cK (fun T H => ∃ aC : List aD, ∃ a7 : Int, Has T [(0, (.msl 2 lo0p 0 (List.length aC))), (1, (eI n1)), (2, (.fn (.func cmp2_f) cmp2_a cmp2_c)), (6, (eI aQ)), (7, (eI a7))] ∧ aL ⟨H0, [lo0p], []⟩ H [(lo0p, 2, List.map aE aC)] ∧ List.length aC = N0 ∧ fQ cmp2 aC n1 aQ a7 = some out1) ?_ ?_
      · clear hO hN h1
        rintro T H ⟨aC, a7, hT, hO, hN, h1⟩
        refine bC hT ?_
        clear hT
        unfold fQ at h1
        refine cK (fun T H => ∃ aC : List aD, Has T [(0, (.msl 2 lo0p 0 (List.length aC))), (1, (eI n1)), (2, (.fn (.func cmp2_f) cmp2_a cmp2_c)), (6, (eI aQ))] ∧ aL ⟨H0, [lo0p], []⟩ H [(lo0p, 2, List.map aE aC)] ∧ List.length aC = N0 ∧ jF cmp2 aC n1 aQ = some out1) ?_ ?_
        · clear hO hN h1
          rintro T H ⟨aC, hT, hO, hN, h1⟩
          refine bC hT ?_
          clear hT
          unfold jF at h1
          refine aV aF 3 ?_
          refine bH ?_
          exact aH (aX (aG (⟨rfl, _, (oI h1).symm, aW, hO, hN⟩)))
        refine aU aF 4 [] [(9, (eI (wR (a7 + aQ))))] ?_
        refine aU aF 3 [] [(54, (aK (decide ((wR (a7 + aQ)) < n1))))] ?_
        refine bK h1 (fun h1 => ?_) (fun h1 => ?_)
        · refine aV aF 6 ?_
          refine bP 5 ?_
          obtain ⟨x6, hx7, h1⟩ := bB h1
          refine rE [(lo0p, 2, List.map aE x6)] 0 (rG lo0p aC a7 (wR (a7 + aQ)) n1 cmp2_f cmp2_a cmp2_c cmp2 cmp2_h _ hx7) hO ?_
          intro H hO hl8
          simp only [List.length_map] at hl8
          replace hN := hl8.trans hN
          refine cT ?_
          refine cV (l := [(0, (.msl 2 lo0p 0 (List.length x6))), (1, (eI n1)), (2, (.fn (.func cmp2_f) cmp2_a cmp2_c)), (6, (eI aQ))]) ⟨[(0, (.msl 2 lo0p 0 (List.length aC))), (1, (eI n1)), (2, (.fn (.func cmp2_f) cmp2_a cmp2_c)), (6, (eI aQ))], by kernel_rfl, rfl, ⟨bA.eq (by simp [hl8]), bA.refl _, bA.refl _, bA.refl _, trivial⟩⟩ ?_
          exact aH (aG (⟨rfl, _, aW, hO, hN, h1⟩))
        refine bO ?_
        exact aH (aG (⟨rfl, _, aW, hO, hN, h1⟩))
      refine bT 4 ?_
      refine cS [(0, (.msl 2 lo0p 0 (List.length aC))), (1, (eI n1)), (2, (.fn (.func cmp2_f) cmp2_a cmp2_c)), (6, (eI aQ)), (7, (eI (0 : Int))), (8, (eI (wR ((2 : Int) * aQ))))] ?_
      refine cG (fun T H => ∃ aC : List aD, ∃ a7 : Int, ∃ b8 : Int, Has T [(0, (.msl 2 lo0p 0 (List.length aC))), (1, (eI n1)), (2, (.fn (.func cmp2_f) cmp2_a cmp2_c)), (6, (eI aQ)), (7, (eI a7)), (8, (eI b8))] ∧ aL ⟨H0, [lo0p], []⟩ H [(lo0p, 2, List.map aE aC)] ∧ List.length aC = N0 ∧ jD cmp2 aC n1 aQ a7 b8 = some out1) ?_ ⟨aC, (0 : Int), wR ((2 : Int) * aQ), aW, hO, hN, h1⟩
      clear hO hN h1
      rintro T H ⟨aC, a7, b8, hT, hO, hN, h1⟩
      refine bC hT ?_
      clear hT
      unfold jD at h1
      obtain ⟨rr1, hl1, h1⟩ := bB h1
      refine cZ (fun (s : List aD × Int × Int) T H => Has T [(0, (.msl 2 lo0p 0 (List.length s.1))), (1, (eI n1)), (2, (.fn (.func cmp2_f) cmp2_a cmp2_c)), (6, (eI aQ)), (7, (eI s.2.1)), (8, (eI s.2.2))] ∧ aL ⟨H0, [lo0p], []⟩ H [(lo0p, 2, List.map aE s.1)] ∧ List.length s.1 = N0) hl1 ⟨aW, hO, hN⟩ ?_
      clear hO hN
      rintro k1 s out2 T H ⟨hT, hO, hN⟩ h2 ho1
      obtain ⟨aC, a7, b8⟩ := s
      replace h2 : jG cmp2 n1 aQ aC a7 b8 = some out2 := h2
      try dsimp only at hT
      refine bC hT ?_
      clear hT
      unfold jG at h2
      refine aN ?_
      refine aU aF 3 [] [(35, (aK (decide (b8 ≤ n1))))] ?_
      refine bK h2 (fun h2 => ?_) (fun h2 => ?_)
      · refine bO ?_
        refine bL [(0, (.msl 2 lo0p 0 (List.length aC))), (1, (eI n1)), (2, (.fn (.func cmp2_f) cmp2_a cmp2_c)), (6, (eI aQ)), (7, (eI a7)), (8, (eI b8))] ?_
        refine bT 5 ?_
        refine aN ?_
        refine aV aF 8 ?_
        refine bP 7 ?_
        obtain ⟨x10, hx11, h2⟩ := bB h2
        refine rE [(lo0p, 2, List.map aE x10)] 0 (rG lo0p aC a7 (wR (a7 + aQ)) b8 cmp2_f cmp2_a cmp2_c cmp2 cmp2_h _ hx11) hO ?_
        intro H hO hl12
        simp only [List.length_map] at hl12
        replace hN := hl12.trans hN
        refine cT ?_
        refine cV (l := [(0, (.msl 2 lo0p 0 (List.length x10))), (1, (eI n1)), (2, (.fn (.func cmp2_f) cmp2_a cmp2_c)), (6, (eI aQ)), (8, (eI b8))]) ⟨[(0, (.msl 2 lo0p 0 (List.length aC))), (1, (eI n1)), (2, (.fn (.func cmp2_f) cmp2_a cmp2_c)), (6, (eI aQ)), (8, (eI b8))], by kernel_rfl, rfl, ⟨bA.eq (by simp [hl12]), bA.refl _, bA.refl _, bA.refl _, bA.refl _, trivial⟩⟩ ?_
        refine aH (aG (?_))
        refine aU aF 2 [] [(7, (eI b8))] ?_
        refine aV aF 5 ?_
        refine bH ?_
        exact aH (aX (aG (⟨rfl, _, (oI h2).symm, aW, hO, hN⟩)))
      refine cX 4 ?_
      obtain rfl := oI h2
      obtain rfl : _ = rr1 := ho1
      replace h1 : fQ cmp2 aC n1 aQ a7 = some out1 := h1
      exact aH (aS (aS (bQ (aG (⟨rfl, _, _, aW, hO, hN, h1⟩)))))
    refine cX 2 ?_
    obtain rfl := oI h1
    obtain rfl : _ = rr0 := ho0
    replace h0 : some aC = some r := h0
    obtain rfl := oI h0
    exact aH (aS (aS (bQ (tR (x := (.tup [])) (by kernel_rfl) (bA.refl _) ⟨rfl, hO.ext, hO.at 0 (by kernel_rfl), by first | rfl | (simp only [List.length_map]; exact hN.trans hN0)⟩))))
  refine bT 0 ?_
  refine cS [(0, (.msl 2 lo0p 0 (List.length aC))), (1, (eI n1)), (2, (.fn (.func cmp2_f) cmp2_a cmp2_c)), (6, (eI (20 : Int))), (7, (eI (0 : Int))), (8, (eI (20 : Int)))] ?_
  refine cG (fun T H => ∃ aC : List aD, ∃ aQ : Int, ∃ a7 : Int, ∃ b8 : Int, Has T [(0, (.msl 2 lo0p 0 (List.length aC))), (1, (eI n1)), (2, (.fn (.func cmp2_f) cmp2_a cmp2_c)), (6, (eI aQ)), (7, (eI a7)), (8, (eI b8))] ∧ aL ⟨H0, [lo0p], []⟩ H [(lo0p, 2, List.map aE aC)] ∧ List.length aC = N0 ∧ jX cmp2 aC n1 aQ a7 b8 = some r) ?_ ⟨aC, (20 : Int), (0 : Int), (20 : Int), aW, hO, hN, h0⟩
  clear hO hN h0
  rintro T H ⟨aC, aQ, a7, b8, hT, hO, hN, h0⟩
  refine bC hT ?_
  clear hT
  unfold jX at h0
  obtain ⟨rr0, hl0, h0⟩ := bB h0
  refine cZ (fun (s : List aD × Int × Int) T H => Has T [(0, (.msl 2 lo0p 0 (List.length s.1))), (1, (eI n1)), (2, (.fn (.func cmp2_f) cmp2_a cmp2_c)), (6, (eI aQ)), (7, (eI s.2.1)), (8, (eI s.2.2))] ∧ aL ⟨H0, [lo0p], []⟩ H [(lo0p, 2, List.map aE s.1)] ∧ List.length s.1 = N0) hl0 ⟨aW, hO, hN⟩ ?_
  clear hO hN
  rintro k0 s out1 T H ⟨hT, hO, hN⟩ h1 ho0
  obtain ⟨aC, a7, b8⟩ := s
  replace h1 : jR cmp2 n1 aQ aC a7 b8 = some out1 := h1
  try dsimp only at hT
  refine bC hT ?_
  clear hT
  unfold jR at h1
  refine aN ?_
  refine aU aF 3 [] [(13, (aK (decide (b8 ≤ n1))))] ?_
  refine bK h1 (fun h1 => ?_) (fun h1 => ?_)
  · refine bO ?_
    refine bL [(0, (.msl 2 lo0p 0 (List.length aC))), (1, (eI n1)), (2, (.fn (.func cmp2_f) cmp2_a cmp2_c)), (6, (eI aQ)), (7, (eI a7)), (8, (eI b8))] ?_
    refine bT 1 ?_
    refine aN ?_
    refine aV aF 5 ?_
    refine bP 4 ?_
    obtain ⟨x14, hx15, h1⟩ := bB h1
    refine rE [(lo0p, 2, List.map aE x14)] 0 (oY lo0p aC a7 b8 cmp2_f cmp2_a cmp2_c cmp2 cmp2_h _ hx15) hO ?_
    intro H hO hl16
    simp only [List.length_map] at hl16
    replace hN := hl16.trans hN
    refine cT ?_
    refine cV (l := [(0, (.msl 2 lo0p 0 (List.length x14))), (1, (eI n1)), (2, (.fn (.func cmp2_f) cmp2_a cmp2_c)), (6, (eI aQ)), (8, (eI b8))]) ⟨[(0, (.msl 2 lo0p 0 (List.length aC))), (1, (eI n1)), (2, (.fn (.func cmp2_f) cmp2_a cmp2_c)), (6, (eI aQ)), (8, (eI b8))], by kernel_rfl, rfl, ⟨bA.eq (by simp [hl16]), bA.refl _, bA.refl _, bA.refl _, bA.refl _, trivial⟩⟩ ?_
    refine aH (aG (?_))
    refine aU aF 2 [] [(7, (eI b8))] ?_
    refine aV aF 4 ?_
    refine bH ?_
    exact aH (aX (aG (⟨rfl, _, (oI h1).symm, aW, hO, hN⟩)))
  refine cX 0 ?_
  obtain rfl := oI h1
  obtain rfl : _ = rr0 := ho0
  replace h0 : fN cmp2 aC n1 aQ a7 = some r := h0
  exact aH (aS (aS (bQ (aG (⟨rfl, _, _, _, aW, hO, hN, h0⟩)))))

theorem uG (lo0p : Nat) (x0 : (List aD)) (cmp1_f : Nat) (cmp1_a cmp1_c : List V) (cmp1 : aD → aD → Option Int) (cmp1_h : ∀ a0 a1 r, cmp1 a0 a1 = some r → cE Try.prog cmp1_f (cmp1_a ++ [(aE a0), (aE a1)] ++ cmp1_c) (eI r)) (r : List aD) (h0 : dO x0 cmp1 = some r) : nT Try.prog 70 lo0p 2 (List.map aE x0) (List.map aE r) [(.msl 2 lo0p 0 (List.length x0)), (.fn (.func cmp1_f) cmp1_a cmp1_c)] (.tup []) := by
  intro H0 hl0
  refine cF Try.func70 ?_
  have hO := aL.qX hl0
  clear hl0
  obtain ⟨N0, hN0⟩ : ∃ n, n = List.length x0 := ⟨_, rfl⟩
  have hN : List.length x0 = N0 := hN0.symm
  unfold dO at h0
  refine aV aF 5 ?_
  refine bP 4 ?_
  obtain ⟨x1, hx2, h0⟩ := bB h0
  refine rE [(lo0p, 2, List.map aE x1)] 0 (AL lo0p x0 (lN x0) cmp1_f cmp1_a cmp1_c cmp1 cmp1_h _ hx2) hO ?_
  intro H hO hl3
  simp only [List.length_map] at hl3
  replace hN := hl3.trans hN
  refine cT ?_
  refine cV (l := [(0, (.msl 2 lo0p 0 (List.length x1)))]) ⟨[(0, (.msl 2 lo0p 0 (List.length x0)))], by kernel_rfl, rfl, ⟨bA.eq (by simp [hl3]), trivial⟩⟩ ?_
  obtain rfl := oI h0
  exact aH (tR (x := (.tup [])) (by kernel_rfl) (bA.refl _) ⟨rfl, hO.ext, hO.at 0 (by kernel_rfl), by simp only [List.length_map]; exact hN.trans hN0⟩)

theorem RW (a0 : aD) (b1 : aD) (r : Int) (h0 : oP a0 b1 = some r) : cE Try.prog 71 [(aE a0), (aE b1)] (eI r) := by
  intro H0
  refine cF Try.func71 ?_
  have hO := aL.start H0
  unfold oP at h0
  refine aN ?_
  refine aV aF 3 ?_
  refine sE 2 (aE a0) ?_
  refine sE 2 (aE b1) ?_
  refine bH ?_
  refine bL [(2, (.rp (aE a0))), (3, (.rp (aE b1)))] ?_
  refine aN ?_
  refine aV aF 6 ?_
  refine bP 4 ?_
  obtain ⟨x1, hx2, h0⟩ := bB h0
  refine dB (yG a0.At b1.At _ hx2) hO ?_
  intro H hO
  refine bH ?_
  refine bL [(4, (eI x1))] ?_
  refine bM ?_
  obtain rfl := oI h0
  exact aH (Q_r hO)

theorem XD (f0 : (List aD)) (r : ((List aD) × Int)) (h0 : vZ f0 = some r) : cE Try.prog 72 [(eL aE f0)] (.tup [(eL aE r.1), (eI r.2)]) := by
  intro H0
  refine cF Try.func72 ?_
  have hO := aL.start H0
  unfold vZ at h0
  refine aU aF 2 [] [] ?_
  refine aN ?_
  refine aN ?_
  refine aV aF 3 ?_
  refine bP 1 ?_
  obtain ⟨x1, hx2, h0⟩ := bB h0
  refine dB (PA f0 _ hx2) hO ?_
  intro H hO
  refine bH ?_
  refine bS [] [(6, (aK (!x1)))] ?_
  refine bK h0 (fun h0 => ?_) (fun h0 => ?_)
  · refine bV aF 2 [(2, (.sl true 0 (fun _ => .bad))), (3, (eI (7 : Int)))] ?_
    refine bM ?_
    refine cV (l := [(2, (eL aE ([]))), (3, (eI (7 : Int)))]) ⟨[(2, (.sl true 0 (fun _ => .bad))), (3, (eI (7 : Int)))], by kernel_rfl, rfl, ⟨iY, bA.refl _, trivial⟩⟩ ?_
    obtain rfl := oI h0
    exact aH (aP (Q_r hO))
  refine bO ?_
  refine bL [(0, (eL aE f0))] ?_
  refine bV aF 3 [(2, (eL aE f0)), (3, (eI (0 : Int)))] ?_
  refine bM ?_
  obtain rfl := oI h0
  exact aH (Q_r hO)

theorem WY (l0 : (List aD)) (r : ((List aD) × Int)) (h0 : yJ l0 = some r) : cE Try.prog 42 [(eL aE l0)] (.tup [(eL aE r.1), (eI r.2)]) := by
  intro H0
  refine cF Try.func42 ?_
  have hO := aL.start H0
  unfold yJ at h0
  refine aU aF 2 [] [] ?_
  refine aN ?_
  refine aN ?_
  refine aV aF 2 ?_
  refine bP 1 ?_
  obtain ⟨x1, hx2, h0⟩ := bB h0
  refine dB (oQ l0 66 [] [] (fun y0 => vG y0) (fun y0 r h => RV y0 r h) _ hx2) hO ?_
  intro H hO
  refine cT ?_
  refine bS [] [(9, (aK x1))] ?_
  refine bK h0 (fun h0 => ?_) (fun h0 => ?_)
  · refine bV aF 2 [(2, (.sl true 0 (fun _ => .bad))), (3, (eI (2 : Int)))] ?_
    refine bM ?_
    refine cV (l := [(2, (eL aE ([]))), (3, (eI (2 : Int)))]) ⟨[(2, (.sl true 0 (fun _ => .bad))), (3, (eI (2 : Int)))], by kernel_rfl, rfl, ⟨iY, bA.refl _, trivial⟩⟩ ?_
    obtain rfl := oI h0
    exact aH (aP (Q_r hO))
  refine bO ?_
  refine bL [(0, (eL aE l0))] ?_
  refine aN ?_
  refine aN ?_
  refine aV aF 2 ?_
  refine bP 1 ?_
  obtain ⟨x5, hx6, h0⟩ := bB h0
  refine dB (oQ l0 68 [] [] (fun y0 => vM y0) (fun y0 r h => RP y0 r h) _ hx6) hO ?_
  intro H hO
  refine cT ?_
  refine bS [] [(11, (aK x5))] ?_
  refine bK h0 (fun h0 => ?_) (fun h0 => ?_)
  · refine bV aF 2 [(2, (.sl true 0 (fun _ => .bad))), (3, (eI (13 : Int)))] ?_
    refine bM ?_
    refine cV (l := [(2, (eL aE ([]))), (3, (eI (13 : Int)))]) ⟨[(2, (.sl true 0 (fun _ => .bad))), (3, (eI (13 : Int)))], by kernel_rfl, rfl, ⟨iY, bA.refl _, trivial⟩⟩ ?_
    obtain rfl := oI h0
    exact aH (aP (Q_r hO))
  refine bO ?_
  refine bL [(0, (eL aE l0))] ?_
  refine aN ?_
  refine aV aF 3 ?_
  refine bP 1 ?_
  obtain ⟨x9, hx10, h0⟩ := bB h0
  refine PR (L' := fun lo11 => [(lo11, 2, List.map aE x9)]) 2 (List.map aE x9) 69 [(eL aE l0)] (fun lo11 => (.msl 2 lo11 0 (List.length x9))) (by kernel_rfl) (by kernel_rfl) (AD l0 _ hx10) hO (fun _ => by kernel_rfl) ?_
  intro lo11 H hO
  refine bH ?_
  refine bL [(4, (.msl 2 lo11 0 (List.length x9)))] ?_
  refine aN ?_
  refine aV aF 2 ?_
  refine bP 1 ?_
  obtain ⟨x12, hx13, h0⟩ := bB h0
  refine rE [(lo11, 2, List.map aE x12)] 0 (uG lo11 x9 71 [] [] (fun y0 y1 => oP y0 y1) (fun y0 y1 r h => RW y0 y1 r h) _ hx13) hO ?_
  intro H hO hl14
  simp only [List.length_map] at hl14
  refine cT ?_
  refine cV (l := [(4, (.msl 2 lo11 0 (List.length x12)))]) ⟨[(4, (.msl 2 lo11 0 (List.length x9)))], by kernel_rfl, rfl, ⟨bA.eq (by simp [hl14]), trivial⟩⟩ ?_
  refine aH (aG (?_))
  refine aN ?_
  refine aV aF 2 ?_
  refine kM [] 2 ?_
  refine bH ?_
  refine bS [] [(5, (.sl true 0 (fun _ => .bad)))] ?_
  refine cK (fun T H => ∃ out5 : List aD, ∃ lo15 : Nat, Has T [(5, (.msl 2 lo15 0 (List.length out5)))] ∧ aL ⟨H0, [], []⟩ H [(lo15, 2, List.map aE out5)] ∧ xO out5 = some r) ?_ ?_
  · clear hO h0
    rintro T H ⟨out5, lo15, hT, hO, h0⟩
    refine bC hT ?_
    clear hT
    unfold xO at h0
    refine aN ?_
    refine aV aF 6 ?_
    refine uI (e := aE) out5 0 5 2 lo15 (List.length out5) [] (by kernel_rfl) hO (by kernel_rfl) (by kernel_rfl) (by kernel_rfl) (by kernel_rfl) ?_
    intro H hO
    refine bP 1 ?_
    obtain ⟨x16, hx17, h0⟩ := bB h0
    refine dB (XD out5 _ hx17) hO ?_
    intro H hO
    refine bH ?_
    refine bL [(2, (eL aE x16.1)), (3, (eI x16.2))] ?_
    refine bM ?_
    obtain rfl := oI h0
    exact aH (Q_r hO)
  refine aU aF 1 [] [(6, (eI (0 : Int)))] ?_
  refine bT 0 ?_
  refine cS [(4, (.msl 2 lo11 0 (List.length x12))), (5, (.sl true 0 (fun _ => .bad))), (6, (eI (0 : Int)))] ?_
  refine vJ (el := (fun _ => .bad)) 1 5 2 hO (by kernel_rfl) ?_
  intro lo40 H41 hO
  refine cG (fun T H => ∃ all4 : List aD, ∃ out5 : List aD, ∃ i6 : Int, ∃ lo21 : Nat, ∃ lo22 : Nat, Has T [(4, (.msl 2 lo21 0 (List.length all4))), (5, (.msl 2 lo22 0 (List.length out5))), (6, (eI i6))] ∧ aL ⟨H0, [], []⟩ H [(lo21, 2, List.map aE all4), (lo22, 2, List.map aE out5)] ∧ BB all4 out5 i6 = some r) ?_ ⟨x12, ([] : List aD), (0 : Int), lo11, lo40, aW, hO, h0⟩
  clear hO h0
  rintro T H ⟨all4, out5, i6, lo21, lo22, hT, hO, h0⟩
  refine bC hT ?_
  clear hT
  unfold BB at h0
  obtain ⟨rr0, hl0, h0⟩ := bB h0
  refine cZ (fun (s : List aD × List aD × Int) T H => ∃ lo21 : Nat, ∃ lo22 : Nat, Has T [(4, (.msl 2 lo21 0 (List.length s.1))), (5, (.msl 2 lo22 0 (List.length s.2.1))), (6, (eI s.2.2))] ∧ aL ⟨H0, [], []⟩ H [(lo21, 2, List.map aE s.1), (lo22, 2, List.map aE s.2.1)]) hl0 ⟨lo21, lo22, aW, hO⟩ ?_
  clear hO
  rintro k0 s out1 T H ⟨lo21, lo22, hT, hO⟩ h1 ho0
  obtain ⟨all4, out5, i6⟩ := s
  replace h1 : nA all4 out5 i6 = some out1 := h1
  try dsimp only at hT
  refine bC hT ?_
  clear hT
  unfold nA at h1
  refine aN ?_
  refine aU aF 4 [] [(20, (aK (decide (i6 < (lN all4)))))] ?_
  refine bK h1 (fun h1 => ?_) (fun h1 => ?_)
  · refine bO ?_
    refine bL [(4, (.msl 2 lo21 0 (List.length all4))), (5, (.msl 2 lo22 0 (List.length out5))), (6, (eI i6))] ?_
    refine bT 1 ?_
    refine aN ?_
    refine aV aF 8 ?_
    obtain ⟨c24, h1⟩ := bG h1
    refine iB 4 [0 ≤ i6 ∧ i6 < (lN all4)] ⟨c24, trivial⟩ ?_
    refine eF 0 lo21 2 (0 + Int.toNat i6) (aE (gD all4 i6)) (eI ((gD all4 i6).At)) (List.map aE all4) hO (cD c24) ?_
    refine bP 6 ?_
    refine nH 2 (aE (aD.mk 0 0)) (by kernel_rfl) (by kernel_rfl) hO ?_
    intro lo25 H hO
    refine mQ 2 lo25 2 0 (aE (aD.mk 0 0)) (aE (aD.mk ((gD all4 i6).At) 0)) [(aE (aD.mk 0 0))] [(lo21, 2, List.map aE all4), (lo22, 2, List.map aE out5), (lo25, 2, [(aE (aD.mk ((gD all4 i6).At) 0))])] hO rfl (by kernel_rfl) ?_
    intro H hO
    refine cT ?_
    refine bS [] [(7, (.lp lo25 0 0))] ?_
    refine cK (fun T H => ∃ all4 : List aD, ∃ out5 : List aD, ∃ i6 : Int, ∃ j7 : aD, ∃ lo26 : Nat, ∃ lo27 : Nat, Has T [(4, (.msl 2 lo26 0 (List.length all4))), (5, (.msl 2 lo27 0 (List.length out5))), (6, (eI i6)), (7, (.lp lo25 0 0))] ∧ aL ⟨H0, [], []⟩ H [(lo26, 2, List.map aE all4), (lo27, 2, List.map aE out5), (lo25, 2, [(aE j7)])] ∧ xC all4 out5 i6 j7 = some out1) ?_ ?_
    · clear hO h1
      rintro T H ⟨all4, out5, i6, j7, lo26, lo27, hT, hO, h1⟩
      refine bC hT ?_
      clear hT
      unfold xC at h1
      refine aN ?_
      refine aV aF 8 ?_
      refine bP 1 ?_
      refine eF 2 lo25 2 0 (aE j7) (eI j7.Net) [(aE j7)] hO rfl ?_
      refine bP 5 ?_
      refine wB [(55, true)] 2 lo25 2 0 (aE j7) (eI j7.At) [(aE j7)] (by kernel_rfl) (by kernel_rfl) hO (by kernel_rfl) (!decide (j7.Net = (0 : Int))) (by kernel_rfl) (fun hb28 => rfl) ?_
      refine bH ?_
      refine bS [] [(59, (aK ((!decide (j7.Net = (0 : Int))) && (decide (j7.At < (1125899906842624 : Int))))))] ?_
      refine bK h1 (fun h1 => ?_) (fun h1 => ?_)
      · refine aV aF 5 ?_
        refine bP 1 ?_
        refine eF 2 lo25 2 0 (aE j7) (aE j7) [(aE j7)] hO rfl ?_
        refine kM [(aE j7)] 2 ?_
        obtain ⟨c31, h1⟩ := bG h1
        refine wD aE out5 ([j7]) 1 lo27 2 16 (dA [(aE j7)]) (fun lo30 => [(lo26, 2, List.map aE all4), (lo30, 2, List.map aE (out5 ++ ([j7]))), (lo25, 2, [(aE j7)])]) hO (by kernel_rfl) c31 ?_
        intro lo30 H hO
        refine bH ?_
        replace hO := hO.pick (L' := [(lo26, 2, List.map aE all4), (lo30, 2, List.map aE (out5 ++ ([j7])))]) [0, 1] (by decide) (by kernel_rfl)
        exact aH (aX (aG (⟨rfl, _, (oI h1).symm, _, _, aW, hO⟩)))
      refine bO ?_
      replace hO := hO.pick (L' := [(lo26, 2, List.map aE all4), (lo27, 2, List.map aE out5)]) [0, 1] (by decide) (by kernel_rfl)
      exact aH (aX (aG (⟨rfl, _, (oI h1).symm, _, _, aW, hO⟩)))
    refine bT 2 ?_
    refine cS [(4, (.msl 2 lo21 0 (List.length all4))), (5, (.msl 2 lo22 0 (List.length out5))), (6, (eI i6)), (7, (.lp lo25 0 0))] ?_
    refine cG (fun T H => ∃ all4 : List aD, ∃ out5 : List aD, ∃ i6 : Int, ∃ j7 : aD, ∃ lo34 : Nat, ∃ lo35 : Nat, Has T [(4, (.msl 2 lo34 0 (List.length all4))), (5, (.msl 2 lo35 0 (List.length out5))), (6, (eI i6)), (7, (.lp lo25 0 0))] ∧ aL ⟨H0, [], []⟩ H [(lo34, 2, List.map aE all4), (lo35, 2, List.map aE out5), (lo25, 2, [(aE j7)])] ∧ BO all4 out5 i6 j7 = some out1) ?_ ⟨all4, out5, i6, aD.mk ((gD all4 i6).At) 0, lo21, lo22, aW, hO, h1⟩
    clear hO h1
    rintro T H ⟨all4, out5, i6, j7, lo34, lo35, hT, hO, h1⟩
    refine bC hT ?_
    clear hT
    unfold BO at h1
    obtain ⟨rr1, hl1, h1⟩ := bB h1
    refine cZ (fun (s : List aD × List aD × Int × aD) T H => ∃ lo34 : Nat, ∃ lo35 : Nat, Has T [(4, (.msl 2 lo34 0 (List.length s.1))), (5, (.msl 2 lo35 0 (List.length s.2.1))), (6, (eI s.2.2.1)), (7, (.lp lo25 0 0))] ∧ aL ⟨H0, [], []⟩ H [(lo34, 2, List.map aE s.1), (lo35, 2, List.map aE s.2.1), (lo25, 2, [(aE s.2.2.2)])]) hl1 ⟨lo34, lo35, aW, hO⟩ ?_
    clear hO
    rintro k1 s out2 T H ⟨lo34, lo35, hT, hO⟩ h2 ho1
    obtain ⟨all4, out5, i6, j7⟩ := s
    replace h2 : kW all4 out5 i6 j7 = some out2 := h2
    try dsimp only at hT
    refine bC hT ?_
    clear hT
    unfold kW at h2
    refine aN ?_
    refine aN ?_
    obtain ⟨c36, h2⟩ := bG h2
    refine fB (fC []) aF 14 ?_
    refine yR (K := fun T H => Has (lift T) [(4, (.msl 2 lo34 0 (List.length all4))), (5, (.msl 2 lo35 0 (List.length out5))), (6, (eI i6)), (7, (.lp lo25 0 0)), (40, (aK ((decide (i6 < (lN all4))) && (decide (((gD all4 i6).At) = j7.At)))))] ∧ aL ⟨H0, [], []⟩ H [(lo34, 2, List.map aE all4), (lo35, 2, List.map aE out5), (lo25, 2, [(aE j7)])]) ?_ ?_
    · refine sG 5 ?_
      refine uB (t := 31) (e := decide (i6 < (lN all4))) (by kernel_rfl) (fun hg37 => ?_) (fun hg37 => ?_)
      · refine cW 9 [0 ≤ i6 ∧ i6 < (lN all4)] ⟨(c36 hg37), trivial⟩ ?_
        refine JI 0 lo34 2 (0 + Int.toNat i6) (aE (gD all4 i6)) (eI ((gD all4 i6).At)) (List.map aE all4) hO (cD (c36 hg37)) ?_
        refine sG 11 ?_
        refine JI 2 lo25 2 0 (aE j7) (eI j7.At) [(aE j7)] hO rfl ?_
        refine jB ?_
        exact ⟨⟨[(4, (.msl 2 lo34 0 (List.length all4))), (5, (.msl 2 lo35 0 (List.length out5))), (6, (eI i6)), (7, (.lp lo25 0 0)), (40, (aK (decide (((gD all4 i6).At) = j7.At))))], by kernel_rfl, rfl, ⟨bA.refl _, bA.refl _, bA.refl _, bA.refl _, bA.eq (congrArg aK (tO hg37 rfl).symm), trivial⟩⟩, hO⟩
      refine jB ?_
      exact ⟨⟨[(4, (.msl 2 lo34 0 (List.length all4))), (5, (.msl 2 lo35 0 (List.length out5))), (6, (eI i6)), (7, (.lp lo25 0 0)), (40, (aK false))], by kernel_rfl, rfl, ⟨bA.refl _, bA.refl _, bA.refl _, bA.refl _, bA.eq (congrArg aK (tO hg37 rfl).symm), trivial⟩⟩, hO⟩
    · rintro T H ⟨hT, hO⟩
      refine cV hT ?_
      clear hT
      refine aH (aG ?_)
      refine bK h2 (fun h2 => ?_) (fun h2 => ?_)
      · refine bO ?_
        refine bL [(4, (.msl 2 lo34 0 (List.length all4))), (5, (.msl 2 lo35 0 (List.length out5))), (6, (eI i6)), (7, (.lp lo25 0 0))] ?_
        refine aN ?_
        refine bT 3 ?_
        refine fB (fC []) aF 10 ?_
        refine sG 1 ?_
        refine kO 2 lo25 2 0 (aE j7) (eI j7.Net) [(aE j7)] hO rfl ?_
        obtain ⟨c39, h2⟩ := bG h2
        refine cW 6 [0 ≤ i6 ∧ i6 < (lN all4)] ⟨c39, trivial⟩ ?_
        refine kO 0 lo34 2 (0 + Int.toNat i6) (aE (gD all4 i6)) (eI ((gD all4 i6).Net)) (List.map aE all4) hO (cD c39) ?_
        refine sG 9 ?_
        refine wJ 2 lo25 2 0 (aE j7) (aE (aD.mk j7.At (wR (j7.Net + ((gD all4 i6).Net))))) [(aE j7)] [(lo34, 2, List.map aE all4), (lo35, 2, List.map aE out5), (lo25, 2, [(aE (aD.mk j7.At (wR (j7.Net + ((gD all4 i6).Net)))))])] hO rfl (by kernel_rfl) ?_
        intro H hO
        refine CS (by kernel_rfl) ?_
        refine cO [(4, (.msl 2 lo34 0 (List.length all4))), (5, (.msl 2 lo35 0 (List.length out5))), (6, (eI i6)), (7, (.lp lo25 0 0))] ?_
        refine aH (aX (aG (?_)))
        refine aV aF 3 ?_
        refine bH ?_
        exact aH (aG (⟨rfl, _, (oI h2).symm, _, _, aW, hO⟩))
      refine cX 2 ?_
      obtain rfl := oI h2
      obtain rfl : _ = rr1 := ho1
      replace h1 : xC all4 out5 i6 j7 = some out1 := h1
      exact aH (aS (aS (bQ (aG (⟨rfl, _, _, _, _, _, _, aW, hO, h1⟩)))))
  refine cX 0 ?_
  replace hO := hO.pick (L' := [(lo22, 2, List.map aE out5)]) [1] (by decide) (by kernel_rfl)
  obtain rfl := oI h1
  obtain rfl : _ = rr0 := ho0
  replace h0 : xO out5 = some r := h0
  exact aH (aS (aS (bQ (aG (⟨rfl, _, _, aW, hO, h0⟩)))))

theorem RY (f0 : (List aD)) (r : ((List aD) × Int)) (h0 : vS f0 = some r) : cE Try.prog 41 [(eL aE f0)] (.tup [(eL aE r.1), (eI r.2)]) := by
  intro H0
  refine cF Try.func41 ?_
  have hO := aL.start H0
  unfold vS at h0
  refine aU aF 2 [] [] ?_
  refine aN ?_
  refine aV aF 6 ?_
  refine bP 1 ?_
  obtain ⟨x1, hx2, h0⟩ := bB h0
  refine dB (WY f0 _ hx2) hO ?_
  intro H hO
  refine bH ?_
  refine bL [(2, (eL aE x1.1)), (3, (eI x1.2))] ?_
  refine bM ?_
  obtain rfl := oI h0
  exact aH (Q_r hO)

theorem WK (l0 : (List aB)) (r : ((List aB) × Int)) (h0 : yS l0 = some r) : cE Try.prog 20 [(eL aA l0)] (.tup [(eL aA r.1), (eI r.2)]) := by
  intro H0
  refine cF Try.func20 ?_
  have hO := aL.start H0
  unfold yS at h0
  refine aU aF 2 [] [] ?_
  refine aN ?_
  refine aN ?_
  refine aV aF 2 ?_
  refine bP 1 ?_
  obtain ⟨x1, hx2, h0⟩ := bB h0
  refine dB (oO l0 31 [] [] (fun y0 => vW y0) (fun y0 r h => RU y0 r h) _ hx2) hO ?_
  intro H hO
  refine cT ?_
  refine bS [] [(6, (aK x1))] ?_
  refine bK h0 (fun h0 => ?_) (fun h0 => ?_)
  · refine bV aF 2 [(2, (.sl true 0 (fun _ => .bad))), (3, (eI (2 : Int)))] ?_
    refine bM ?_
    refine cV (l := [(2, (eL aA ([]))), (3, (eI (2 : Int)))]) ⟨[(2, (.sl true 0 (fun _ => .bad))), (3, (eI (2 : Int)))], by kernel_rfl, rfl, ⟨iY, bA.refl _, trivial⟩⟩ ?_
    obtain rfl := oI h0
    exact aH (aP (Q_r hO))
  refine bO ?_
  refine bL [(0, (eL aA l0))] ?_
  refine aN ?_
  refine aN ?_
  refine aV aF 2 ?_
  refine bP 1 ?_
  obtain ⟨x5, hx6, h0⟩ := bB h0
  refine dB (oO l0 33 [] [] (fun y0 => vH y0) (fun y0 r h => RT y0 r h) _ hx6) hO ?_
  intro H hO
  refine cT ?_
  refine bS [] [(8, (aK x5))] ?_
  refine bK h0 (fun h0 => ?_) (fun h0 => ?_)
  · refine bV aF 2 [(2, (.sl true 0 (fun _ => .bad))), (3, (eI (13 : Int)))] ?_
    refine bM ?_
    refine cV (l := [(2, (eL aA ([]))), (3, (eI (13 : Int)))]) ⟨[(2, (.sl true 0 (fun _ => .bad))), (3, (eI (13 : Int)))], by kernel_rfl, rfl, ⟨iY, bA.refl _, trivial⟩⟩ ?_
    obtain rfl := oI h0
    exact aH (aP (Q_r hO))
  refine bO ?_
  refine bL [(0, (eL aA l0))] ?_
  refine aN ?_
  refine aV aF 3 ?_
  refine bP 1 ?_
  obtain ⟨x9, hx10, h0⟩ := bB h0
  refine PR (L' := fun lo11 => [(lo11, 3, List.map aA x9)]) 3 (List.map aA x9) 34 [(eL aA l0)] (fun lo11 => (.msl 3 lo11 0 (List.length x9))) (by kernel_rfl) (by kernel_rfl) (zZ l0 _ hx10) hO (fun _ => by kernel_rfl) ?_
  intro lo11 H hO
  refine bH ?_
  refine bL [(4, (.msl 3 lo11 0 (List.length x9)))] ?_
  refine aN ?_
  refine aV aF 2 ?_
  refine bP 1 ?_
  obtain ⟨x12, hx13, h0⟩ := bB h0
  refine rE [(lo11, 3, List.map aA x12)] 0 (uF lo11 x9 36 [] [] (fun y0 y1 => oR y0 y1) (fun y0 y1 r h => RZ y0 y1 r h) _ hx13) hO ?_
  intro H hO hl14
  simp only [List.length_map] at hl14
  refine cT ?_
  refine cV (l := [(4, (.msl 3 lo11 0 (List.length x12)))]) ⟨[(4, (.msl 3 lo11 0 (List.length x9)))], by kernel_rfl, rfl, ⟨bA.eq (by simp [hl14]), trivial⟩⟩ ?_
  refine aH (aG (?_))
  refine aN ?_
  refine aV aF 6 ?_
  refine uI (e := aA) x12 0 4 3 lo11 (List.length x12) [] (by kernel_rfl) hO (by kernel_rfl) (by kernel_rfl) (by kernel_rfl) (by kernel_rfl) ?_
  intro H hO
  refine bP 1 ?_
  obtain ⟨x15, hx16, h0⟩ := bB h0
  refine dB (SA x12 41 [] [] (fun y0 => vS y0) (fun y0 r h => RY y0 r h) _ hx16) hO ?_
  intro H hO
  refine bH ?_
  refine bL [(2, (eL aA x15.1)), (3, (eI x15.2))] ?_
  refine bM ?_
  obtain rfl := oI h0
  exact aH (Q_r hO)

theorem YV (a0 : (List aB)) (b1 : (List aB)) (r : ((List aB) × Int)) (h0 : AP a0 b1 = some r) : cE Try.prog 27 [(eL aA a0), (eL aA b1)] (.tup [(eL aA r.1), (eI r.2)]) := by
  intro H0
  refine cF Try.func27 ?_
  have hO := aL.start H0
  unfold AP at h0
  refine aU aF 2 [] [] ?_
  refine aN ?_
  refine aN ?_
  refine aV aF 8 ?_
  refine bP 1 ?_
  obtain ⟨x1, hx2, h0⟩ := bB h0
  refine dB (DP a0 _ hx2) hO ?_
  intro H hO
  refine bP 5 ?_
  obtain ⟨x4, hx5, h0⟩ := bB h0
  refine pM [(9, false)] 24 [(eL aA b1)] (aK x4) (!(!x1)) (by kernel_rfl) (by kernel_rfl) (by kernel_rfl) (fun hb6 => (DP b1 _ (qW hx5 hb6))) hO ?_
  intro H hO
  refine bH ?_
  refine bS [] [(13, (aK ((!x1) || (!x4))))] ?_
  refine bK h0 (fun h0 => ?_) (fun h0 => ?_)
  · refine bV aF 2 [(4, (.sl true 0 (fun _ => .bad))), (5, (eI (2 : Int)))] ?_
    refine bM ?_
    refine cV (l := [(4, (eL aA ([]))), (5, (eI (2 : Int)))]) ⟨[(4, (.sl true 0 (fun _ => .bad))), (5, (eI (2 : Int)))], by kernel_rfl, rfl, ⟨iY, bA.refl _, trivial⟩⟩ ?_
    obtain rfl := oI h0
    exact aH (aP (Q_r hO))
  refine bO ?_
  refine bL [(0, (eL aA a0)), (1, (eL aA b1))] ?_
  refine aN ?_
  refine aV aF 9 ?_
  refine bP 2 ?_
  refine kM [(eL aA a0), (eL aA b1)] 1 ?_
  obtain ⟨x8, hx9, h0⟩ := bB h0
  refine aEB 47 [(dA [(eL aA a0), (eL aA b1)])] (eL aA x8) (cE.sub (yP ([a0, b1]) _ hx9) ⟨EU (l := [a0, b1]), trivial⟩) hO ?_
  intro H hO
  obtain ⟨x11, hx12, h0⟩ := bB h0
  refine dB (WK x8 _ hx12) hO ?_
  intro H hO
  refine bH ?_
  refine bL [(4, (eL aA x11.1)), (5, (eI x11.2))] ?_
  refine bM ?_
  obtain rfl := oI h0
  exact aH (Q_r hO)

theorem DK (lo0p : Nat) (bF : Nat) (a0 : bN) (k1 : Int) (l2 : (List aB)) (r : (Int × bN)) (h0 : mC a0 k1 l2 = some r) : qE Try.prog 12 [(.lp lo0p 0 0), (eI k1), (eL aA l2)] [(lo0p, 1, [(.agg [(.msl 2 bF 0 (List.length a0.inputs))])]), (bF, 2, List.map aO a0.inputs)] (fun x L => ∃ tA : Nat, x = (eI r.1) ∧ L = [(lo0p, 1, [(.agg [(.msl 2 tA 0 (List.length r.2.inputs))])]), (tA, 2, List.map aO r.2.inputs)]) := by
  intro F H0 hO
  obtain ⟨Fh, Fe, Fg⟩ := F
  refine cF Try.func12 ?_
  unfold mC at h0
  refine aU aF 1 [] [] ?_
  refine aN ?_
  refine aV aF 9 ?_
  refine bP 2 ?_
  obtain ⟨x1, hx2, h0⟩ := bB h0
  refine wL [] [0, 1] (EJ lo0p bF a0 k1 _ hx2) hO ?_
  intro r5 L6 H hP7 hO
  obtain ⟨rfl, hP7⟩ := hP7
  replace hO : aL ⟨Fh, Fe, Fg⟩ H [(lo0p, 1, [(.agg [(.msl 2 bF 0 (List.length a0.inputs))])]), (bF, 2, List.map aO a0.inputs)] := hO
  rcases hP7 with ⟨hv3, rfl, c4⟩ | ⟨hv3, rfl⟩
  · replace h0 := zS (decide_eq_true hv3) h0
    refine bP 6 ?_
    refine nH 1 (.lit (.pointer none)) (by kernel_rfl) (by kernel_rfl) hO ?_
    intro lo8 H hO
    refine mQ 2 lo8 1 0 (.lit (.pointer none)) (.lp bF (0 + Int.toNat k1) 0) [(.lit (.pointer none))] [(lo0p, 1, [(.agg [(.msl 2 bF 0 (List.length a0.inputs))])]), (bF, 2, List.map aO a0.inputs), (lo8, 1, [(.lp bF (0 + Int.toNat k1) 0)])] hO rfl (by kernel_rfl) ?_
    intro H hO
    refine bH ?_
    refine bS [1] [(7, (.lp lo8 0 0)), (8, (eI x1))] ?_
    refine aN ?_
    refine bT 0 ?_
    refine aU aF 3 [] [(16, (aK (!decide (x1 = (0 : Int)))))] ?_
    refine bK h0 (fun h0 => ?_) (fun h0 => ?_)
    · refine aN ?_
      refine aV aF 2 ?_
      refine bH ?_
      refine cO [(0, (.lp lo0p 0 0)), (6, (eI x1))] ?_
      replace hO := hO.pick (L' := [(lo0p, 1, [(.agg [(.msl 2 bF 0 (List.length a0.inputs))])]), (bF, 2, List.map aO a0.inputs)]) [0, 1] (by decide) (by kernel_rfl)
      refine aH (aG (?_))
      refine bM ?_
      obtain rfl := oI h0
      exact aH (bJ (aP (mO hO ⟨bF, rfl, rfl⟩)))
    refine aN ?_
    refine aV aF 4 ?_
    refine bP 1 ?_
    obtain ⟨x10, hx11, h0⟩ := bB h0
    refine dB (DP l2 _ hx11) hO ?_
    intro H hO
    refine bH ?_
    refine bS [8, 16] [(20, (aK (!x10)))] ?_
    refine bK h0 (fun h0 => ?_) (fun h0 => ?_)
    · refine aN ?_
      refine aV aF 1 ?_
      refine bH ?_
      refine cO [(0, (.lp lo0p 0 0)), (6, (eI (2 : Int)))] ?_
      replace hO := hO.pick (L' := [(lo0p, 1, [(.agg [(.msl 2 bF 0 (List.length a0.inputs))])]), (bF, 2, List.map aO a0.inputs)]) [0, 1] (by decide) (by kernel_rfl)
      refine aH (aG (?_))
      refine bM ?_
      obtain rfl := oI h0
      exact aH (bJ (aP (mO hO ⟨bF, rfl, rfl⟩)))
    refine aN ?_
    refine cS [(0, (.lp lo0p 0 0)), (2, (eL aA l2)), (7, (.lp lo8 0 0)), (20, (aK (!x10)))] ?_
    refine KG 2 2 7 1 lo8 (.lp bF (0 + Int.toNat k1) 0) [(lo0p, 1, [(.agg [(.msl 2 bF 0 (List.length a0.inputs))])]), (bF, 2, List.map aO a0.inputs)] hO (by kernel_rfl) (by kernel_rfl) (by kernel_rfl) ?_
    intro H hO
    refine aV aF 4 ?_
    refine bP 2 ?_
    obtain ⟨x14, hx15, h0⟩ := bB h0
    refine aCg (fun (_ : Unit) G' => G' = up [(lo0p, 1, [(.agg [(.msl 2 bF 0 (List.length a0.inputs))])]), (bF, 2, List.map aO a0.inputs)] ++ Fg) [(lo0p, 1, [(.agg [(.msl 2 bF 0 (List.length a0.inputs))])]), (bF, 2, List.map aO a0.inputs)] () x14.1 25 [(eL aA l2), (.fn (.func 26) [] [(.rp (.lp bF (0 + Int.toNat k1) 0))])] (aK x14.2) (by kernel_rfl) (by kernel_rfl) (uH (fun (_ : Unit) G' => G' = up [(lo0p, 1, [(.agg [(.msl 2 bF 0 (List.length a0.inputs))])]), (bF, 2, List.map aO a0.inputs)] ++ Fg) l2 (.fn (.func 26) [] [(.rp (.lp bF (0 + Int.toNat k1) 0))]) (fun (st : Unit) y0 => (mR a0.inputs k1 y0).bind fun o => some (st, o)) (fun st y0 st2 rr hr => (IZ bF a0.inputs k1 c4 y0 _ (aD7 hr)).toV (ys := []) (zs := [aA y0]) (cs := [(.rp (.lp bF (0 + Int.toNat k1) 0))]) (fun Gx hG => ⟨up [(lo0p, 1, [(.agg [(.msl 2 bF 0 (List.length a0.inputs))])])], up [] ++ Fg, hG, rfl⟩)) () _ hx15) hO rfl (fun _ h => h) ?_
    intro H hO
    refine bH ?_
    refine bS [20] [(24, (aK x14.2))] ?_
    refine bK h0 (fun h0 => ?_) (fun h0 => ?_)
    · refine bV aF 1 [(0, (.lp lo0p 0 0)), (6, (eI (16 : Int)))] ?_
      refine bM ?_
      obtain rfl := oI h0
      exact aH (bJ (aP (mO hO ⟨bF, rfl, rfl⟩)))
    refine bO ?_
    refine cO [(0, (.lp lo0p 0 0)), (2, (eL aA l2)), (7, (.rp (.lp bF (0 + Int.toNat k1) 0)))] ?_
    refine aH (aX (aG (?_)))
    refine aN ?_
    refine aV aF 11 ?_
    refine bP 3 ?_
    refine eF 1 bF 2 (0 + Int.toNat k1) (aO (gD a0.inputs k1)) (eL aA ((gD a0.inputs k1).held)) (List.map aO a0.inputs) hO (cD c4) ?_
    refine bP 5 ?_
    obtain ⟨x17, hx18, h0⟩ := bB h0
    refine dB (YV ((gD a0.inputs k1).held) l2 _ hx18) hO ?_
    intro H hO
    refine bH ?_
    refine bS [2] [(8, (eI x17.2)), (9, (eL aA x17.1))] ?_
    refine aN ?_
    refine aU aF 2 [] [(38, (aK (!decide (x17.2 = (0 : Int)))))] ?_
    refine bK h0 (fun h0 => ?_) (fun h0 => ?_)
    · refine bV aF 2 [(0, (.lp lo0p 0 0)), (6, (eI x17.2))] ?_
      refine bM ?_
      obtain rfl := oI h0
      exact aH (aP (mO hO ⟨bF, rfl, rfl⟩))
    refine bO ?_
    refine bL [(0, (.lp lo0p 0 0)), (7, (.rp (.lp bF (0 + Int.toNat k1) 0))), (9, (eL aA x17.1))] ?_
    refine aN ?_
    refine aV aF 5 ?_
    refine bP 4 ?_
    refine mQ 1 bF 2 (0 + Int.toNat k1) (aO (gD a0.inputs k1)) (aO (aY.mk (gD a0.inputs k1).clock x17.1)) (List.map aO a0.inputs) [(lo0p, 1, [(.agg [(.msl 2 bF 0 (List.length a0.inputs))])]), (bF, 2, List.map aO (List.set a0.inputs (Int.toNat k1) (aY.mk (gD a0.inputs k1).clock x17.1)))] hO (cD c4) (by simp only [List.set, mA]) ?_
    intro H hO
    refine cT ?_
    refine cO [(0, (.lp lo0p 0 0))] ?_
    replace hO : aL ⟨Fh, Fe, Fg⟩ H [(lo0p, 1, [(.agg [(.msl 2 bF 0 (List.length (List.set a0.inputs (Int.toNat k1) (aY.mk (gD a0.inputs k1).clock x17.1))))])]), (bF, 2, List.map aO (List.set a0.inputs (Int.toNat k1) (aY.mk (gD a0.inputs k1).clock x17.1)))] := by simpa only [List.length_set] using hO
    refine aH (aG (?_))
    refine aU aF 1 [] [(6, (eI (0 : Int)))] ?_
    refine bM ?_
    obtain rfl := oI h0
    exact aH (mO hO ⟨bF, rfl, rfl⟩)
  · replace h0 := yZ (decide_eq_false hv3) h0
    refine bP 6 ?_
    refine nH 1 (.lit (.pointer none)) (by kernel_rfl) (by kernel_rfl) hO ?_
    intro lo21 H hO
    refine mQ 2 lo21 1 0 (.lit (.pointer none)) (.lit (.pointer none)) [(.lit (.pointer none))] [(lo0p, 1, [(.agg [(.msl 2 bF 0 (List.length a0.inputs))])]), (bF, 2, List.map aO a0.inputs), (lo21, 1, [(.lit (.pointer none))])] hO rfl (by kernel_rfl) ?_
    intro H hO
    refine bH ?_
    refine bS [1] [(7, (.lp lo21 0 0)), (8, (eI x1))] ?_
    refine aN ?_
    refine bT 0 ?_
    refine aU aF 3 [] [(16, (aK (!decide (x1 = (0 : Int)))))] ?_
    refine bK h0 (fun h0 => ?_) (fun h0 => ?_)
    · refine aN ?_
      refine aV aF 2 ?_
      refine bH ?_
      refine cO [(0, (.lp lo0p 0 0)), (6, (eI x1))] ?_
      replace hO := hO.pick (L' := [(lo0p, 1, [(.agg [(.msl 2 bF 0 (List.length a0.inputs))])]), (bF, 2, List.map aO a0.inputs)]) [0, 1] (by decide) (by kernel_rfl)
      refine aH (aG (?_))
      refine bM ?_
      obtain rfl := oI h0
      exact aH (bJ (aP (mO hO ⟨bF, rfl, rfl⟩)))
    refine aN ?_
    refine aV aF 4 ?_
    refine bP 1 ?_
    obtain ⟨x23, hx24, h0⟩ := bB h0
    refine dB (DP l2 _ hx24) hO ?_
    intro H hO
    refine bH ?_
    refine bS [8, 16] [(20, (aK (!x23)))] ?_
    refine bK h0 (fun h0 => ?_) (fun h0 => ?_)
    · refine aN ?_
      refine aV aF 1 ?_
      refine bH ?_
      refine cO [(0, (.lp lo0p 0 0)), (6, (eI (2 : Int)))] ?_
      replace hO := hO.pick (L' := [(lo0p, 1, [(.agg [(.msl 2 bF 0 (List.length a0.inputs))])]), (bF, 2, List.map aO a0.inputs)]) [0, 1] (by decide) (by kernel_rfl)
      refine aH (aG (?_))
      refine bM ?_
      obtain rfl := oI h0
      exact aH (bJ (aP (mO hO ⟨bF, rfl, rfl⟩)))
    refine aN ?_
    refine cS [(0, (.lp lo0p 0 0)), (2, (eL aA l2)), (7, (.lp lo21 0 0)), (20, (aK (!x23)))] ?_
    refine KG 2 2 7 1 lo21 (.lit (.pointer none)) [(lo0p, 1, [(.agg [(.msl 2 bF 0 (List.length a0.inputs))])]), (bF, 2, List.map aO a0.inputs)] hO (by kernel_rfl) (by kernel_rfl) (by kernel_rfl) ?_
    intro H hO
    refine aV aF 4 ?_
    refine bP 2 ?_
    cases h0

theorem wI (lo0p : Nat) (bF : Nat) (a0 : bN) (k1 : Int) (t2 : Int) (r : (Int × bN)) (h0 : fU a0 k1 t2 = some r) : qE Try.prog 14 [(.lp lo0p 0 0), (eI k1), (eI t2)] [(lo0p, 1, [(.agg [(.msl 2 bF 0 (List.length a0.inputs))])]), (bF, 2, List.map aO a0.inputs)] (fun x L => ∃ tA : Nat, x = (eI r.1) ∧ L = [(lo0p, 1, [(.agg [(.msl 2 tA 0 (List.length r.2.inputs))])]), (tA, 2, List.map aO r.2.inputs)]) := by
  intro F H0 hO
  obtain ⟨Fh, Fe, Fg⟩ := F
  refine cF Try.func14 ?_
  unfold fU at h0
  refine aU aF 1 [] [] ?_
  refine aN ?_
  refine aV aF 8 ?_
  refine bP 2 ?_
  obtain ⟨x1, hx2, h0⟩ := bB h0
  refine wL [] [0, 1] (EJ lo0p bF a0 k1 _ hx2) hO ?_
  intro r5 L6 H hP7 hO
  obtain ⟨rfl, hP7⟩ := hP7
  replace hO : aL ⟨Fh, Fe, Fg⟩ H [(lo0p, 1, [(.agg [(.msl 2 bF 0 (List.length a0.inputs))])]), (bF, 2, List.map aO a0.inputs)] := hO
  rcases hP7 with ⟨hv3, rfl, c4⟩ | ⟨hv3, rfl⟩
  · replace h0 := zS (decide_eq_true hv3) h0
    refine bH ?_
    refine bS [1] [(7, (.lp bF (0 + Int.toNat k1) 0)), (8, (eI x1))] ?_
    refine aN ?_
    refine bT 0 ?_
    refine aU aF 3 [] [(15, (aK (!decide (x1 = (0 : Int)))))] ?_
    refine bK h0 (fun h0 => ?_) (fun h0 => ?_)
    · refine bV aF 2 [(0, (.lp lo0p 0 0)), (6, (eI x1))] ?_
      refine bM ?_
      obtain rfl := oI h0
      exact aH (bJ (aP (mO hO ⟨bF, rfl, rfl⟩)))
    refine aU aF 7 [8, 15] [(19, (aK ((decide (t2 < (0 : Int))) || (decide ((1125899906842624 : Int) < t2)))))] ?_
    refine bK h0 (fun h0 => ?_) (fun h0 => ?_)
    · refine bV aF 1 [(0, (.lp lo0p 0 0)), (6, (eI (13 : Int)))] ?_
      refine bM ?_
      obtain rfl := oI h0
      exact aH (bJ (aP (mO hO ⟨bF, rfl, rfl⟩)))
    refine aN ?_
    refine aV aF 7 ?_
    refine bP 4 ?_
    refine eF 1 bF 2 (0 + Int.toNat k1) (aO (gD a0.inputs k1)) (eI ((gD a0.inputs k1).clock)) (List.map aO a0.inputs) hO (cD c4) ?_
    refine bH ?_
    refine bL [(0, (.lp lo0p 0 0)), (2, (eI t2)), (7, (.lp bF (0 + Int.toNat k1) 0)), (26, (aK (decide (t2 < ((gD a0.inputs k1).clock)))))] ?_
    refine bK h0 (fun h0 => ?_) (fun h0 => ?_)
    · refine bV aF 1 [(0, (.lp lo0p 0 0)), (6, (eI (16 : Int)))] ?_
      refine bM ?_
      obtain rfl := oI h0
      exact aH (bJ (aP (mO hO ⟨bF, rfl, rfl⟩)))
    refine bO ?_
    refine cO [(0, (.lp lo0p 0 0)), (2, (eI t2)), (7, (.lp bF (0 + Int.toNat k1) 0))] ?_
    refine aH (aX (aG (?_)))
    refine aN ?_
    refine aV aF 5 ?_
    refine bP 4 ?_
    refine mQ 1 bF 2 (0 + Int.toNat k1) (aO (gD a0.inputs k1)) (aO (aY.mk t2 (gD a0.inputs k1).held)) (List.map aO a0.inputs) [(lo0p, 1, [(.agg [(.msl 2 bF 0 (List.length a0.inputs))])]), (bF, 2, List.map aO (List.set a0.inputs (Int.toNat k1) (aY.mk t2 (gD a0.inputs k1).held)))] hO (cD c4) (by simp only [List.set, mA]) ?_
    intro H hO
    refine cT ?_
    refine cO [(0, (.lp lo0p 0 0))] ?_
    replace hO : aL ⟨Fh, Fe, Fg⟩ H [(lo0p, 1, [(.agg [(.msl 2 bF 0 (List.length (List.set a0.inputs (Int.toNat k1) (aY.mk t2 (gD a0.inputs k1).held))))])]), (bF, 2, List.map aO (List.set a0.inputs (Int.toNat k1) (aY.mk t2 (gD a0.inputs k1).held)))] := by simpa only [List.length_set] using hO
    refine aH (aG (?_))
    refine aU aF 1 [] [(6, (eI (0 : Int)))] ?_
    refine bM ?_
    obtain rfl := oI h0
    exact aH (mO hO ⟨bF, rfl, rfl⟩)
  · replace h0 := yZ (decide_eq_false hv3) h0
    refine bH ?_
    refine bS [1] [(7, (.lit (.pointer none))), (8, (eI x1))] ?_
    refine aN ?_
    refine bT 0 ?_
    refine aU aF 3 [] [(15, (aK (!decide (x1 = (0 : Int)))))] ?_
    refine bK h0 (fun h0 => ?_) (fun h0 => ?_)
    · refine bV aF 2 [(0, (.lp lo0p 0 0)), (6, (eI x1))] ?_
      refine bM ?_
      obtain rfl := oI h0
      exact aH (bJ (aP (mO hO ⟨bF, rfl, rfl⟩)))
    refine aU aF 7 [8, 15] [(19, (aK ((decide (t2 < (0 : Int))) || (decide ((1125899906842624 : Int) < t2)))))] ?_
    refine bK h0 (fun h0 => ?_) (fun h0 => ?_)
    · refine bV aF 1 [(0, (.lp lo0p 0 0)), (6, (eI (13 : Int)))] ?_
      refine bM ?_
      obtain rfl := oI h0
      exact aH (bJ (aP (mO hO ⟨bF, rfl, rfl⟩)))
    refine aN ?_
    refine aV aF 7 ?_
    cases h0

theorem sI (lo0p : Nat) (bF : Nat) (a0 : bN) (r : Int) (h0 : eP a0 = some r) : qE Try.prog 7 [(.lp lo0p 0 0)] [(lo0p, 1, [(.agg [(.msl 2 bF 0 (List.length a0.inputs))])]), (bF, 2, List.map aO a0.inputs)] (fun x L => x = (eI r) ∧ L = [(lo0p, 1, [(.agg [(.msl 2 bF 0 (List.length a0.inputs))])]), (bF, 2, List.map aO a0.inputs)]) := by
  intro F H0 hO
  obtain ⟨Fh, Fe, Fg⟩ := F
  refine cF Try.func7 ?_
  unfold eP at h0
  refine aU aF 1 [] [] ?_
  refine aN ?_
  refine aN ?_
  refine aV aF 2 ?_
  refine bP 1 ?_
  refine zX false ?_
  refine cT ?_
  refine bS [] [(6, (aK false))] ?_
  refine nB (false) (fun hc1 => ?_) (fun hc1 => ?_)
  · cases hc1
  · refine bO ?_
    refine bL [(0, (.lp lo0p 0 0))] ?_
    refine aU aF 1 [] [(3, (eI (1125899906842624 : Int)))] ?_
    refine cK (fun T H => ∃ t3 : Int, Has T [(0, (.lp lo0p 0 0)), (3, (eI t3))] ∧ aL ⟨Fh, Fe, Fg⟩ H [(lo0p, 1, [(.agg [(.msl 2 bF 0 (List.length a0.inputs))])]), (bF, 2, List.map aO a0.inputs)] ∧ rB a0 t3 = some r) ?_ ?_
    · clear hO h0
      rintro T H ⟨t3, hT, hO, h0⟩
      refine bC hT ?_
      clear hT
      unfold rB at h0
      refine aU aF 2 [3] [(2, (eI t3))] ?_
      refine bM ?_
      obtain rfl := oI h0
      exact aH (mO hO ⟨rfl, rfl⟩)
    refine aN ?_
    refine aV aF 6 ?_
    refine bP 3 ?_
    refine eF 0 lo0p 1 0 (.agg [(.msl 2 bF 0 (List.length a0.inputs))]) (.msl 2 bF 0 (List.length a0.inputs)) [(.agg [(.msl 2 bF 0 (List.length a0.inputs))])] hO rfl ?_
    refine bH ?_
    refine bS [] [(11, (eI (lN a0.inputs))), (12, (eI (0 : Int)))] ?_
    refine bT 0 ?_
    refine cS [(0, (.lp lo0p 0 0)), (3, (eI (1125899906842624 : Int))), (11, (eI (lN a0.inputs))), (12, (eI (0 : Int)))] ?_
    refine cG (fun T H => ∃ t3 : Int, ∃ t11 : Int, ∃ t12 : Int, Has T [(0, (.lp lo0p 0 0)), (3, (eI t3)), (11, (eI t11)), (12, (eI t12))] ∧ aL ⟨Fh, Fe, Fg⟩ H [(lo0p, 1, [(.agg [(.msl 2 bF 0 (List.length a0.inputs))])]), (bF, 2, List.map aO a0.inputs)] ∧ rA a0 t3 t11 t12 = some r) ?_ ⟨(1125899906842624 : Int), (lN a0.inputs), (0 : Int), aW, hO, h0⟩
    clear hO h0
    rintro T H ⟨t3, t11, t12, hT, hO, h0⟩
    refine bC hT ?_
    clear hT
    unfold rA at h0
    obtain ⟨rr0, hl0, h0⟩ := bB h0
    refine cZ (fun (s : Int × Int) T H => Has T [(0, (.lp lo0p 0 0)), (3, (eI s.1)), (11, (eI t11)), (12, (eI s.2))] ∧ aL ⟨Fh, Fe, Fg⟩ H [(lo0p, 1, [(.agg [(.msl 2 bF 0 (List.length a0.inputs))])]), (bF, 2, List.map aO a0.inputs)]) hl0 ⟨aW, hO⟩ ?_
    clear hO
    rintro k0 s out1 T H ⟨hT, hO⟩ h1 ho0
    obtain ⟨t3, t12⟩ := s
    replace h1 : lU a0 t11 t3 t12 = some out1 := h1
    try dsimp only at hT
    refine bC hT ?_
    clear hT
    unfold lU at h1
    refine aU aF 1 [] [(13, (aK (decide (t12 < t11))))] ?_
    refine aN ?_
    refine bK h1 (fun h1 => ?_) (fun h1 => ?_)
    · refine bO ?_
      refine bL [(0, (.lp lo0p 0 0)), (3, (eI t3)), (11, (eI t11)), (12, (eI t12))] ?_
      refine aN ?_
      refine bT 1 ?_
      refine aU aF 2 [] [(4, (eI t12))] ?_
      refine aV aF 11 ?_
      refine bP 4 ?_
      refine eF 0 lo0p 1 0 (.agg [(.msl 2 bF 0 (List.length a0.inputs))]) (.msl 2 bF 0 (List.length a0.inputs)) [(.agg [(.msl 2 bF 0 (List.length a0.inputs))])] hO rfl ?_
      obtain ⟨c3, h1⟩ := bG h1
      refine iB 8 [0 ≤ t12 ∧ t12 < (lN a0.inputs)] ⟨c3, trivial⟩ ?_
      refine eF 1 bF 2 (0 + Int.toNat t12) (aO (gD a0.inputs t12)) (eI ((gD a0.inputs t12).clock)) (List.map aO a0.inputs) hO (cD c3) ?_
      refine bH ?_
      refine cO [(0, (.lp lo0p 0 0)), (3, (eI (if ((gD a0.inputs t12).clock) < t3 then ((gD a0.inputs t12).clock) else t3))), (11, (eI t11)), (12, (eI t12))] ?_
      refine aH (aX (aG (?_)))
      refine aV aF 2 ?_
      refine bH ?_
      exact aH (aG (⟨rfl, _, (oI h1).symm, aW, hO⟩))
    refine cX 0 ?_
    obtain rfl := oI h1
    obtain rfl : _ = rr0 := ho0
    replace h0 : rB a0 t3 = some r := h0
    exact aH (aS (aS (bQ (aG (⟨rfl, _, aW, hO, h0⟩)))))

theorem EW : cE Try.prog 7 [(.lit (.pointer none))] (eI (0 : Int)) := by
  intro H0
  refine cF Try.func7 ?_
  have hO := aL.start H0
  refine aU aF 1 [] [] ?_
  refine aN ?_
  refine aN ?_
  refine aV aF 2 ?_
  refine bP 1 ?_
  refine zX true ?_
  refine cT ?_
  refine bS [] [(6, (aK true))] ?_
  refine nB (true) (fun hc1 => ?_) (fun hc1 => ?_)
  · refine bV aF 1 [(2, (eI (0 : Int)))] ?_
    refine bM ?_
    exact aH (aP (Q_r hO))
  · cases hc1

theorem BR (x0 : aB) (lo1p : Nat) (t1 : Int) (lo2p : Nat) (lo2q : Nat) (t2 : (List aB)) (lo3p : Nat) (lo3q : Nat) (t3 : (List aB)) (r : (Int × (List aB) × (List aB))) (h0 : iZ x0 t1 t2 t3 = some r) : qE Try.prog 22 [(aA x0), (.lp lo1p 0 0), (.lp lo2p 0 0), (.lp lo3p 0 0)] [(lo1p, 1, [(eI t1)]), (lo2p, 1, [(.msl 3 lo2q 0 (List.length t2))]), (lo2q, 3, List.map aA t2), (lo3p, 1, [(.msl 3 lo3q 0 (List.length t3))]), (lo3q, 3, List.map aA t3)] (fun x L => ∃ lo2n : Nat, ∃ lo3n : Nat, x = (.tup []) ∧ L = [(lo1p, 1, [(eI r.1)]), (lo2p, 1, [(.msl 3 lo2n 0 (List.length r.2.1))]), (lo2n, 3, List.map aA r.2.1), (lo3p, 1, [(.msl 3 lo3n 0 (List.length r.2.2))]), (lo3n, 3, List.map aA r.2.2)]) := by
  intro F H0 hO
  obtain ⟨Fh, Fe, Fg⟩ := F
  refine cF Try.func22 ?_
  unfold iZ at h0
  refine aN ?_
  refine aV aF 1 ?_
  refine sE 3 (aA x0) ?_
  refine cT ?_
  refine bS [0] [(4, (.rp (aA x0)))] ?_
  refine aN ?_
  refine aV aF 4 ?_
  refine bP 2 ?_
  refine eF 0 lo1p 1 0 (eI t1) (eI t1) [(eI t1)] hO rfl ?_
  refine bH ?_
  refine bS [] [(8, (aK (decide (x0.At < t1))))] ?_
  refine bK h0 (fun h0 => ?_) (fun h0 => ?_)
  · refine aV aF 5 ?_
    refine eF 1 lo2p 1 0 (.msl 3 lo2q 0 (List.length t2)) (.msl 3 lo2q 0 (List.length t2)) [(.msl 3 lo2q 0 (List.length t2))] hO rfl ?_
    refine bP 2 ?_
    refine kM [(aA x0)] 3 ?_
    obtain ⟨c3, h0⟩ := bG h0
    refine wD aA t2 ([x0]) 2 lo2q 3 40 (dA [(aA x0)]) (fun lo2 => [(lo1p, 1, [(eI t1)]), (lo2p, 1, [(.msl 3 lo2q 0 (List.length t2))]), (lo2, 3, List.map aA (t2 ++ ([x0]))), (lo3p, 1, [(.msl 3 lo3q 0 (List.length t3))]), (lo3q, 3, List.map aA t3)]) hO (by kernel_rfl) c3 ?_
    intro lo2 H hO
    refine mQ 1 lo2p 1 0 (.msl 3 lo2q 0 (List.length t2)) (.msl 3 lo2 0 (List.length (t2 ++ ([x0])))) [(.msl 3 lo2q 0 (List.length t2))] [(lo1p, 1, [(eI t1)]), (lo2p, 1, [(.msl 3 lo2 0 (List.length (t2 ++ ([x0]))))]), (lo2, 3, List.map aA (t2 ++ ([x0]))), (lo3p, 1, [(.msl 3 lo3q 0 (List.length t3))]), (lo3q, 3, List.map aA t3)] hO rfl (by kernel_rfl) ?_
    intro H hO
    refine cT ?_
    obtain rfl := oI h0
    exact aH (aD0 hO ⟨lo2, lo3q, rfl, rfl⟩)
  refine aV aF 5 ?_
  refine eF 3 lo3p 1 0 (.msl 3 lo3q 0 (List.length t3)) (.msl 3 lo3q 0 (List.length t3)) [(.msl 3 lo3q 0 (List.length t3))] hO rfl ?_
  refine bP 2 ?_
  refine kM [(aA x0)] 3 ?_
  obtain ⟨c5, h0⟩ := bG h0
  refine wD aA t3 ([x0]) 4 lo3q 3 40 (dA [(aA x0)]) (fun lo4 => [(lo1p, 1, [(eI t1)]), (lo2p, 1, [(.msl 3 lo2q 0 (List.length t2))]), (lo2q, 3, List.map aA t2), (lo3p, 1, [(.msl 3 lo3q 0 (List.length t3))]), (lo4, 3, List.map aA (t3 ++ ([x0])))]) hO (by kernel_rfl) c5 ?_
  intro lo4 H hO
  refine mQ 3 lo3p 1 0 (.msl 3 lo3q 0 (List.length t3)) (.msl 3 lo4 0 (List.length (t3 ++ ([x0])))) [(.msl 3 lo3q 0 (List.length t3))] [(lo1p, 1, [(eI t1)]), (lo2p, 1, [(.msl 3 lo2q 0 (List.length t2))]), (lo2q, 3, List.map aA t2), (lo3p, 1, [(.msl 3 lo4 0 (List.length (t3 ++ ([x0]))))]), (lo4, 3, List.map aA (t3 ++ ([x0])))] hO rfl (by kernel_rfl) ?_
  intro H hO
  refine cT ?_
  obtain rfl := oI h0
  exact aH (aD0 hO ⟨lo2q, lo4, rfl, rfl⟩)

theorem nN (lo0p : Nat) (bF : Nat) (a0 : bN) (r : ((List (List aB)) × bN)) (h0 : dI a0 = some r) : qE Try.prog 9 [(.lp lo0p 0 0)] [(lo0p, 1, [(.agg [(.msl 2 bF 0 (List.length a0.inputs))])]), (bF, 2, List.map aO a0.inputs)] (fun x L => ∃ tA : Nat, x = (eL (eL aA) r.1) ∧ L = [(lo0p, 1, [(.agg [(.msl 2 tA 0 (List.length r.2.inputs))])]), (tA, 2, List.map aO r.2.inputs)]) := by
  intro F H0 hO
  obtain ⟨Fh, Fe, Fg⟩ := F
  refine cF Try.func9 ?_
  unfold dI at h0
  refine aU aF 1 [] [] ?_
  refine aN ?_
  refine aV aF 2 ?_
  refine kM [] 1 ?_
  refine bH ?_
  refine bS [] [(3, (.sl true 0 (fun _ => .bad)))] ?_
  refine aN ?_
  refine aN ?_
  refine aV aF 2 ?_
  refine bP 1 ?_
  refine zX false ?_
  refine cT ?_
  refine bS [] [(13, (aK false))] ?_
  refine nB (false) (fun hc1 => ?_) (fun hc1 => ?_)
  · cases hc1
  · refine bO ?_
    refine bL [(0, (.lp lo0p 0 0)), (3, (.sl true 0 (fun _ => .bad)))] ?_
    refine aN ?_
    refine aV aF 4 ?_
    refine bP 1 ?_
    obtain ⟨x2, hx3, h0⟩ := bB h0
    refine wL [] [0, 1] (sI lo0p bF a0 _ hx3) hO ?_
    intro r4 L5 H hP6 hO
    obtain ⟨rfl, rfl⟩ := hP6
    replace hO : aL ⟨Fh, Fe, Fg⟩ H [(lo0p, 1, [(.agg [(.msl 2 bF 0 (List.length a0.inputs))])]), (bF, 2, List.map aO a0.inputs)] := hO
    refine nH 1 (eI 0) (by kernel_rfl) (by kernel_rfl) hO ?_
    intro lo7 H hO
    refine mQ 2 lo7 1 0 (eI 0) (eI x2) [(eI 0)] [(lo0p, 1, [(.agg [(.msl 2 bF 0 (List.length a0.inputs))])]), (bF, 2, List.map aO a0.inputs), (lo7, 1, [(eI x2)])] hO rfl (by kernel_rfl) ?_
    intro H hO
    refine cT ?_
    refine bS [] [(4, (.lp lo7 0 0))] ?_
    refine cK (fun T H => ∃ a0 : bN, ∃ out3 : List (List aB), ∃ lo8 : Nat, ∃ lo9 : Nat, Has T [(0, (.lp lo0p 0 0)), (3, (.msl 1 lo9 0 (List.length out3)))] ∧ aL ⟨Fh, Fe, Fg⟩ H [(lo0p, 1, [(.agg [(.msl 2 lo8 0 (List.length a0.inputs))])]), (lo8, 2, List.map aO a0.inputs), (lo9, 1, List.map (eL aA) out3)] ∧ pV a0 out3 = some r) ?_ ?_
    · clear hO h0
      rintro T H ⟨a0, out3, lo8, lo9, hT, hO, h0⟩
      refine bC hT ?_
      clear hT
      unfold pV at h0
      refine aU aF 2 [3] [(2, (.msl 1 lo9 0 (List.length out3)))] ?_
      refine bM ?_
      refine cO [(0, (.lp lo0p 0 0)), (2, (.msl 1 lo9 0 (List.length out3)))] ?_
      refine uL (en := (eL aA)) out3 1 2 2 1 lo9 (List.length out3) hO (by kernel_rfl) (by kernel_rfl) (by kernel_rfl) (L' := [(lo0p, 1, [(.agg [(.msl 2 lo8 0 (List.length a0.inputs))])]), (lo8, 2, List.map aO a0.inputs)]) (by kernel_rfl) ?_
      intro H10 hO
      obtain rfl := oI h0
      exact aH (mO hO ⟨lo8, rfl, rfl⟩)
    refine aN ?_
    refine aV aF 6 ?_
    refine bP 3 ?_
    refine eF 0 lo0p 1 0 (.agg [(.msl 2 bF 0 (List.length a0.inputs))]) (.msl 2 bF 0 (List.length a0.inputs)) [(.agg [(.msl 2 bF 0 (List.length a0.inputs))])] hO rfl ?_
    refine bH ?_
    refine bS [] [(21, (eI (lN a0.inputs))), (22, (eI (0 : Int)))] ?_
    refine bT 0 ?_
    refine cS [(0, (.lp lo0p 0 0)), (3, (.sl true 0 (fun _ => .bad))), (4, (.lp lo7 0 0)), (21, (eI (lN a0.inputs))), (22, (eI (0 : Int)))] ?_
    refine vJ (el := (fun _ => .bad)) 1 3 1 hO (by kernel_rfl) ?_
    intro lo48 H49 hO
    replace hO := hO.pick (L' := [(lo0p, 1, [(.agg [(.msl 2 bF 0 (List.length a0.inputs))])]), (bF, 2, List.map aO a0.inputs), (lo48, 1, List.map (eL aA) ([] : List (List aB))), (lo7, 1, [(eI x2)])]) [0, 1, 3, 2] (by decide) (by kernel_rfl)
    refine cG (fun T H => ∃ a0 : bN, ∃ out3 : List (List aB), ∃ t4 : Int, ∃ t21 : Int, ∃ t22 : Int, ∃ lo13 : Nat, ∃ lo14 : Nat, Has T [(0, (.lp lo0p 0 0)), (3, (.msl 1 lo14 0 (List.length out3))), (4, (.lp lo7 0 0)), (21, (eI t21)), (22, (eI t22))] ∧ aL ⟨Fh, Fe, Fg⟩ H [(lo0p, 1, [(.agg [(.msl 2 lo13 0 (List.length a0.inputs))])]), (lo13, 2, List.map aO a0.inputs), (lo14, 1, List.map (eL aA) out3), (lo7, 1, [(eI t4)])] ∧ pT a0 out3 t4 t21 t22 = some r) ?_ ⟨a0, ([] : List (List aB)), x2, (lN a0.inputs), (0 : Int), bF, lo48, aW, hO, h0⟩
    clear hO h0
    rintro T H ⟨a0, out3, t4, t21, t22, lo13, lo14, hT, hO, h0⟩
    refine bC hT ?_
    clear hT
    unfold pT at h0
    obtain ⟨rr0, hl0, h0⟩ := bB h0
    refine cZ (fun (s : bN × List (List aB) × Int × Int) T H => ∃ lo13 : Nat, ∃ lo14 : Nat, Has T [(0, (.lp lo0p 0 0)), (3, (.msl 1 lo14 0 (List.length s.2.1))), (4, (.lp lo7 0 0)), (21, (eI t21)), (22, (eI s.2.2.2))] ∧ aL ⟨Fh, Fe, Fg⟩ H [(lo0p, 1, [(.agg [(.msl 2 lo13 0 (List.length s.1.inputs))])]), (lo13, 2, List.map aO s.1.inputs), (lo14, 1, List.map (eL aA) s.2.1), (lo7, 1, [(eI s.2.2.1)])]) hl0 ⟨lo13, lo14, aW, hO⟩ ?_
    clear hO
    rintro k0 s out1 T H ⟨lo13, lo14, hT, hO⟩ h1 ho0
    obtain ⟨a0, out3, t4, t22⟩ := s
    replace h1 : gX t21 a0 out3 t4 t22 = some out1 := h1
    try dsimp only at hT
    refine bC hT ?_
    clear hT
    unfold gX at h1
    refine aU aF 1 [] [(23, (aK (decide (t22 < t21))))] ?_
    refine aN ?_
    refine bK h1 (fun h1 => ?_) (fun h1 => ?_)
    · refine bO ?_
      refine bL [(0, (.lp lo0p 0 0)), (3, (.msl 1 lo14 0 (List.length out3))), (4, (.lp lo7 0 0)), (21, (eI t21)), (22, (eI t22))] ?_
      refine cK (fun T H => ∃ a0 : bN, ∃ out3 : List (List aB), ∃ t4 : Int, ∃ lo16 : Nat, ∃ lo17 : Nat, Has T [(0, (.lp lo0p 0 0)), (3, (.msl 1 lo17 0 (List.length out3))), (4, (.lp lo7 0 0)), (21, (eI t21)), (22, (eI t22))] ∧ aL ⟨Fh, Fe, Fg⟩ H [(lo0p, 1, [(.agg [(.msl 2 lo16 0 (List.length a0.inputs))])]), (lo16, 2, List.map aO a0.inputs), (lo17, 1, List.map (eL aA) out3), (lo7, 1, [(eI t4)])] ∧ pX a0 out3 t4 t21 t22 = some out1) ?_ ?_
      · clear hO h1
        rintro T H ⟨a0, out3, t4, lo16, lo17, hT, hO, h1⟩
        refine bC hT ?_
        clear hT
        unfold pX at h1
        refine aV aF 2 ?_
        refine bH ?_
        exact aH (aG (⟨rfl, _, (oI h1).symm, _, _, aW, hO⟩))
      refine bT 1 ?_
      refine aU aF 2 [] [(5, (eI t22))] ?_
      refine aN ?_
      refine aV aF 2 ?_
      refine nH 1 (.sl true 0 (fun _ => .bad)) (by kernel_rfl) (by kernel_rfl) hO ?_
      intro lo18 H hO
      refine nH 1 (.sl true 0 (fun _ => .bad)) (by kernel_rfl) (by kernel_rfl) hO ?_
      intro lo19 H hO
      refine cT ?_
      refine aAW 4 1 lo18 3 (fun _ => .bad) (fun lo20 => [(lo0p, 1, [(.agg [(.msl 2 lo13 0 (List.length a0.inputs))])]), (lo13, 2, List.map aO a0.inputs), (lo14, 1, List.map (eL aA) out3), (lo7, 1, [(eI t4)]), (lo18, 1, [(.msl 3 lo20 0 0)]), (lo19, 1, [(.sl true 0 (fun _ => .bad))]), (lo20, 3, List.map aA ([] : List aB))]) hO (by kernel_rfl) (fun _ => by kernel_rfl) ?_
      intro lo20 H hO
      replace hO : aL ⟨Fh, Fe, Fg⟩ H [(lo0p, 1, [(.agg [(.msl 2 lo13 0 (List.length a0.inputs))])]), (lo13, 2, List.map aO a0.inputs), (lo14, 1, List.map (eL aA) out3), (lo7, 1, [(eI t4)]), (lo18, 1, [(.msl 3 lo20 0 (List.length ([] : List aB)))]), (lo19, 1, [(.sl true 0 (fun _ => .bad))]), (lo20, 3, List.map aA ([] : List aB))] := hO
      refine aAW 5 1 lo19 3 (fun _ => .bad) (fun lo21 => [(lo0p, 1, [(.agg [(.msl 2 lo13 0 (List.length a0.inputs))])]), (lo13, 2, List.map aO a0.inputs), (lo14, 1, List.map (eL aA) out3), (lo7, 1, [(eI t4)]), (lo18, 1, [(.msl 3 lo20 0 (List.length ([] : List aB)))]), (lo19, 1, [(.msl 3 lo21 0 0)]), (lo20, 3, List.map aA ([] : List aB)), (lo21, 3, List.map aA ([] : List aB))]) hO (by kernel_rfl) (fun _ => by kernel_rfl) ?_
      intro lo21 H hO
      replace hO : aL ⟨Fh, Fe, Fg⟩ H [(lo0p, 1, [(.agg [(.msl 2 lo13 0 (List.length a0.inputs))])]), (lo13, 2, List.map aO a0.inputs), (lo14, 1, List.map (eL aA) out3), (lo7, 1, [(eI t4)]), (lo18, 1, [(.msl 3 lo20 0 (List.length ([] : List aB)))]), (lo19, 1, [(.msl 3 lo21 0 (List.length ([] : List aB)))]), (lo20, 3, List.map aA ([] : List aB)), (lo21, 3, List.map aA ([] : List aB))] := hO
      refine cO [(0, (.lp lo0p 0 0)), (3, (.msl 1 lo14 0 (List.length out3))), (4, (.lp lo7 0 0)), (5, (eI t22)), (6, (.lp lo18 0 0)), (7, (.lp lo19 0 0)), (21, (eI t21)), (22, (eI t22))] ?_
      replace hO := hO.pick (L' := [(lo0p, 1, [(.agg [(.msl 2 lo13 0 (List.length a0.inputs))])]), (lo13, 2, List.map aO a0.inputs), (lo14, 1, List.map (eL aA) out3), (lo7, 1, [(eI t4)]), (lo18, 1, [(.msl 3 lo20 0 (List.length ([] : List aB)))]), (lo20, 3, List.map aA ([] : List aB)), (lo19, 1, [(.msl 3 lo21 0 (List.length ([] : List aB)))]), (lo21, 3, List.map aA ([] : List aB))]) [0, 1, 2, 3, 4, 6, 5, 7] (by decide) (by kernel_rfl)
      refine aH (aG (?_))
      refine aU aF 2 [] [(8, (.fn (.func 22) [] [(.lp lo7 0 0), (.lp lo18 0 0), (.lp lo19 0 0)]))] ?_
      refine cK (fun T H => ∃ a0 : bN, ∃ out3 : List (List aB), ∃ t4 : Int, ∃ k5 : Int, ∃ bZ : List aB, ∃ cB : List aB, ∃ lo22 : Nat, ∃ lo23 : Nat, ∃ lo24 : Nat, ∃ lo25 : Nat, Has T [(0, (.lp lo0p 0 0)), (3, (.msl 1 lo23 0 (List.length out3))), (4, (.lp lo7 0 0)), (5, (eI k5)), (6, (.lp lo18 0 0)), (7, (.lp lo19 0 0)), (21, (eI t21)), (22, (eI t22))] ∧ aL ⟨Fh, Fe, Fg⟩ H [(lo0p, 1, [(.agg [(.msl 2 lo22 0 (List.length a0.inputs))])]), (lo22, 2, List.map aO a0.inputs), (lo23, 1, List.map (eL aA) out3), (lo7, 1, [(eI t4)]), (lo18, 1, [(.msl 3 lo24 0 (List.length bZ))]), (lo24, 3, List.map aA bZ), (lo19, 1, [(.msl 3 lo25 0 (List.length cB))]), (lo25, 3, List.map aA cB)] ∧ nC a0 out3 t4 k5 bZ cB t21 t22 = some out1) ?_ ?_
      · clear hO h1
        rintro T H ⟨a0, out3, t4, k5, bZ, cB, lo22, lo23, lo24, lo25, hT, hO, h1⟩
        refine bC hT ?_
        clear hT
        unfold nC at h1
        refine aN ?_
        refine HT (e := aA) cB 6 7 1 3 lo19 lo25 (List.length cB) [(lo0p, 1, [(.agg [(.msl 2 lo22 0 (List.length a0.inputs))])]), (lo22, 2, List.map aO a0.inputs), (lo23, 1, List.map (eL aA) out3), (lo7, 1, [(eI t4)]), (lo18, 1, [(.msl 3 lo24 0 (List.length bZ))]), (lo24, 3, List.map aA bZ), (lo19, 1, [(eL aA cB)])] hO (by kernel_rfl) (by kernel_rfl) (by kernel_rfl) (.inr (by decide)) (by kernel_rfl) ?_
        intro H hO
        refine fB (fC []) aF 9 ?_
        refine sG 3 ?_
        refine kO 0 lo0p 1 0 (.agg [(.msl 2 lo22 0 (List.length a0.inputs))]) (.msl 2 lo22 0 (List.length a0.inputs)) [(.agg [(.msl 2 lo22 0 (List.length a0.inputs))])] hO rfl ?_
        refine sG 5 ?_
        refine kO 6 lo19 1 0 (eL aA cB) (eL aA cB) [(eL aA cB)] hO rfl ?_
        obtain ⟨c26, h1⟩ := bG h1
        refine cW 8 [0 ≤ k5 ∧ k5 < (lN a0.inputs)] ⟨c26, trivial⟩ ?_
        refine wJ 1 lo22 2 (0 + Int.toNat k5) (aO (gD a0.inputs k5)) (aO (aY.mk (gD a0.inputs k5).clock cB)) (List.map aO a0.inputs) [(lo0p, 1, [(.agg [(.msl 2 lo22 0 (List.length a0.inputs))])]), (lo22, 2, List.map aO (List.set a0.inputs (Int.toNat k5) (aY.mk (gD a0.inputs k5).clock cB))), (lo23, 1, List.map (eL aA) out3), (lo7, 1, [(eI t4)]), (lo18, 1, [(.msl 3 lo24 0 (List.length bZ))]), (lo24, 3, List.map aA bZ), (lo19, 1, [(eL aA cB)])] hO (cD c26) (by simp only [List.set, mA]) ?_
        intro H hO
        refine CS (by kernel_rfl) ?_
        replace hO : aL ⟨Fh, Fe, Fg⟩ H [(lo0p, 1, [(.agg [(.msl 2 lo22 0 (List.length (List.set a0.inputs (Int.toNat k5) (aY.mk (gD a0.inputs k5).clock cB))))])]), (lo22, 2, List.map aO (List.set a0.inputs (Int.toNat k5) (aY.mk (gD a0.inputs k5).clock cB))), (lo23, 1, List.map (eL aA) out3), (lo7, 1, [(eI t4)]), (lo18, 1, [(.msl 3 lo24 0 (List.length bZ))]), (lo24, 3, List.map aA bZ), (lo19, 1, [(eL aA cB)])] := by simpa only [List.length_set] using hO
        replace hO := hO.pick (L' := [(lo0p, 1, [(.agg [(.msl 2 lo22 0 (List.length (List.set a0.inputs (Int.toNat k5) (aY.mk (gD a0.inputs k5).clock cB))))])]), (lo22, 2, List.map aO (List.set a0.inputs (Int.toNat k5) (aY.mk (gD a0.inputs k5).clock cB))), (lo23, 1, List.map (eL aA) out3), (lo7, 1, [(eI t4)]), (lo18, 1, [(.msl 3 lo24 0 (List.length bZ))]), (lo24, 3, List.map aA bZ)]) [0, 1, 2, 3, 4, 5] (by decide) (by kernel_rfl)
        refine bS [5, 7] [] ?_
        refine HT (e := aA) bZ 4 5 1 3 lo18 lo24 (List.length bZ) [(lo0p, 1, [(.agg [(.msl 2 lo22 0 (List.length (List.set a0.inputs (Int.toNat k5) (aY.mk (gD a0.inputs k5).clock cB))))])]), (lo22, 2, List.map aO (List.set a0.inputs (Int.toNat k5) (aY.mk (gD a0.inputs k5).clock cB))), (lo23, 1, List.map (eL aA) out3), (lo7, 1, [(eI t4)]), (lo18, 1, [(eL aA bZ)])] hO (by kernel_rfl) (by kernel_rfl) (by kernel_rfl) (.inr (by decide)) (by kernel_rfl) ?_
        intro H hO
        refine aV aF 5 ?_
        refine bP 1 ?_
        refine eF 4 lo18 1 0 (eL aA bZ) (eL aA bZ) [(eL aA bZ)] hO rfl ?_
        refine kM [(eL aA bZ)] 1 ?_
        obtain ⟨c28, h1⟩ := bG h1
        refine wD (eL aA) out3 ([bZ]) 2 lo23 1 24 (dA [(eL aA bZ)]) (fun lo27 => [(lo0p, 1, [(.agg [(.msl 2 lo22 0 (List.length (List.set a0.inputs (Int.toNat k5) (aY.mk (gD a0.inputs k5).clock cB))))])]), (lo22, 2, List.map aO (List.set a0.inputs (Int.toNat k5) (aY.mk (gD a0.inputs k5).clock cB))), (lo27, 1, List.map (eL aA) (out3 ++ ([bZ]))), (lo7, 1, [(eI t4)]), (lo18, 1, [(eL aA bZ)])]) hO (by kernel_rfl) c28 ?_
        intro lo27 H hO
        refine bH ?_
        replace hO := hO.pick (L' := [(lo0p, 1, [(.agg [(.msl 2 lo22 0 (List.length (List.set a0.inputs (Int.toNat k5) (aY.mk (gD a0.inputs k5).clock cB))))])]), (lo22, 2, List.map aO (List.set a0.inputs (Int.toNat k5) (aY.mk (gD a0.inputs k5).clock cB))), (lo27, 1, List.map (eL aA) (out3 ++ ([bZ]))), (lo7, 1, [(eI t4)])]) [0, 1, 2, 3] (by decide) (by kernel_rfl)
        exact aH (aX (aG (⟨rfl, _, _, _, _, _, aW, hO, h1⟩)))
      refine aN ?_
      refine aV aF 10 ?_
      refine bP 3 ?_
      refine eF 0 lo0p 1 0 (.agg [(.msl 2 lo13 0 (List.length a0.inputs))]) (.msl 2 lo13 0 (List.length a0.inputs)) [(.agg [(.msl 2 lo13 0 (List.length a0.inputs))])] hO rfl ?_
      obtain ⟨c29, h1⟩ := bG h1
      refine iB 7 [0 ≤ t22 ∧ t22 < (lN a0.inputs)] ⟨c29, trivial⟩ ?_
      refine eF 1 lo13 2 (0 + Int.toNat t22) (aO (gD a0.inputs t22)) (eL aA ((gD a0.inputs t22).held)) (List.map aO a0.inputs) hO (cD c29) ?_
      refine bH ?_
      refine bS [] [(33, (eL aA ((gD a0.inputs t22).held))), (34, (eI (lN ((gD a0.inputs t22).held)))), (35, (eI (0 : Int)))] ?_
      refine bT 2 ?_
      refine cS [(0, (.lp lo0p 0 0)), (3, (.msl 1 lo14 0 (List.length out3))), (4, (.lp lo7 0 0)), (5, (eI t22)), (6, (.lp lo18 0 0)), (7, (.lp lo19 0 0)), (8, (.fn (.func 22) [] [(.lp lo7 0 0), (.lp lo18 0 0), (.lp lo19 0 0)])), (21, (eI t21)), (22, (eI t22)), (33, (eL aA ((gD a0.inputs t22).held))), (34, (eI (lN ((gD a0.inputs t22).held)))), (35, (eI (0 : Int)))] ?_
      refine cG (fun T H => ∃ a0 : bN, ∃ out3 : List (List aB), ∃ t4 : Int, ∃ k5 : Int, ∃ bZ : List aB, ∃ cB : List aB, ∃ t33 : (List aB), ∃ t34 : Int, ∃ t35 : Int, ∃ lo34 : Nat, ∃ lo35 : Nat, ∃ lo36 : Nat, ∃ lo37 : Nat, Has T [(0, (.lp lo0p 0 0)), (3, (.msl 1 lo35 0 (List.length out3))), (4, (.lp lo7 0 0)), (5, (eI k5)), (6, (.lp lo18 0 0)), (7, (.lp lo19 0 0)), (8, (.fn (.func 22) [] [(.lp lo7 0 0), (.lp lo18 0 0), (.lp lo19 0 0)])), (21, (eI t21)), (22, (eI t22)), (33, (eL aA t33)), (34, (eI t34)), (35, (eI t35))] ∧ aL ⟨Fh, Fe, Fg⟩ H [(lo0p, 1, [(.agg [(.msl 2 lo34 0 (List.length a0.inputs))])]), (lo34, 2, List.map aO a0.inputs), (lo35, 1, List.map (eL aA) out3), (lo7, 1, [(eI t4)]), (lo18, 1, [(.msl 3 lo36 0 (List.length bZ))]), (lo36, 3, List.map aA bZ), (lo19, 1, [(.msl 3 lo37 0 (List.length cB))]), (lo37, 3, List.map aA cB)] ∧ pR a0 out3 t4 k5 bZ cB t21 t22 t33 t34 t35 = some out1) ?_ ⟨a0, out3, t4, t22, ([] : List aB), ([] : List aB), (gD a0.inputs t22).held, (lN ((gD a0.inputs t22).held)), (0 : Int), lo13, lo14, lo20, lo21, aW, hO, h1⟩
      clear hO h1
      rintro T H ⟨a0, out3, t4, k5, bZ, cB, t33, t34, t35, lo34, lo35, lo36, lo37, hT, hO, h1⟩
      refine bC hT ?_
      clear hT
      unfold pR at h1
      obtain ⟨rr1, hl1, h1⟩ := bB h1
      refine cZ (fun (s : bN × List (List aB) × Int × List aB × List aB × Int) T H => ∃ lo34 : Nat, ∃ lo35 : Nat, ∃ lo36 : Nat, ∃ lo37 : Nat, Has T [(0, (.lp lo0p 0 0)), (3, (.msl 1 lo35 0 (List.length s.2.1))), (4, (.lp lo7 0 0)), (5, (eI k5)), (6, (.lp lo18 0 0)), (7, (.lp lo19 0 0)), (8, (.fn (.func 22) [] [(.lp lo7 0 0), (.lp lo18 0 0), (.lp lo19 0 0)])), (21, (eI t21)), (22, (eI t22)), (33, (eL aA t33)), (34, (eI t34)), (35, (eI s.2.2.2.2.2))] ∧ aL ⟨Fh, Fe, Fg⟩ H [(lo0p, 1, [(.agg [(.msl 2 lo34 0 (List.length s.1.inputs))])]), (lo34, 2, List.map aO s.1.inputs), (lo35, 1, List.map (eL aA) s.2.1), (lo7, 1, [(eI s.2.2.1)]), (lo18, 1, [(.msl 3 lo36 0 (List.length s.2.2.2.1))]), (lo36, 3, List.map aA s.2.2.2.1), (lo19, 1, [(.msl 3 lo37 0 (List.length s.2.2.2.2.1))]), (lo37, 3, List.map aA s.2.2.2.2.1)]) hl1 ⟨lo34, lo35, lo36, lo37, aW, hO⟩ ?_
      clear hO
      rintro k1 s out2 T H ⟨lo34, lo35, lo36, lo37, hT, hO⟩ h2 ho1
      obtain ⟨a0, out3, t4, bZ, cB, t35⟩ := s
      replace h2 : gV k5 t21 t22 t33 t34 a0 out3 t4 bZ cB t35 = some out2 := h2
      try dsimp only at hT
      refine bC hT ?_
      clear hT
      unfold gV at h2
      refine aU aF 1 [] [(36, (aK (decide (t35 < t34))))] ?_
      refine aN ?_
      refine bK h2 (fun h2 => ?_) (fun h2 => ?_)
      · refine bO ?_
        refine bL [(0, (.lp lo0p 0 0)), (3, (.msl 1 lo35 0 (List.length out3))), (4, (.lp lo7 0 0)), (5, (eI k5)), (6, (.lp lo18 0 0)), (7, (.lp lo19 0 0)), (8, (.fn (.func 22) [] [(.lp lo7 0 0), (.lp lo18 0 0), (.lp lo19 0 0)])), (21, (eI t21)), (22, (eI t22)), (33, (eL aA t33)), (34, (eI t34)), (35, (eI t35))] ?_
        refine aN ?_
        refine bT 3 ?_
        refine aN ?_
        refine aV aF 4 ?_
        obtain ⟨c39, h2⟩ := bG h2
        refine iB 2 [0 ≤ t35 ∧ t35 < (lN t33)] ⟨c39, trivial⟩ ?_
        refine HI 3 (.agg [(.sl true 0 (fun _ => .bad)), (eI 0), (eI 0)]) (aA (aB.mk ([]) 0 0)) (by kernel_rfl) (by kernel_rfl) (by kernel_rfl) (WD (xs := [(.sl true 0 (fun _ => .bad)), (eI 0), (eI 0)]) (ys := [(eL aJ ([])), (eI 0), (eI 0)]) ⟨iY, bA.refl _, bA.refl _, trivial⟩) (by kernel_rfl) (by kernel_rfl) hO ?_
        intro lo40 H hO
        refine mQ 8 lo40 3 0 (aA (aB.mk ([]) 0 0)) (aA (gD t33 t35)) [(aA (aB.mk ([]) 0 0))] [(lo0p, 1, [(.agg [(.msl 2 lo34 0 (List.length a0.inputs))])]), (lo34, 2, List.map aO a0.inputs), (lo35, 1, List.map (eL aA) out3), (lo7, 1, [(eI t4)]), (lo18, 1, [(.msl 3 lo36 0 (List.length bZ))]), (lo36, 3, List.map aA bZ), (lo19, 1, [(.msl 3 lo37 0 (List.length cB))]), (lo37, 3, List.map aA cB), (lo40, 3, [(aA (gD t33 t35))])] hO rfl (by kernel_rfl) ?_
        intro H hO
        refine cT ?_
        refine bS [] [(10, (.lp lo40 0 0))] ?_
        refine aV aF 3 ?_
        refine bP 1 ?_
        refine eF 8 lo40 3 0 (aA (gD t33 t35)) (aA (gD t33 t35)) [(aA (gD t33 t35))] hO rfl ?_
        obtain ⟨x41, hx42, h2⟩ := bB h2
        refine wL [(lo0p, 1, [(.agg [(.msl 2 lo34 0 (List.length a0.inputs))])]), (lo34, 2, List.map aO a0.inputs), (lo35, 1, List.map (eL aA) out3), (lo40, 3, [(aA (gD t33 t35))])] [3, 4, 5, 6, 7, 0, 1, 2, 8] (BR (gD t33 t35) lo7 t4 lo18 lo36 bZ lo19 lo37 cB _ hx42) hO ?_
        intro r45 L46 H hP47 hO
        obtain ⟨lo43, lo44, rfl, rfl⟩ := hP47
        replace hO : aL ⟨Fh, Fe, Fg⟩ H [(lo7, 1, [(eI x41.1)]), (lo18, 1, [(.msl 3 lo43 0 (List.length x41.2.1))]), (lo43, 3, List.map aA x41.2.1), (lo19, 1, [(.msl 3 lo44 0 (List.length x41.2.2))]), (lo44, 3, List.map aA x41.2.2), (lo0p, 1, [(.agg [(.msl 2 lo34 0 (List.length a0.inputs))])]), (lo34, 2, List.map aO a0.inputs), (lo35, 1, List.map (eL aA) out3), (lo40, 3, [(aA (gD t33 t35))])] := hO
        refine cT ?_
        refine cO [(0, (.lp lo0p 0 0)), (3, (.msl 1 lo35 0 (List.length out3))), (4, (.lp lo7 0 0)), (5, (eI k5)), (6, (.lp lo18 0 0)), (7, (.lp lo19 0 0)), (8, (.fn (.func 22) [] [(.lp lo7 0 0), (.lp lo18 0 0), (.lp lo19 0 0)])), (21, (eI t21)), (22, (eI t22)), (33, (eL aA t33)), (34, (eI t34)), (35, (eI t35))] ?_
        replace hO := hO.pick (L' := [(lo0p, 1, [(.agg [(.msl 2 lo34 0 (List.length a0.inputs))])]), (lo34, 2, List.map aO a0.inputs), (lo35, 1, List.map (eL aA) out3), (lo7, 1, [(eI x41.1)]), (lo18, 1, [(.msl 3 lo43 0 (List.length x41.2.1))]), (lo43, 3, List.map aA x41.2.1), (lo19, 1, [(.msl 3 lo44 0 (List.length x41.2.2))]), (lo44, 3, List.map aA x41.2.2)]) [5, 6, 7, 0, 1, 2, 3, 4] (by decide) (by kernel_rfl)
        refine aH (aX (aG (?_)))
        refine aV aF 2 ?_
        refine bH ?_
        exact aH (aG (⟨rfl, _, (oI h2).symm, _, _, _, _, aW, hO⟩))
      refine cX 2 ?_
      obtain rfl := oI h2
      obtain rfl : _ = rr1 := ho1
      replace h1 : nC a0 out3 t4 k5 bZ cB t21 t22 = some out1 := h1
      exact aH (aS (aS (bQ (aG (⟨rfl, _, _, _, _, _, _, _, _, _, _, aW, hO, h1⟩)))))
    refine cX 0 ?_
    replace hO := hO.pick (L' := [(lo0p, 1, [(.agg [(.msl 2 lo13 0 (List.length a0.inputs))])]), (lo13, 2, List.map aO a0.inputs), (lo14, 1, List.map (eL aA) out3)]) [0, 1, 2] (by decide) (by kernel_rfl)
    obtain rfl := oI h1
    obtain rfl : _ = rr0 := ho0
    replace h0 : pV a0 out3 = some r := h0
    exact aH (aS (aS (bQ (aG (⟨rfl, _, _, _, _, aW, hO, h0⟩)))))

theorem DW : cE Try.prog 9 [(.lit (.pointer none))] (eL (eL aA) ([] : List (List aB))) := by
  intro H0
  refine cF Try.func9 ?_
  have hO := aL.start H0
  refine aU aF 1 [] [] ?_
  refine aN ?_
  refine aV aF 2 ?_
  refine kM [] 1 ?_
  refine bH ?_
  refine bS [] [(3, (dA []))] ?_
  refine aN ?_
  refine aN ?_
  refine aV aF 2 ?_
  refine bP 1 ?_
  refine zX true ?_
  refine cT ?_
  refine bS [] [(13, (aK true))] ?_
  refine nB (true) (fun hc1 => ?_) (fun hc1 => ?_)
  · refine bV aF 2 [(2, (dA []))] ?_
    refine bM ?_
    exact aH (aP (nU (x := (dA [])) (by kernel_rfl) (EU (l := ([] : List (List aB)))) ⟨rfl, hO.out⟩))
  · cases hc1

theorem xN (lo0p : Nat) (bF : Nat) (a0 : bN) (r : Int) (h0 : gQ a0 = some r) : qE Try.prog 8 [(.lp lo0p 0 0)] [(lo0p, 1, [(.agg [(.msl 2 bF 0 (List.length a0.inputs))])]), (bF, 2, List.map aO a0.inputs)] (fun x L => x = (eI r) ∧ L = [(lo0p, 1, [(.agg [(.msl 2 bF 0 (List.length a0.inputs))])]), (bF, 2, List.map aO a0.inputs)]) := by
  intro F H0 hO
  obtain ⟨Fh, Fe, Fg⟩ := F
  refine cF Try.func8 ?_
  unfold gQ at h0
  refine aU aF 1 [] [] ?_
  refine aU aF 1 [] [(3, (eI (0 : Int)))] ?_
  refine aN ?_
  refine aN ?_
  refine aV aF 2 ?_
  refine bP 1 ?_
  refine zX false ?_
  refine cT ?_
  refine bS [] [(7, (aK false))] ?_
  refine nB (false) (fun hc1 => ?_) (fun hc1 => ?_)
  · cases hc1
  · refine bO ?_
    refine bL [(0, (.lp lo0p 0 0)), (3, (eI (0 : Int)))] ?_
    refine cK (fun T H => ∃ n3 : Int, Has T [(0, (.lp lo0p 0 0)), (3, (eI n3))] ∧ aL ⟨Fh, Fe, Fg⟩ H [(lo0p, 1, [(.agg [(.msl 2 bF 0 (List.length a0.inputs))])]), (bF, 2, List.map aO a0.inputs)] ∧ sH a0 n3 = some r) ?_ ?_
    · clear hO h0
      rintro T H ⟨n3, hT, hO, h0⟩
      refine bC hT ?_
      clear hT
      unfold sH at h0
      refine aU aF 2 [3] [(2, (eI n3))] ?_
      refine bM ?_
      obtain rfl := oI h0
      exact aH (mO hO ⟨rfl, rfl⟩)
    refine aN ?_
    refine aV aF 6 ?_
    refine bP 3 ?_
    refine eF 0 lo0p 1 0 (.agg [(.msl 2 bF 0 (List.length a0.inputs))]) (.msl 2 bF 0 (List.length a0.inputs)) [(.agg [(.msl 2 bF 0 (List.length a0.inputs))])] hO rfl ?_
    refine bH ?_
    refine bS [] [(12, (.msl 2 bF 0 (List.length a0.inputs))), (13, (eI (lN a0.inputs))), (14, (eI (0 : Int)))] ?_
    refine bT 0 ?_
    refine cS [(0, (.lp lo0p 0 0)), (3, (eI (0 : Int))), (12, (.msl 2 bF 0 (List.length a0.inputs))), (13, (eI (lN a0.inputs))), (14, (eI (0 : Int)))] ?_
    refine cG (fun T H => ∃ n3 : Int, ∃ t13 : Int, ∃ t14 : Int, Has T [(0, (.lp lo0p 0 0)), (3, (eI n3)), (12, (.msl 2 bF 0 (List.length a0.inputs))), (13, (eI t13)), (14, (eI t14))] ∧ aL ⟨Fh, Fe, Fg⟩ H [(lo0p, 1, [(.agg [(.msl 2 bF 0 (List.length a0.inputs))])]), (bF, 2, List.map aO a0.inputs)] ∧ sK a0 n3 t13 t14 = some r) ?_ ⟨(0 : Int), (lN a0.inputs), (0 : Int), aW, hO, h0⟩
    clear hO h0
    rintro T H ⟨n3, t13, t14, hT, hO, h0⟩
    refine bC hT ?_
    clear hT
    unfold sK at h0
    obtain ⟨rr0, hl0, h0⟩ := bB h0
    refine cZ (fun (s : Int × Int) T H => Has T [(0, (.lp lo0p 0 0)), (3, (eI s.1)), (12, (.msl 2 bF 0 (List.length a0.inputs))), (13, (eI t13)), (14, (eI s.2))] ∧ aL ⟨Fh, Fe, Fg⟩ H [(lo0p, 1, [(.agg [(.msl 2 bF 0 (List.length a0.inputs))])]), (bF, 2, List.map aO a0.inputs)]) hl0 ⟨aW, hO⟩ ?_
    clear hO
    rintro k0 s out1 T H ⟨hT, hO⟩ h1 ho0
    obtain ⟨n3, t14⟩ := s
    replace h1 : mT a0 t13 n3 t14 = some out1 := h1
    try dsimp only at hT
    refine bC hT ?_
    clear hT
    unfold mT at h1
    refine aU aF 1 [] [(15, (aK (decide (t14 < t13))))] ?_
    refine aN ?_
    refine bK h1 (fun h1 => ?_) (fun h1 => ?_)
    · refine bO ?_
      refine bL [(0, (.lp lo0p 0 0)), (3, (eI n3)), (12, (.msl 2 bF 0 (List.length a0.inputs))), (13, (eI t13)), (14, (eI t14))] ?_
      refine aN ?_
      refine bT 1 ?_
      refine aN ?_
      refine aV aF 4 ?_
      obtain ⟨c3, h1⟩ := bG h1
      refine iB 1 [0 ≤ t14 ∧ t14 < (lN a0.inputs)] ⟨c3, trivial⟩ ?_
      refine eF 1 bF 2 (0 + Int.toNat t14) (aO (gD a0.inputs t14)) (aO (gD a0.inputs t14)) (List.map aO a0.inputs) hO (cD c3) ?_
      refine HI 2 (.agg [(eI 0), (.sl true 0 (fun _ => .bad))]) (aO (aY.mk 0 ([]))) (by kernel_rfl) (by kernel_rfl) (by kernel_rfl) (WD (xs := [(eI 0), (.sl true 0 (fun _ => .bad))]) (ys := [(eI 0), (eL aA ([]))]) ⟨bA.refl _, iY, trivial⟩) (by kernel_rfl) (by kernel_rfl) hO ?_
      intro lo4 H hO
      refine mQ 2 lo4 2 0 (aO (aY.mk 0 ([]))) (aO (gD a0.inputs t14)) [(aO (aY.mk 0 ([])))] [(lo0p, 1, [(.agg [(.msl 2 bF 0 (List.length a0.inputs))])]), (bF, 2, List.map aO a0.inputs), (lo4, 2, [(aO (gD a0.inputs t14))])] hO rfl (by kernel_rfl) ?_
      intro H hO
      refine cT ?_
      refine bS [] [(5, (.lp lo4 0 0))] ?_
      refine aV aF 6 ?_
      refine bP 2 ?_
      refine eF 2 lo4 2 0 (aO (gD a0.inputs t14)) (eL aA ((gD a0.inputs t14).held)) [(aO (gD a0.inputs t14))] hO rfl ?_
      refine bH ?_
      refine cO [(0, (.lp lo0p 0 0)), (3, (eI (wR (n3 + (lN ((gD a0.inputs t14).held)))))), (12, (.msl 2 bF 0 (List.length a0.inputs))), (13, (eI t13)), (14, (eI t14))] ?_
      replace hO := hO.pick (L' := [(lo0p, 1, [(.agg [(.msl 2 bF 0 (List.length a0.inputs))])]), (bF, 2, List.map aO a0.inputs)]) [0, 1] (by decide) (by kernel_rfl)
      refine aH (aX (aG (?_)))
      refine aV aF 2 ?_
      refine bH ?_
      exact aH (aG (⟨rfl, _, (oI h1).symm, aW, hO⟩))
    refine cX 0 ?_
    obtain rfl := oI h1
    obtain rfl : _ = rr0 := ho0
    replace h0 : sH a0 n3 = some r := h0
    exact aH (aS (aS (bQ (aG (⟨rfl, _, aW, hO, h0⟩)))))

theorem GD : cE Try.prog 8 [(.lit (.pointer none))] (eI (0 : Int)) := by
  intro H0
  refine cF Try.func8 ?_
  have hO := aL.start H0
  refine aU aF 1 [] [] ?_
  refine aU aF 1 [] [(3, (eI (0 : Int)))] ?_
  refine aN ?_
  refine aN ?_
  refine aV aF 2 ?_
  refine bP 1 ?_
  refine zX true ?_
  refine cT ?_
  refine bS [] [(7, (aK true))] ?_
  refine nB (true) (fun hc1 => ?_) (fun hc1 => ?_)
  · refine bV aF 2 [(2, (eI (0 : Int)))] ?_
    refine bM ?_
    exact aH (aP (Q_r hO))
  · cases hc1

theorem xK  (r : Bool) (h0 : iX  = some r) : cE Try.prog 6 [] (aK r) := by
  intro H0
  refine cF Try.func6 ?_
  have hO := aL.start H0
  unfold iX at h0
  refine bV aF 1 [] ?_
  refine aN ?_
  refine aV aF 3 ?_
  refine bP 1 ?_
  refine kM [(aJ (aI.mk (1 : Int) (1 : Int) ByteArray.empty))] 3 ?_
  refine bH ?_
  refine cV (l := [(1, (eL aJ ([aI.mk (1 : Int) (1 : Int) ByteArray.empty])))]) ⟨[(1, (dA [(aJ (aI.mk (1 : Int) (1 : Int) ByteArray.empty))]))], by kernel_rfl, rfl, ⟨EU (l := [aI.mk (1 : Int) (1 : Int) ByteArray.empty]), trivial⟩⟩ ?_
  refine aH (aG (?_))
  refine aN ?_
  refine aV aF 6 ?_
  obtain ⟨⟨oa1, oe2⟩, hx3, h0⟩ := bB h0
  refine wL [] [] (MI (2 : Int) _ hx3) hO ?_
  intro r4 L5 H hP6 hO
  rcases oa1 with _ | a9
  · obtain ⟨rfl, rfl⟩ := hP6
    replace hO : aL ⟨H0, [], []⟩ H [] := hO
    replace h0 : (none) = some r := h0
    refine bH ?_
    refine bS [] [(2, (.lit (.pointer none))), (3, (eI oe2))] ?_
    refine aN ?_
    refine aV aF 6 ?_
    refine bP 3 ?_
    refine kM [(aA (aB.mk ([aI.mk (1 : Int) (1 : Int) ByteArray.empty]) (2 : Int) (1 : Int)))] 3 ?_
    cases h0
  · obtain ⟨lo7, lo8, rfl, rfl⟩ := hP6
    replace hO : aL ⟨H0, [], []⟩ H [(lo7, 1, [(.agg [(.msl 2 lo8 0 (List.length a9.inputs))])]), (lo8, 2, List.map aO a9.inputs)] := hO
    replace h0 : ((mC a9 (0 : Int) ([aB.mk ([aI.mk (1 : Int) (1 : Int) ByteArray.empty]) (2 : Int) (1 : Int)])).bind fun x10 => (fU x10.2 (0 : Int) (5 : Int)).bind fun x16 => (dI x16.2).bind fun x22 => (fU x22.2 (1 : Int) (3 : Int)).bind fun x28 => (dI x28.2).bind fun x34 => bI ((((((((decide (oe2 = (0 : Int))) && (decide (x10.1 = (0 : Int)))) && (decide (x16.1 = (0 : Int)))) && (decide (x28.1 = (0 : Int)))) && (decide ((lN x22.1) = (2 : Int))))) = true → 0 ≤ (0 : Int) ∧ (0 : Int) < (lN x22.1))) <| bI ((((((((((decide (oe2 = (0 : Int))) && (decide (x10.1 = (0 : Int)))) && (decide (x16.1 = (0 : Int)))) && (decide (x28.1 = (0 : Int)))) && (decide ((lN x22.1) = (2 : Int)))) && (decide ((lN (gD x22.1 (0 : Int))) = (0 : Int)))) && (decide ((lN x34.1) = (2 : Int))))) = true → 0 ≤ (0 : Int) ∧ (0 : Int) < (lN x34.1))) <| bI (((((((((((decide (oe2 = (0 : Int))) && (decide (x10.1 = (0 : Int)))) && (decide (x16.1 = (0 : Int)))) && (decide (x28.1 = (0 : Int)))) && (decide ((lN x22.1) = (2 : Int)))) && (decide ((lN (gD x22.1 (0 : Int))) = (0 : Int)))) && (decide ((lN x34.1) = (2 : Int)))) && (decide ((lN (gD x34.1 (0 : Int))) = (1 : Int))))) = true → 0 ≤ (0 : Int) ∧ (0 : Int) < (lN x34.1))) <| bI (((((((((((decide (oe2 = (0 : Int))) && (decide (x10.1 = (0 : Int)))) && (decide (x16.1 = (0 : Int)))) && (decide (x28.1 = (0 : Int)))) && (decide ((lN x22.1) = (2 : Int)))) && (decide ((lN (gD x22.1 (0 : Int))) = (0 : Int)))) && (decide ((lN x34.1) = (2 : Int)))) && (decide ((lN (gD x34.1 (0 : Int))) = (1 : Int))))) = true → 0 ≤ (0 : Int) ∧ (0 : Int) < (lN (gD x34.1 (0 : Int))))) <| (cond (((((((((decide (oe2 = (0 : Int))) && (decide (x10.1 = (0 : Int)))) && (decide (x16.1 = (0 : Int)))) && (decide (x28.1 = (0 : Int)))) && (decide ((lN x22.1) = (2 : Int)))) && (decide ((lN (gD x22.1 (0 : Int))) = (0 : Int)))) && (decide ((lN x34.1) = (2 : Int)))) && (decide ((lN (gD x34.1 (0 : Int))) = (1 : Int)))) && (decide (((gD (gD x34.1 (0 : Int)) (0 : Int)).At) = (2 : Int)))) (eP x34.2) (some 0)).bind fun x44 => (cond ((((((((((decide (oe2 = (0 : Int))) && (decide (x10.1 = (0 : Int)))) && (decide (x16.1 = (0 : Int)))) && (decide (x28.1 = (0 : Int)))) && (decide ((lN x22.1) = (2 : Int)))) && (decide ((lN (gD x22.1 (0 : Int))) = (0 : Int)))) && (decide ((lN x34.1) = (2 : Int)))) && (decide ((lN (gD x34.1 (0 : Int))) = (1 : Int)))) && (decide (((gD (gD x34.1 (0 : Int)) (0 : Int)).At) = (2 : Int)))) && (decide (x44 = (3 : Int)))) (gQ x34.2) (some 0)).bind fun x49 => some (((((((((((decide (oe2 = (0 : Int))) && (decide (x10.1 = (0 : Int)))) && (decide (x16.1 = (0 : Int)))) && (decide (x28.1 = (0 : Int)))) && (decide ((lN x22.1) = (2 : Int)))) && (decide ((lN (gD x22.1 (0 : Int))) = (0 : Int)))) && (decide ((lN x34.1) = (2 : Int)))) && (decide ((lN (gD x34.1 (0 : Int))) = (1 : Int)))) && (decide (((gD (gD x34.1 (0 : Int)) (0 : Int)).At) = (2 : Int)))) && (decide (x44 = (3 : Int)))) && (decide (x49 = (0 : Int))))) = some r := h0
    refine bH ?_
    refine bS [] [(2, (.lp lo7 0 0)), (3, (eI oe2))] ?_
    refine aN ?_
    refine aV aF 6 ?_
    refine bP 3 ?_
    refine kM [(aA (aB.mk ([aI.mk (1 : Int) (1 : Int) ByteArray.empty]) (2 : Int) (1 : Int)))] 3 ?_
    obtain ⟨x10, hx11, h0⟩ := bB h0
    refine wL [] [0, 1] (@qE.sub _ _ [(.lp lo7 0 0), (eI (0 : Int)), (dA [(aA (aB.mk ([aI.mk (1 : Int) (1 : Int) ByteArray.empty]) (2 : Int) (1 : Int)))])] _ _ _ (DK lo7 lo8 a9 (0 : Int) ([aB.mk ([aI.mk (1 : Int) (1 : Int) ByteArray.empty]) (2 : Int) (1 : Int)]) _ hx11) ⟨bA.refl _, bA.refl _, EU (l := [aB.mk ([aI.mk (1 : Int) (1 : Int) ByteArray.empty]) (2 : Int) (1 : Int)]), trivial⟩) hO ?_
    intro r13 L14 H hP15 hO
    obtain ⟨lo12, rfl, rfl⟩ := hP15
    replace hO : aL ⟨H0, [], []⟩ H [(lo7, 1, [(.agg [(.msl 2 lo12 0 (List.length x10.2.inputs))])]), (lo12, 2, List.map aO x10.2.inputs)] := hO
    refine bH ?_
    refine bS [1] [(4, (eI x10.1))] ?_
    refine aN ?_
    refine aV aF 3 ?_
    refine bP 1 ?_
    obtain ⟨x16, hx17, h0⟩ := bB h0
    refine wL [] [0, 1] (wI lo7 lo12 x10.2 (0 : Int) (5 : Int) _ hx17) hO ?_
    intro r19 L20 H hP21 hO
    obtain ⟨lo18, rfl, rfl⟩ := hP21
    replace hO : aL ⟨H0, [], []⟩ H [(lo7, 1, [(.agg [(.msl 2 lo18 0 (List.length x16.2.inputs))])]), (lo18, 2, List.map aO x16.2.inputs)] := hO
    refine bH ?_
    refine bS [] [(5, (eI x16.1))] ?_
    refine aN ?_
    refine aV aF 3 ?_
    refine bP 1 ?_
    obtain ⟨x22, hx23, h0⟩ := bB h0
    refine wL [] [0, 1] (nN lo7 lo18 x16.2 _ hx23) hO ?_
    intro r25 L26 H hP27 hO
    obtain ⟨lo24, rfl, rfl⟩ := hP27
    replace hO : aL ⟨H0, [], []⟩ H [(lo7, 1, [(.agg [(.msl 2 lo24 0 (List.length x22.2.inputs))])]), (lo24, 2, List.map aO x22.2.inputs)] := hO
    refine bH ?_
    refine bS [] [(6, (eL (eL aA) x22.1))] ?_
    refine aN ?_
    refine aV aF 3 ?_
    refine bP 1 ?_
    obtain ⟨x28, hx29, h0⟩ := bB h0
    refine wL [] [0, 1] (wI lo7 lo24 x22.2 (1 : Int) (3 : Int) _ hx29) hO ?_
    intro r31 L32 H hP33 hO
    obtain ⟨lo30, rfl, rfl⟩ := hP33
    replace hO : aL ⟨H0, [], []⟩ H [(lo7, 1, [(.agg [(.msl 2 lo30 0 (List.length x28.2.inputs))])]), (lo30, 2, List.map aO x28.2.inputs)] := hO
    refine bH ?_
    refine bL [(2, (.lp lo7 0 0)), (3, (eI oe2)), (4, (eI x10.1)), (5, (eI x16.1)), (6, (eL (eL aA) x22.1)), (7, (eI x28.1))] ?_
    refine aN ?_
    refine aV aF 3 ?_
    refine bP 1 ?_
    obtain ⟨x34, hx35, h0⟩ := bB h0
    refine wL [] [0, 1] (nN lo7 lo30 x28.2 _ hx35) hO ?_
    intro r37 L38 H hP39 hO
    obtain ⟨lo36, rfl, rfl⟩ := hP39
    replace hO : aL ⟨H0, [], []⟩ H [(lo7, 1, [(.agg [(.msl 2 lo36 0 (List.length x34.2.inputs))])]), (lo36, 2, List.map aO x34.2.inputs)] := hO
    refine bH ?_
    refine bS [] [(8, (eL (eL aA) x34.1))] ?_
    refine aN ?_
    refine aV aF 58 ?_
    obtain ⟨c40, h0⟩ := bG h0
    obtain ⟨c41, h0⟩ := bG h0
    obtain ⟨c42, h0⟩ := bG h0
    obtain ⟨c43, h0⟩ := bG h0
    refine iB 49 [(((((((decide (oe2 = (0 : Int))) && (decide (x10.1 = (0 : Int)))) && (decide (x16.1 = (0 : Int)))) && (decide (x28.1 = (0 : Int)))) && (decide ((lN x22.1) = (2 : Int))))) = true → 0 ≤ (0 : Int) ∧ (0 : Int) < (lN x22.1)), (((((((((decide (oe2 = (0 : Int))) && (decide (x10.1 = (0 : Int)))) && (decide (x16.1 = (0 : Int)))) && (decide (x28.1 = (0 : Int)))) && (decide ((lN x22.1) = (2 : Int)))) && (decide ((lN (gD x22.1 (0 : Int))) = (0 : Int)))) && (decide ((lN x34.1) = (2 : Int))))) = true → 0 ≤ (0 : Int) ∧ (0 : Int) < (lN x34.1)), ((((((((((decide (oe2 = (0 : Int))) && (decide (x10.1 = (0 : Int)))) && (decide (x16.1 = (0 : Int)))) && (decide (x28.1 = (0 : Int)))) && (decide ((lN x22.1) = (2 : Int)))) && (decide ((lN (gD x22.1 (0 : Int))) = (0 : Int)))) && (decide ((lN x34.1) = (2 : Int)))) && (decide ((lN (gD x34.1 (0 : Int))) = (1 : Int))))) = true → 0 ≤ (0 : Int) ∧ (0 : Int) < (lN x34.1)), ((((((((((decide (oe2 = (0 : Int))) && (decide (x10.1 = (0 : Int)))) && (decide (x16.1 = (0 : Int)))) && (decide (x28.1 = (0 : Int)))) && (decide ((lN x22.1) = (2 : Int)))) && (decide ((lN (gD x22.1 (0 : Int))) = (0 : Int)))) && (decide ((lN x34.1) = (2 : Int)))) && (decide ((lN (gD x34.1 (0 : Int))) = (1 : Int))))) = true → 0 ≤ (0 : Int) ∧ (0 : Int) < (lN (gD x34.1 (0 : Int))))] ⟨c40, c41, c42, c43, trivial⟩ ?_
    obtain ⟨x44, hx45, h0⟩ := bB h0
    refine DO [(75, true)] (((((((((decide (oe2 = (0 : Int))) && (decide (x10.1 = (0 : Int)))) && (decide (x16.1 = (0 : Int)))) && (decide (x28.1 = (0 : Int)))) && (decide ((lN x22.1) = (2 : Int)))) && (decide ((lN (gD x22.1 (0 : Int))) = (0 : Int)))) && (decide ((lN x34.1) = (2 : Int)))) && (decide ((lN (gD x34.1 (0 : Int))) = (1 : Int)))) && (decide (((gD (gD x34.1 (0 : Int)) (0 : Int)).At) = (2 : Int)))) (eI 0) [] [0, 1] (fun hb => (sI lo7 lo36 x34.2 _ (zS hb hx45))) (fun hb => by have hz := oI (yZ hb hx45); subst hz; exact ⟨rfl, rfl⟩) hO ?_
    intro r46 L47 H hP48 hO
    obtain ⟨rfl, rfl⟩ := hP48
    replace hO : aL ⟨H0, [], []⟩ H [(lo7, 1, [(.agg [(.msl 2 lo36 0 (List.length x34.2.inputs))])]), (lo36, 2, List.map aO x34.2.inputs)] := hO
    refine bP 54 ?_
    obtain ⟨x49, hx50, h0⟩ := bB h0
    refine DO [(80, true)] ((((((((((decide (oe2 = (0 : Int))) && (decide (x10.1 = (0 : Int)))) && (decide (x16.1 = (0 : Int)))) && (decide (x28.1 = (0 : Int)))) && (decide ((lN x22.1) = (2 : Int)))) && (decide ((lN (gD x22.1 (0 : Int))) = (0 : Int)))) && (decide ((lN x34.1) = (2 : Int)))) && (decide ((lN (gD x34.1 (0 : Int))) = (1 : Int)))) && (decide (((gD (gD x34.1 (0 : Int)) (0 : Int)).At) = (2 : Int)))) && (decide (x44 = (3 : Int)))) (eI 0) [] [0, 1] (fun hb => (xN lo7 lo36 x34.2 _ (zS hb hx50))) (fun hb => by have hz := oI (yZ hb hx50); subst hz; exact ⟨rfl, rfl⟩) hO ?_
    intro r51 L52 H hP53 hO
    obtain ⟨rfl, rfl⟩ := hP53
    replace hO : aL ⟨H0, [], []⟩ H [(lo7, 1, [(.agg [(.msl 2 lo36 0 (List.length x34.2.inputs))])]), (lo36, 2, List.map aO x34.2.inputs)] := hO
    refine bH ?_
    refine cO [(0, (aK (((((((((((decide (oe2 = (0 : Int))) && (decide (x10.1 = (0 : Int)))) && (decide (x16.1 = (0 : Int)))) && (decide (x28.1 = (0 : Int)))) && (decide ((lN x22.1) = (2 : Int)))) && (decide ((lN (gD x22.1 (0 : Int))) = (0 : Int)))) && (decide ((lN x34.1) = (2 : Int)))) && (decide ((lN (gD x34.1 (0 : Int))) = (1 : Int)))) && (decide (((gD (gD x34.1 (0 : Int)) (0 : Int)).At) = (2 : Int)))) && (decide (x44 = (3 : Int)))) && (decide (x49 = (0 : Int))))))] ?_
    replace hO := hO.pick (L' := []) [] (by decide) (by kernel_rfl)
    refine aH (aG (?_))
    refine bM ?_
    obtain rfl := oI h0
    exact aH (Q_r hO)

theorem IV (l0 : (List eM)) (r : Bool) (h0 : oS l0 = some r) : cE Try.prog 10 [(eL fE l0)] (aK r) := by
  intro H0
  refine cF Try.func10 ?_
  have hO := aL.start H0
  unfold oS at h0
  refine aU aF 1 [] [] ?_
  refine aU aF 3 [] [(3, (eI (lN l0)))] ?_
  refine cK (fun T H => ∃ n3 : Int, Has T [(3, (eI n3))] ∧ aL ⟨H0, [], []⟩ H [] ∧ xW n3 = some r) ?_ ?_
  · clear hO h0
    rintro T H ⟨n3, hT, hO, h0⟩
    refine bC hT ?_
    clear hT
    unfold xW at h0
    refine bV aF 3 [(2, (aK (decide (n3 ≤ (60 : Int)))))] ?_
    refine bM ?_
    obtain rfl := oI h0
    exact aH (Q_r hO)
  refine aU aF 1 [] [(4, (eI (0 : Int)))] ?_
  refine bT 0 ?_
  refine cS [(0, (eL fE l0)), (3, (eI (lN l0))), (4, (eI (0 : Int)))] ?_
  refine cG (fun T H => ∃ n3 : Int, ∃ i4 : Int, Has T [(0, (eL fE l0)), (3, (eI n3)), (4, (eI i4))] ∧ aL ⟨H0, [], []⟩ H [] ∧ yC l0 n3 i4 = some r) ?_ ⟨(lN l0), (0 : Int), aW, hO, h0⟩
  clear hO h0
  rintro T H ⟨n3, i4, hT, hO, h0⟩
  refine bC hT ?_
  clear hT
  unfold yC at h0
  obtain ⟨rr0, hl0, h0⟩ := bB h0
  refine cZ (fun (s : Int × Int) T H => Has T [(0, (eL fE l0)), (3, (eI s.1)), (4, (eI s.2))] ∧ aL ⟨H0, [], []⟩ H []) hl0 ⟨aW, hO⟩ ?_
  clear hO
  rintro k0 s out1 T H ⟨hT, hO⟩ h1 ho0
  obtain ⟨n3, i4⟩ := s
  replace h1 : pH l0 n3 i4 = some out1 := h1
  try dsimp only at hT
  refine bC hT ?_
  clear hT
  unfold pH at h1
  refine aN ?_
  refine aU aF 8 [] [(14, (aK ((decide (i4 < (lN l0))) && (decide (n3 ≤ (60 : Int))))))] ?_
  refine bK h1 (fun h1 => ?_) (fun h1 => ?_)
  · refine bO ?_
    refine bL [(0, (eL fE l0)), (3, (eI n3)), (4, (eI i4))] ?_
    refine aN ?_
    refine bT 1 ?_
    refine aV aF 10 ?_
    obtain ⟨c2, h1⟩ := bG h1
    refine oH [0 ≤ i4 ∧ i4 < (lN l0)] ⟨c2, trivial⟩ ?_
    refine cO [(0, (eL fE l0)), (3, (eI (wR (n3 + (if (61 : Int) < (lN ((gD l0 i4).Edges)) then (61 : Int) else (lN ((gD l0 i4).Edges))))))), (4, (eI i4))] ?_
    refine aH (aX (aG (?_)))
    refine aV aF 3 ?_
    refine bH ?_
    exact aH (aG (⟨rfl, _, (oI h1).symm, aW, hO⟩))
  refine cX 0 ?_
  obtain rfl := oI h1
  obtain rfl : _ = rr0 := ho0
  replace h0 : xW n3 = some r := h0
  exact aH (aS (aS (bQ (aG (⟨rfl, _, aW, hO, h0⟩)))))

theorem LZ (n0 : Int) (r : bE) (h0 : rL n0 = some r) : qE Try.prog 11 [(eI n0)] [] (fun x L => ∃ lor0 : Nat, ∃ aBl : Nat, ∃ aAQ : Nat, x = (.lp lor0 0 0) ∧ L = [(lor0, 2, [(.agg [(.msl 1 aBl 0 (List.length r.Clocks)), (.msl 1 aAQ 0 (List.length r.aR))])]), (aBl, 1, List.map (eI) r.Clocks), (aAQ, 1, List.map (eL aA) r.aR)]) := by
  intro F H0 hO
  obtain ⟨Fh, Fe, Fg⟩ := F
  refine cF Try.func11 ?_
  unfold rL at h0
  refine aU aF 1 [] [] ?_
  refine aN ?_
  refine aV aF 3 ?_
  refine bP 1 ?_
  refine nH 2 (.agg [(.sl true 0 (fun _ => .bad)), (.sl true 0 (fun _ => .bad))]) (by kernel_rfl) (by kernel_rfl) hO ?_
  intro lo1 H hO
  refine bH ?_
  refine aBq 0 2 lo1 0 1 [(.sl true 0 (fun _ => .bad)), (.sl true 0 (fun _ => .bad))] (fun _ => .bad) (fun lo2 => [(lo1, 2, [(.agg [(.msl 1 lo2 0 0), (.sl true 0 (fun _ => .bad))])]), (lo2, 1, List.map (eI) ([] : List Int))]) hO (by kernel_rfl) (by kernel_rfl) (fun _ => by kernel_rfl) ?_
  intro lo2 H hO
  refine aBq 0 2 lo1 1 1 [(.msl 1 lo2 0 0), (.sl true 0 (fun _ => .bad))] (fun _ => .bad) (fun lo3 => [(lo1, 2, [(.agg [(.msl 1 lo2 0 0), (.msl 1 lo3 0 0)])]), (lo2, 1, List.map (eI) ([] : List Int)), (lo3, 1, List.map (eL aA) ([] : List (List aB)))]) hO (by kernel_rfl) (by kernel_rfl) (fun _ => by kernel_rfl) ?_
  intro lo3 H hO
  replace hO : aL ⟨Fh, Fe, Fg⟩ H [(lo1, 2, [(.agg [(.msl 1 lo2 0 (List.length ([] : List Int))), (.msl 1 lo3 0 (List.length ([] : List (List aB))))])]), (lo2, 1, List.map (eI) ([] : List Int)), (lo3, 1, List.map (eL aA) ([] : List (List aB)))] := hO
  refine bL [(0, (eI n0)), (3, (.lp lo1 0 0))] ?_
  refine cK (fun T H => ∃ a3 : bE, ∃ lo4 : Nat, ∃ lo5 : Nat, Has T [(3, (.lp lo1 0 0))] ∧ aL ⟨Fh, Fe, Fg⟩ H [(lo1, 2, [(.agg [(.msl 1 lo4 0 (List.length a3.Clocks)), (.msl 1 lo5 0 (List.length a3.aR))])]), (lo4, 1, List.map (eI) a3.Clocks), (lo5, 1, List.map (eL aA) a3.aR)] ∧ wY a3 = some r) ?_ ?_
  · clear hO h0
    rintro T H ⟨a3, lo4, lo5, hT, hO, h0⟩
    refine bC hT ?_
    clear hT
    unfold wY at h0
    refine bV aF 2 [(2, (.lp lo1 0 0))] ?_
    refine bM ?_
    obtain rfl := oI h0
    exact aH (mO hO ⟨lo1, lo4, lo5, rfl, rfl⟩)
  refine aU aF 1 [] [(4, (eI (0 : Int)))] ?_
  refine bT 0 ?_
  refine cS [(0, (eI n0)), (3, (.lp lo1 0 0)), (4, (eI (0 : Int)))] ?_
  refine cG (fun T H => ∃ a3 : bE, ∃ i4 : Int, ∃ lo8 : Nat, ∃ lo9 : Nat, Has T [(0, (eI n0)), (3, (.lp lo1 0 0)), (4, (eI i4))] ∧ aL ⟨Fh, Fe, Fg⟩ H [(lo1, 2, [(.agg [(.msl 1 lo8 0 (List.length a3.Clocks)), (.msl 1 lo9 0 (List.length a3.aR))])]), (lo8, 1, List.map (eI) a3.Clocks), (lo9, 1, List.map (eL aA) a3.aR)] ∧ BM n0 a3 i4 = some r) ?_ ⟨bE.mk ([]) ([]), (0 : Int), lo2, lo3, aW, hO, h0⟩
  clear hO h0
  rintro T H ⟨a3, i4, lo8, lo9, hT, hO, h0⟩
  refine bC hT ?_
  clear hT
  unfold BM at h0
  obtain ⟨rr0, hl0, h0⟩ := bB h0
  refine cZ (fun (s : bE × Int) T H => ∃ lo8 : Nat, ∃ lo9 : Nat, Has T [(0, (eI n0)), (3, (.lp lo1 0 0)), (4, (eI s.2))] ∧ aL ⟨Fh, Fe, Fg⟩ H [(lo1, 2, [(.agg [(.msl 1 lo8 0 (List.length s.1.Clocks)), (.msl 1 lo9 0 (List.length s.1.aR))])]), (lo8, 1, List.map (eI) s.1.Clocks), (lo9, 1, List.map (eL aA) s.1.aR)]) hl0 ⟨lo8, lo9, aW, hO⟩ ?_
  clear hO
  rintro k0 s out1 T H ⟨lo8, lo9, hT, hO⟩ h1 ho0
  obtain ⟨a3, i4⟩ := s
  replace h1 : rV n0 a3 i4 = some out1 := h1
  try dsimp only at hT
  refine bC hT ?_
  clear hT
  unfold rV at h1
  refine aN ?_
  refine aU aF 3 [] [(9, (aK (decide (i4 < n0))))] ?_
  refine bK h1 (fun h1 => ?_) (fun h1 => ?_)
  · refine bO ?_
    refine bL [(0, (eI n0)), (3, (.lp lo1 0 0)), (4, (eI i4))] ?_
    refine aN ?_
    refine bT 1 ?_
    refine aN ?_
    refine aV aF 10 ?_
    refine bP 4 ?_
    refine eF 0 lo1 2 0 (.agg [(.msl 1 lo8 0 (List.length a3.Clocks)), (.msl 1 lo9 0 (List.length a3.aR))]) (.msl 1 lo8 0 (List.length a3.Clocks)) [(.agg [(.msl 1 lo8 0 (List.length a3.Clocks)), (.msl 1 lo9 0 (List.length a3.aR))])] hO rfl ?_
    refine kM [(eI (0 : Int))] 1 ?_
    obtain ⟨c12, h1⟩ := bG h1
    refine wD (eI) a3.Clocks ([(0 : Int)]) 1 lo8 1 8 (dA [(eI (0 : Int))]) (fun lo11 => [(lo1, 2, [(.agg [(.msl 1 lo8 0 (List.length a3.Clocks)), (.msl 1 lo9 0 (List.length a3.aR))])]), (lo11, 1, List.map (eI) (a3.Clocks ++ ([(0 : Int)]))), (lo9, 1, List.map (eL aA) a3.aR)]) hO (by kernel_rfl) c12 ?_
    intro lo11 H hO
    refine bP 9 ?_
    refine mQ 0 lo1 2 0 (.agg [(.msl 1 lo8 0 (List.length a3.Clocks)), (.msl 1 lo9 0 (List.length a3.aR))]) (.agg [(.msl 1 lo11 0 (List.length (a3.Clocks ++ ([(0 : Int)])))), (.msl 1 lo9 0 (List.length a3.aR))]) [(.agg [(.msl 1 lo8 0 (List.length a3.Clocks)), (.msl 1 lo9 0 (List.length a3.aR))])] [(lo1, 2, [(.agg [(.msl 1 lo11 0 (List.length (a3.Clocks ++ ([(0 : Int)])))), (.msl 1 lo9 0 (List.length a3.aR))])]), (lo11, 1, List.map (eI) (a3.Clocks ++ ([(0 : Int)]))), (lo9, 1, List.map (eL aA) a3.aR)] hO rfl (by kernel_rfl) ?_
    intro H hO
    refine cT ?_
    refine bS [] [] ?_
    refine aV aF 10 ?_
    refine bP 4 ?_
    refine eF 0 lo1 2 0 (.agg [(.msl 1 lo11 0 (List.length (a3.Clocks ++ ([(0 : Int)])))), (.msl 1 lo9 0 (List.length a3.aR))]) (.msl 1 lo9 0 (List.length a3.aR)) [(.agg [(.msl 1 lo11 0 (List.length (a3.Clocks ++ ([(0 : Int)])))), (.msl 1 lo9 0 (List.length a3.aR))])] hO rfl ?_
    refine kM [(.sl true 0 (fun _ => .bad))] 1 ?_
    refine aDE 26 (x := (dA [(.sl true 0 (fun _ => .bad))])) (y := (eL (eL aA) [([] : (List aB))])) (aDe (e := (eL aA)) (xs := [(.sl true 0 (fun _ => .bad))]) (l := [([] : (List aB))]) ⟨iY, trivial⟩ rfl) ?_
    obtain ⟨c14, h1⟩ := bG h1
    refine wD (eL aA) a3.aR ([([] : (List aB))]) 2 lo9 1 24 (eL (eL aA) ([([] : (List aB))])) (fun lo13 => [(lo1, 2, [(.agg [(.msl 1 lo11 0 (List.length (a3.Clocks ++ ([(0 : Int)])))), (.msl 1 lo9 0 (List.length a3.aR))])]), (lo11, 1, List.map (eI) (a3.Clocks ++ ([(0 : Int)]))), (lo13, 1, List.map (eL aA) (a3.aR ++ ([([] : (List aB))])))]) hO (AJ (fun _ => by kernel_rfl)) c14 ?_
    intro lo13 H hO
    refine bP 9 ?_
    refine mQ 0 lo1 2 0 (.agg [(.msl 1 lo11 0 (List.length (a3.Clocks ++ ([(0 : Int)])))), (.msl 1 lo9 0 (List.length a3.aR))]) (.agg [(.msl 1 lo11 0 (List.length (a3.Clocks ++ ([(0 : Int)])))), (.msl 1 lo13 0 (List.length (a3.aR ++ ([([] : (List aB))]))))]) [(.agg [(.msl 1 lo11 0 (List.length (a3.Clocks ++ ([(0 : Int)])))), (.msl 1 lo9 0 (List.length a3.aR))])] [(lo1, 2, [(.agg [(.msl 1 lo11 0 (List.length (a3.Clocks ++ ([(0 : Int)])))), (.msl 1 lo13 0 (List.length (a3.aR ++ ([([] : (List aB))]))))])]), (lo11, 1, List.map (eI) (a3.Clocks ++ ([(0 : Int)]))), (lo13, 1, List.map (eL aA) (a3.aR ++ ([([] : (List aB))])))] hO rfl (by kernel_rfl) ?_
    intro H hO
    refine cT ?_
    refine cO [(0, (eI n0)), (3, (.lp lo1 0 0)), (4, (eI i4))] ?_
    refine aH (aX (aG (?_)))
    refine aV aF 3 ?_
    refine bH ?_
    exact aH (aG (⟨rfl, _, (oI h1).symm, _, _, aW, hO⟩))
  refine cX 0 ?_
  obtain rfl := oI h1
  obtain rfl : _ = rr0 := ho0
  replace h0 : wY a3 = some r := h0
  exact aH (aS (aS (bQ (aG (⟨rfl, _, _, _, aW, hO, h0⟩)))))

theorem FV (v0 : aI) (r : Bool) (h0 : tI v0 = some r) : cE Try.prog 74 [(aJ v0)] (aK r) := by
  intro H0
  refine cF Try.func74 ?_
  have hO := aL.start H0
  unfold tI at h0
  refine aN ?_
  refine aV aF 2 ?_
  refine sE 3 (aJ v0) ?_
  refine bH ?_
  refine bL [(1, (.rp (aJ v0)))] ?_
  refine aN ?_
  refine aU aF 3 [] [(5, (aK (decide (v0.Kind = (1 : Int)))))] ?_
  refine bK h0 (fun h0 => ?_) (fun h0 => ?_)
  · refine bV aF 4 [(2, (aK (pS v0.Text (⟨#[]⟩ : ByteArray))))] ?_
    refine bM ?_
    obtain rfl := oI h0
    exact aH (aP (Q_r hO))
  refine bO ?_
  refine bL [(1, (.rp (aJ v0)))] ?_
  refine bV aF 15 [(2, (aK (((decide (v0.Kind = (2 : Int))) && (decide (v0.Num = (0 : Int)))) && (decide (((ByteArray.size v0.Text : Nat) : Int) ≤ (64 : Int))))))] ?_
  refine bM ?_
  obtain rfl := oI h0
  exact aH (Q_r hO)

theorem CK (r0 : (List aI)) (r : Bool) (h0 : rK r0 = some r) : cE Try.prog 48 [(eL aJ r0)] (aK r) := by
  intro H0
  refine cF Try.func48 ?_
  have hO := aL.start H0
  unfold rK at h0
  refine aU aF 1 [] [] ?_
  refine cK (fun T H => Has T [(0, (eL aJ r0))] ∧ aL ⟨H0, [], []⟩ H [] ∧ uE r0 = some r) ?_ ?_
  · clear hO h0
    rintro T H ⟨hT, hO, h0⟩
    refine bC hT ?_
    clear hT
    unfold uE at h0
    refine bV aF 4 [(2, (aK (decide ((lN r0) ≤ (8 : Int)))))] ?_
    refine bM ?_
    obtain rfl := oI h0
    exact aH (Q_r hO)
  refine aU aF 1 [] [(3, (eI (0 : Int)))] ?_
  refine bT 0 ?_
  refine cS [(0, (eL aJ r0)), (3, (eI (0 : Int)))] ?_
  refine cG (fun T H => ∃ i3 : Int, Has T [(0, (eL aJ r0)), (3, (eI i3))] ∧ aL ⟨H0, [], []⟩ H [] ∧ BI r0 i3 = some r) ?_ ⟨(0 : Int), aW, hO, h0⟩
  clear hO h0
  rintro T H ⟨i3, hT, hO, h0⟩
  refine bC hT ?_
  clear hT
  unfold BI at h0
  obtain ⟨rr0, hl0, h0⟩ := bB h0
  refine cZ (fun (s : Int) T H => Has T [(0, (eL aJ r0)), (3, (eI s))] ∧ aL ⟨H0, [], []⟩ H []) hl0 ⟨aW, hO⟩ ?_
  clear hO
  rintro k0 s out1 T H ⟨hT, hO⟩ h1 ho0
  obtain ⟨i3, rfl⟩ : ∃ x, x = s := ⟨_, rfl⟩
  replace h1 : rR r0 i3 = some out1 := h1
  refine bC hT ?_
  clear hT
  unfold rR at h1
  refine aN ?_
  refine aU aF 8 [] [(11, (aK ((decide (i3 < (lN r0))) && (decide (i3 < (9 : Int))))))] ?_
  refine bK h1 (fun h1 => ?_) (fun h1 => ?_)
  · refine bO ?_
    refine bL [(0, (eL aJ r0)), (3, (eI i3))] ?_
    refine aN ?_
    refine bT 1 ?_
    refine aN ?_
    refine aV aF 6 ?_
    obtain ⟨c2, h1⟩ := bG h1
    refine iB 4 [0 ≤ i3 ∧ i3 < (lN r0)] ⟨c2, trivial⟩ ?_
    obtain ⟨x3, hx4, h1⟩ := bB h1
    refine dB (FV (gD r0 i3) _ hx4) hO ?_
    intro H hO
    refine bH ?_
    refine bS [] [(19, (aK (!x3)))] ?_
    refine bK h1 (fun h1 => ?_) (fun h1 => ?_)
    · refine bV aF 1 [(2, (aK false))] ?_
      refine bM ?_
      obtain rfl := oI h1
      obtain rfl : _ = rr0 := ho0
      replace h0 : some false = some r := h0
      obtain rfl := oI h0
      exact aH (bJ (aP (aP (bJ (aP (Q_r hO))))))
    refine bO ?_
    refine cO [(0, (eL aJ r0)), (3, (eI i3))] ?_
    refine aH (aX (aG (?_)))
    refine aV aF 3 ?_
    refine bH ?_
    exact aH (aG (⟨rfl, _, (oI h1).symm, aW, hO⟩))
  refine cX 0 ?_
  obtain rfl := oI h1
  obtain rfl : _ = rr0 := ho0
  replace h0 : uE r0 = some r := h0
  exact aH (aS (aS (bQ (aG (⟨rfl, aW, hO, h0⟩)))))

theorem ME (f0 : (List aD)) (r : Bool) (h0 : tK f0 = some r) : cE Try.prog 49 [(eL aE f0)] (aK r) := by
  intro H0
  refine cF Try.func49 ?_
  have hO := aL.start H0
  unfold tK at h0
  refine aU aF 1 [] [] ?_
  refine aN ?_
  refine aU aF 3 [] [(6, (aK (decide ((1024 : Int) < (lN f0)))))] ?_
  refine bK h0 (fun h0 => ?_) (fun h0 => ?_)
  · refine bV aF 1 [(2, (aK false))] ?_
    refine bM ?_
    obtain rfl := oI h0
    exact aH (aP (Q_r hO))
  refine bO ?_
  refine bL [(0, (eL aE f0))] ?_
  refine cK (fun T H => Has T [] ∧ aL ⟨H0, [], []⟩ H [] ∧ xI  = some r) ?_ ?_
  · clear hO h0
    rintro T H ⟨hT, hO, h0⟩
    refine bC hT ?_
    clear hT
    unfold xI at h0
    refine bV aF 1 [(2, (aK true))] ?_
    refine bM ?_
    obtain rfl := oI h0
    exact aH (Q_r hO)
  refine aU aF 1 [] [(3, (eI (0 : Int)))] ?_
  refine bT 0 ?_
  refine cS [(0, (eL aE f0)), (3, (eI (0 : Int)))] ?_
  refine cG (fun T H => ∃ i3 : Int, Has T [(0, (eL aE f0)), (3, (eI i3))] ∧ aL ⟨H0, [], []⟩ H [] ∧ AT f0 i3 = some r) ?_ ⟨(0 : Int), aW, hO, h0⟩
  clear hO h0
  rintro T H ⟨i3, hT, hO, h0⟩
  refine bC hT ?_
  clear hT
  unfold AT at h0
  obtain ⟨rr0, hl0, h0⟩ := bB h0
  refine cZ (fun (s : Int) T H => Has T [(0, (eL aE f0)), (3, (eI s))] ∧ aL ⟨H0, [], []⟩ H []) hl0 ⟨aW, hO⟩ ?_
  clear hO
  rintro k0 s out1 T H ⟨hT, hO⟩ h1 ho0
  obtain ⟨i3, rfl⟩ : ∃ x, x = s := ⟨_, rfl⟩
  replace h1 : mX f0 i3 = some out1 := h1
  refine bC hT ?_
  clear hT
  unfold mX at h1
  refine aN ?_
  refine aU aF 4 [] [(10, (aK (decide (i3 < (lN f0)))))] ?_
  refine bK h1 (fun h1 => ?_) (fun h1 => ?_)
  · refine bO ?_
    refine bL [(0, (eL aE f0)), (3, (eI i3))] ?_
    refine aN ?_
    refine bT 1 ?_
    refine aN ?_
    refine aN ?_
    refine aV aF 38 ?_
    obtain ⟨c3, h1⟩ := bG h1
    obtain ⟨c4, h1⟩ := bG h1
    obtain ⟨c5, h1⟩ := bG h1
    obtain ⟨c6, h1⟩ := bG h1
    obtain ⟨c7, h1⟩ := bG h1
    refine oH [0 ≤ i3 ∧ i3 < (lN f0), (((!(decide (((gD f0 i3).At) < (-1 : Int))))) = true → 0 ≤ i3 ∧ i3 < (lN f0)), (((!((decide (((gD f0 i3).At) < (-1 : Int))) || (decide ((1125899906842624 : Int) ≤ ((gD f0 i3).At)))))) = true → 0 ≤ i3 ∧ i3 < (lN f0)), (((!(((decide (((gD f0 i3).At) < (-1 : Int))) || (decide ((1125899906842624 : Int) ≤ ((gD f0 i3).At)))) || (decide (((gD f0 i3).Net) = (0 : Int)))))) = true → 0 ≤ i3 ∧ i3 < (lN f0)), (((!((((decide (((gD f0 i3).At) < (-1 : Int))) || (decide ((1125899906842624 : Int) ≤ ((gD f0 i3).At)))) || (decide (((gD f0 i3).Net) = (0 : Int)))) || (decide ((1048576 : Int) < ((gD f0 i3).Net)))))) = true → 0 ≤ i3 ∧ i3 < (lN f0))] ⟨c3, c4, c5, c6, c7, trivial⟩ ?_
    refine bS [] [(50, (aK (((((decide (((gD f0 i3).At) < (-1 : Int))) || (decide ((1125899906842624 : Int) ≤ ((gD f0 i3).At)))) || (decide (((gD f0 i3).Net) = (0 : Int)))) || (decide ((1048576 : Int) < ((gD f0 i3).Net)))) || (decide (((gD f0 i3).Net) < (-1048576 : Int))))))] ?_
    refine bK h1 (fun h1 => ?_) (fun h1 => ?_)
    · refine bV aF 1 [(2, (aK false))] ?_
      refine bM ?_
      obtain rfl := oI h1
      obtain rfl : _ = rr0 := ho0
      replace h0 : some false = some r := h0
      obtain rfl := oI h0
      exact aH (aP (bJ (aP (aP (bJ (aP (Q_r hO)))))))
    refine bO ?_
    refine bL [(0, (eL aE f0)), (3, (eI i3))] ?_
    refine aN ?_
    obtain ⟨c9, h1⟩ := bG h1
    obtain ⟨c10, h1⟩ := bG h1
    refine fB (fC [58, 64]) aF 16 ?_
    refine yR (K := fun T H => Has (lift T) [(0, (eL aE f0)), (3, (eI i3)), (66, (aK ((decide ((0 : Int) < i3)) && (decide (((gD f0 i3).At) ≤ ((gD f0 (wR (i3 - (1 : Int)))).At))))))] ∧ aL ⟨H0, [], []⟩ H []) ?_ ?_
    · refine sG 3 ?_
      refine uB (t := 53) (e := decide ((0 : Int) < i3)) (by kernel_rfl) (fun hg11 => ?_) (fun hg11 => ?_)
      · refine FC (Ds := [0 ≤ i3 ∧ i3 < (lN f0), 0 ≤ (wR (i3 - (1 : Int))) ∧ (wR (i3 - (1 : Int))) < (lN f0)]) (by kernel_rfl) ⟨(c9 hg11), (c10 hg11), trivial⟩ ?_
        exact ⟨⟨[(0, (eL aE f0)), (3, (eI i3)), (66, (aK (decide (((gD f0 i3).At) ≤ ((gD f0 (wR (i3 - (1 : Int)))).At)))))], by kernel_rfl, rfl, ⟨bA.refl _, bA.refl _, bA.eq (congrArg aK (tO hg11 rfl).symm), trivial⟩⟩, hO⟩
      refine jB ?_
      exact ⟨⟨[(0, (eL aE f0)), (3, (eI i3)), (66, (aK false))], by kernel_rfl, rfl, ⟨bA.refl _, bA.refl _, bA.eq (congrArg aK (tO hg11 rfl).symm), trivial⟩⟩, hO⟩
    · rintro T H ⟨hT, hO⟩
      refine cV hT ?_
      clear hT
      refine aH (aG ?_)
      refine bK h1 (fun h1 => ?_) (fun h1 => ?_)
      · refine bV aF 1 [(2, (aK false))] ?_
        refine bM ?_
        obtain rfl := oI h1
        obtain rfl : _ = rr0 := ho0
        replace h0 : some false = some r := h0
        obtain rfl := oI h0
        exact aH (bJ (aP (aP (bJ (aP (Q_r hO))))))
      refine bO ?_
      refine cO [(0, (eL aE f0)), (3, (eI i3))] ?_
      refine aH (aX (aG (?_)))
      refine aV aF 3 ?_
      refine bH ?_
      exact aH (aG (⟨rfl, _, (oI h1).symm, aW, hO⟩))
  refine cX 0 ?_
  obtain rfl := oI h1
  obtain rfl : _ = rr0 := ho0
  replace h0 : xI  = some r := h0
  exact aH (aS (aS (bQ (aG (⟨rfl, aW, hO, h0⟩)))))

theorem OR (a0 : aI) (b1 : aI) (r : Int) (h0 : tE a0 b1 = some r) : cE Try.prog 75 [(aJ a0), (aJ b1)] (eI r) := by
  intro H0
  refine cF Try.func75 ?_
  have hO := aL.start H0
  unfold tE at h0
  refine aN ?_
  refine aV aF 3 ?_
  refine sE 3 (aJ a0) ?_
  refine sE 3 (aJ b1) ?_
  refine bH ?_
  refine bL [(2, (.rp (aJ a0))), (3, (.rp (aJ b1)))] ?_
  refine aN ?_
  refine aN ?_
  refine aV aF 8 ?_
  refine bP 1 ?_
  obtain ⟨x1, hx2, h0⟩ := bB h0
  refine dB (FV a0 _ hx2) hO ?_
  intro H hO
  refine bP 5 ?_
  obtain ⟨x4, hx5, h0⟩ := bB h0
  refine pM [(9, false)] 74 [(aJ b1)] (aK x4) (!(!x1)) (by kernel_rfl) (by kernel_rfl) (by kernel_rfl) (fun hb6 => (FV b1 _ (qW hx5 hb6))) hO ?_
  intro H hO
  refine bH ?_
  refine bS [] [(13, (aK ((!x1) || (!x4))))] ?_
  refine bK h0 (fun h0 => ?_) (fun h0 => ?_)
  · refine bV aF 1 [(4, (eI (0 : Int)))] ?_
    refine bM ?_
    obtain rfl := oI h0
    exact aH (aP (Q_r hO))
  refine bO ?_
  refine bL [(2, (.rp (aJ a0))), (3, (.rp (aJ b1)))] ?_
  refine aN ?_
  refine aU aF 5 [] [(18, (aK (!decide (a0.Kind = b1.Kind))))] ?_
  refine bK h0 (fun h0 => ?_) (fun h0 => ?_)
  · refine aN ?_
    refine bV aF 3 [(21, (aK (decide (a0.Kind = (1 : Int)))))] ?_
    refine bK h0 (fun h0 => ?_) (fun h0 => ?_)
    · refine bV aF 1 [(4, (eI (-1 : Int)))] ?_
      refine bM ?_
      obtain rfl := oI h0
      exact aH (aP (aP (Q_r hO)))
    refine bO ?_
    refine bL [] ?_
    refine bV aF 1 [(4, (eI (1 : Int)))] ?_
    refine bM ?_
    obtain rfl := oI h0
    exact aH (aP (Q_r hO))
  refine bO ?_
  refine bL [(2, (.rp (aJ a0))), (3, (.rp (aJ b1)))] ?_
  refine aN ?_
  refine aU aF 5 [] [(26, (aK (!decide (a0.Num = b1.Num))))] ?_
  refine bK h0 (fun h0 => ?_) (fun h0 => ?_)
  · refine aN ?_
    refine bV aF 5 [(31, (aK (decide (a0.Num < b1.Num))))] ?_
    refine bK h0 (fun h0 => ?_) (fun h0 => ?_)
    · refine bV aF 1 [(4, (eI (-1 : Int)))] ?_
      refine bM ?_
      obtain rfl := oI h0
      exact aH (aP (aP (Q_r hO)))
    refine bO ?_
    refine bL [] ?_
    refine bV aF 1 [(4, (eI (1 : Int)))] ?_
    refine bM ?_
    obtain rfl := oI h0
    exact aH (aP (Q_r hO))
  refine bO ?_
  refine bL [(2, (.rp (aJ a0))), (3, (.rp (aJ b1)))] ?_
  refine cK (fun T H => ∃ a2 : aI, ∃ b3 : aI, Has T [(2, (.rp (aJ a2))), (3, (.rp (aJ b3)))] ∧ aL ⟨H0, [], []⟩ H [] ∧ sC a2 b3 = some r) ?_ ?_
  · clear hO h0
    rintro T H ⟨a2, b3, hT, hO, h0⟩
    refine bC hT ?_
    clear hT
    unfold sC at h0
    refine aN ?_
    refine aU aF 7 [] [(70, (aK (!decide (((ByteArray.size a2.Text : Nat) : Int) = ((ByteArray.size b3.Text : Nat) : Int)))))] ?_
    refine bK h0 (fun h0 => ?_) (fun h0 => ?_)
    · refine aN ?_
      refine bV aF 7 [(77, (aK (decide (((ByteArray.size a2.Text : Nat) : Int) < ((ByteArray.size b3.Text : Nat) : Int)))))] ?_
      refine bK h0 (fun h0 => ?_) (fun h0 => ?_)
      · refine bV aF 1 [(4, (eI (-1 : Int)))] ?_
        refine bM ?_
        obtain rfl := oI h0
        exact aH (aP (aP (Q_r hO)))
      refine bO ?_
      refine bL [] ?_
      refine bV aF 1 [(4, (eI (1 : Int)))] ?_
      refine bM ?_
      obtain rfl := oI h0
      exact aH (aP (Q_r hO))
    refine bO ?_
    refine bL [] ?_
    refine bV aF 1 [(4, (eI (0 : Int)))] ?_
    refine bM ?_
    obtain rfl := oI h0
    exact aH (Q_r hO)
  refine aU aF 1 [] [(5, (eI (0 : Int)))] ?_
  refine bT 0 ?_
  refine cS [(2, (.rp (aJ a0))), (3, (.rp (aJ b1))), (5, (eI (0 : Int)))] ?_
  refine cG (fun T H => ∃ a2 : aI, ∃ b3 : aI, ∃ i5 : Int, Has T [(2, (.rp (aJ a2))), (3, (.rp (aJ b3))), (5, (eI i5))] ∧ aL ⟨H0, [], []⟩ H [] ∧ uX a2 b3 i5 = some r) ?_ ⟨a0, b1, (0 : Int), aW, hO, h0⟩
  clear hO h0
  rintro T H ⟨a2, b3, i5, hT, hO, h0⟩
  refine bC hT ?_
  clear hT
  unfold uX at h0
  obtain ⟨rr0, hl0, h0⟩ := bB h0
  refine cZ (fun (s : Int) T H => Has T [(2, (.rp (aJ a2))), (3, (.rp (aJ b3))), (5, (eI s))] ∧ aL ⟨H0, [], []⟩ H []) hl0 ⟨aW, hO⟩ ?_
  clear hO
  rintro k0 s out1 T H ⟨hT, hO⟩ h1 ho0
  obtain ⟨i5, rfl⟩ : ∃ x, x = s := ⟨_, rfl⟩
  replace h1 : gW a2 b3 i5 = some out1 := h1
  refine bC hT ?_
  clear hT
  unfold gW at h1
  refine aN ?_
  refine aU aF 12 [] [(43, (aK ((decide (i5 < ((ByteArray.size a2.Text : Nat) : Int))) && (decide (i5 < ((ByteArray.size b3.Text : Nat) : Int))))))] ?_
  refine bK h1 (fun h1 => ?_) (fun h1 => ?_)
  · refine bO ?_
    refine bL [(2, (.rp (aJ a2))), (3, (.rp (aJ b3))), (5, (eI i5))] ?_
    refine aN ?_
    refine bT 1 ?_
    refine aN ?_
    refine fB (fC [47, 51]) aF 9 ?_
    obtain ⟨c15, h1⟩ := bG h1
    obtain ⟨c16, h1⟩ := bG h1
    refine FC (Ds := [0 ≤ i5 ∧ i5 < ((ByteArray.size a2.Text : Nat) : Int), 0 ≤ i5 ∧ i5 < ((ByteArray.size b3.Text : Nat) : Int)]) (by kernel_rfl) ⟨c15, c16, trivial⟩ ?_
    refine bS [] [(54, (aK (!decide ((bt a2.Text i5) = (bt b3.Text i5)))))] ?_
    refine bK h1 (fun h1 => ?_) (fun h1 => ?_)
    · refine aN ?_
      refine aN ?_
      refine fB (fC [56, 60]) aF 9 ?_
      obtain ⟨c18, h1⟩ := bG h1
      obtain ⟨c19, h1⟩ := bG h1
      refine FC (Ds := [0 ≤ i5 ∧ i5 < ((ByteArray.size a2.Text : Nat) : Int), 0 ≤ i5 ∧ i5 < ((ByteArray.size b3.Text : Nat) : Int)]) (by kernel_rfl) ⟨c18, c19, trivial⟩ ?_
      refine bL [(63, (aK (decide ((bt a2.Text i5) < (bt b3.Text i5)))))] ?_
      refine bK h1 (fun h1 => ?_) (fun h1 => ?_)
      · refine bV aF 1 [(4, (eI (-1 : Int)))] ?_
        refine bM ?_
        obtain rfl := oI h1
        obtain rfl : _ = rr0 := ho0
        replace h0 : some (-1 : Int) = some r := h0
        obtain rfl := oI h0
        exact aH (aP (bJ (aP (aP (bJ (aP (Q_r hO)))))))
      refine bO ?_
      refine bL [] ?_
      refine bV aF 1 [(4, (eI (1 : Int)))] ?_
      refine bM ?_
      obtain rfl := oI h1
      obtain rfl : _ = rr0 := ho0
      replace h0 : some (1 : Int) = some r := h0
      obtain rfl := oI h0
      exact aH (bJ (aP (aP (bJ (aP (Q_r hO))))))
    refine bO ?_
    refine cO [(2, (.rp (aJ a2))), (3, (.rp (aJ b3))), (5, (eI i5))] ?_
    refine aH (aX (aG (?_)))
    refine aV aF 3 ?_
    refine bH ?_
    exact aH (aG (⟨rfl, _, (oI h1).symm, aW, hO⟩))
  refine cX 0 ?_
  obtain rfl := oI h1
  obtain rfl : _ = rr0 := ho0
  replace h0 : sC a2 b3 = some r := h0
  exact aH (aS (aS (bQ (aG (⟨rfl, _, _, aW, hO, h0⟩)))))

theorem FL (a0 : (List aI)) (b1 : (List aI)) (r : Int) (h0 : qN a0 b1 = some r) : cE Try.prog 50 [(eL aJ a0), (eL aJ b1)] (eI r) := by
  intro H0
  refine cF Try.func50 ?_
  have hO := aL.start H0
  unfold qN at h0
  refine aU aF 1 [] [] ?_
  refine aN ?_
  refine aN ?_
  refine aV aF 8 ?_
  refine bP 1 ?_
  obtain ⟨x1, hx2, h0⟩ := bB h0
  refine dB (CK a0 _ hx2) hO ?_
  intro H hO
  refine bP 5 ?_
  obtain ⟨x4, hx5, h0⟩ := bB h0
  refine pM [(10, false)] 48 [(eL aJ b1)] (aK x4) (!(!x1)) (by kernel_rfl) (by kernel_rfl) (by kernel_rfl) (fun hb6 => (CK b1 _ (qW hx5 hb6))) hO ?_
  intro H hO
  refine bH ?_
  refine bS [] [(14, (aK ((!x1) || (!x4))))] ?_
  refine bK h0 (fun h0 => ?_) (fun h0 => ?_)
  · refine bV aF 1 [(4, (eI (0 : Int)))] ?_
    refine bM ?_
    obtain rfl := oI h0
    exact aH (aP (Q_r hO))
  refine bO ?_
  refine bL [(0, (eL aJ a0)), (1, (eL aJ b1))] ?_
  refine cK (fun T H => Has T [(0, (eL aJ a0)), (1, (eL aJ b1))] ∧ aL ⟨H0, [], []⟩ H [] ∧ rW a0 b1 = some r) ?_ ?_
  · clear hO h0
    rintro T H ⟨hT, hO, h0⟩
    refine bC hT ?_
    clear hT
    unfold rW at h0
    refine aN ?_
    refine aU aF 5 [] [(43, (aK (decide ((lN a0) < (lN b1)))))] ?_
    refine bK h0 (fun h0 => ?_) (fun h0 => ?_)
    · refine bV aF 1 [(4, (eI (-1 : Int)))] ?_
      refine bM ?_
      obtain rfl := oI h0
      exact aH (aP (Q_r hO))
    refine bO ?_
    refine bL [(0, (eL aJ a0)), (1, (eL aJ b1))] ?_
    refine aN ?_
    refine bV aF 5 [(48, (aK (decide ((lN b1) < (lN a0)))))] ?_
    refine bK h0 (fun h0 => ?_) (fun h0 => ?_)
    · refine bV aF 1 [(4, (eI (1 : Int)))] ?_
      refine bM ?_
      obtain rfl := oI h0
      exact aH (aP (Q_r hO))
    refine bO ?_
    refine bL [] ?_
    refine bV aF 1 [(4, (eI (0 : Int)))] ?_
    refine bM ?_
    obtain rfl := oI h0
    exact aH (Q_r hO)
  refine aU aF 1 [] [(5, (eI (0 : Int)))] ?_
  refine bT 0 ?_
  refine cS [(0, (eL aJ a0)), (1, (eL aJ b1)), (5, (eI (0 : Int)))] ?_
  refine cG (fun T H => ∃ i5 : Int, Has T [(0, (eL aJ a0)), (1, (eL aJ b1)), (5, (eI i5))] ∧ aL ⟨H0, [], []⟩ H [] ∧ uR a0 b1 i5 = some r) ?_ ⟨(0 : Int), aW, hO, h0⟩
  clear hO h0
  rintro T H ⟨i5, hT, hO, h0⟩
  refine bC hT ?_
  clear hT
  unfold uR at h0
  obtain ⟨rr0, hl0, h0⟩ := bB h0
  refine cZ (fun (s : Int) T H => Has T [(0, (eL aJ a0)), (1, (eL aJ b1)), (5, (eI s))] ∧ aL ⟨H0, [], []⟩ H []) hl0 ⟨aW, hO⟩ ?_
  clear hO
  rintro k0 s out1 T H ⟨hT, hO⟩ h1 ho0
  obtain ⟨i5, rfl⟩ : ∃ x, x = s := ⟨_, rfl⟩
  replace h1 : gY a0 b1 i5 = some out1 := h1
  refine bC hT ?_
  clear hT
  unfold gY at h1
  refine aN ?_
  refine aU aF 10 [] [(24, (aK ((decide (i5 < (lN a0))) && (decide (i5 < (lN b1))))))] ?_
  refine bK h1 (fun h1 => ?_) (fun h1 => ?_)
  · refine bO ?_
    refine bL [(0, (eL aJ a0)), (1, (eL aJ b1)), (5, (eI i5))] ?_
    refine aN ?_
    refine bT 1 ?_
    refine aN ?_
    refine fB (fC [30, 34, 35]) aF 10 ?_
    obtain ⟨c11, h1⟩ := bG h1
    obtain ⟨c12, h1⟩ := bG h1
    refine cW 8 [0 ≤ i5 ∧ i5 < (lN a0), 0 ≤ i5 ∧ i5 < (lN b1)] ⟨c11, c12, trivial⟩ ?_
    obtain ⟨x13, hx14, h1⟩ := bB h1
    refine BF (OR (gD a0 i5) (gD b1 i5) _ hx14) hO ?_
    intro H hO
    refine jB ?_
    refine bS [] [(6, (eI x13))] ?_
    refine aU aF 2 [] [(37, (aK (!decide (x13 = (0 : Int)))))] ?_
    refine bK h1 (fun h1 => ?_) (fun h1 => ?_)
    · refine bV aF 2 [(4, (eI x13))] ?_
      refine bM ?_
      obtain rfl := oI h1
      obtain rfl : _ = rr0 := ho0
      replace h0 : some x13 = some r := h0
      obtain rfl := oI h0
      exact aH (bJ (aP (aP (bJ (aP (Q_r hO))))))
    refine bO ?_
    refine cO [(0, (eL aJ a0)), (1, (eL aJ b1)), (5, (eI i5))] ?_
    refine aH (aX (aG (?_)))
    refine aV aF 3 ?_
    refine bH ?_
    exact aH (aG (⟨rfl, _, (oI h1).symm, aW, hO⟩))
  refine cX 0 ?_
  obtain rfl := oI h1
  obtain rfl : _ = rr0 := ho0
  replace h0 : rW a0 b1 = some r := h0
  exact aH (aS (aS (bQ (aG (⟨rfl, aW, hO, h0⟩)))))

theorem ET (a0 : (List aI)) (b1 : (List aI)) (r : Bool) (h0 : rT a0 b1 = some r) : cE Try.prog 43 [(eL aJ a0), (eL aJ b1)] (aK r) := by
  intro H0
  refine cF Try.func43 ?_
  have hO := aL.start H0
  unfold rT at h0
  refine aU aF 1 [] [] ?_
  refine aN ?_
  refine aU aF 5 [] [(10, (aK (!decide ((lN a0) = (lN b1)))))] ?_
  refine bK h0 (fun h0 => ?_) (fun h0 => ?_)
  · refine bV aF 1 [(4, (aK false))] ?_
    refine bM ?_
    obtain rfl := oI h0
    exact aH (aP (Q_r hO))
  refine bO ?_
  refine bL [(0, (eL aJ a0)), (1, (eL aJ b1))] ?_
  refine cK (fun T H => Has T [] ∧ aL ⟨H0, [], []⟩ H [] ∧ vP  = some r) ?_ ?_
  · clear hO h0
    rintro T H ⟨hT, hO, h0⟩
    refine bC hT ?_
    clear hT
    unfold vP at h0
    refine bV aF 1 [(4, (aK true))] ?_
    refine bM ?_
    obtain rfl := oI h0
    exact aH (Q_r hO)
  refine aU aF 1 [] [(5, (eI (0 : Int)))] ?_
  refine bT 0 ?_
  refine cS [(0, (eL aJ a0)), (1, (eL aJ b1)), (5, (eI (0 : Int)))] ?_
  refine cG (fun T H => ∃ i5 : Int, Has T [(0, (eL aJ a0)), (1, (eL aJ b1)), (5, (eI i5))] ∧ aL ⟨H0, [], []⟩ H [] ∧ yY a0 b1 i5 = some r) ?_ ⟨(0 : Int), aW, hO, h0⟩
  clear hO h0
  rintro T H ⟨i5, hT, hO, h0⟩
  refine bC hT ?_
  clear hT
  unfold yY at h0
  obtain ⟨rr0, hl0, h0⟩ := bB h0
  refine cZ (fun (s : Int) T H => Has T [(0, (eL aJ a0)), (1, (eL aJ b1)), (5, (eI s))] ∧ aL ⟨H0, [], []⟩ H []) hl0 ⟨aW, hO⟩ ?_
  clear hO
  rintro k0 s out1 T H ⟨hT, hO⟩ h1 ho0
  obtain ⟨i5, rfl⟩ : ∃ x, x = s := ⟨_, rfl⟩
  replace h1 : sP a0 b1 i5 = some out1 := h1
  refine bC hT ?_
  clear hT
  unfold sP at h1
  refine aN ?_
  refine aU aF 4 [] [(14, (aK (decide (i5 < (lN a0)))))] ?_
  refine bK h1 (fun h1 => ?_) (fun h1 => ?_)
  · refine bO ?_
    refine bL [(0, (eL aJ a0)), (1, (eL aJ b1)), (5, (eI i5))] ?_
    refine aN ?_
    refine bT 1 ?_
    refine aN ?_
    refine fB (fC [20, 24]) aF 9 ?_
    obtain ⟨c3, h1⟩ := bG h1
    obtain ⟨c4, h1⟩ := bG h1
    refine FC (Ds := [0 ≤ i5 ∧ i5 < (lN a0), 0 ≤ i5 ∧ i5 < (lN b1)]) (by kernel_rfl) ⟨c3, c4, trivial⟩ ?_
    refine bS [] [(25, (aK (!((decide (((gD a0 i5).Kind) = ((gD b1 i5).Kind))) && ((decide (((gD a0 i5).Num) = ((gD b1 i5).Num))) && ((pS ((gD a0 i5).Text) ((gD b1 i5).Text)) && true))))))] ?_
    refine bK h1 (fun h1 => ?_) (fun h1 => ?_)
    · refine bV aF 1 [(4, (aK false))] ?_
      refine bM ?_
      obtain rfl := oI h1
      obtain rfl : _ = rr0 := ho0
      replace h0 : some false = some r := h0
      obtain rfl := oI h0
      exact aH (bJ (aP (aP (bJ (aP (Q_r hO))))))
    refine bO ?_
    refine cO [(0, (eL aJ a0)), (1, (eL aJ b1)), (5, (eI i5))] ?_
    refine aH (aX (aG (?_)))
    refine aV aF 3 ?_
    refine bH ?_
    exact aH (aG (⟨rfl, _, (oI h1).symm, aW, hO⟩))
  refine cX 0 ?_
  obtain rfl := oI h1
  obtain rfl : _ = rr0 := ho0
  replace h0 : vP  = some r := h0
  exact aH (aS (aS (bQ (aG (⟨rfl, aW, hO, h0⟩)))))

theorem LA (l0 : (List aB)) (r : (List (List aI))) (h0 : tT l0 = some r) : cE Try.prog 51 [(eL aA l0)] (eL (eL aJ) r) := by
  intro H0
  refine cF Try.func51 ?_
  have hO := aL.start H0
  unfold tT at h0
  refine aU aF 1 [] [] ?_
  refine aN ?_
  refine aV aF 2 ?_
  refine kM [] 1 ?_
  refine bH ?_
  refine bS [] [(3, (.sl true 0 (fun _ => .bad)))] ?_
  refine cK (fun T H => ∃ bW : List (List aI), ∃ lo1 : Nat, Has T [(3, (.msl 1 lo1 0 (List.length bW)))] ∧ aL ⟨H0, [], []⟩ H [(lo1, 1, List.map (eL aJ) bW)] ∧ zB bW = some r) ?_ ?_
  · clear hO h0
    rintro T H ⟨bW, lo1, hT, hO, h0⟩
    refine bC hT ?_
    clear hT
    unfold zB at h0
    refine bV aF 2 [(2, (.msl 1 lo1 0 (List.length bW)))] ?_
    refine bM ?_
    refine cO [(2, (.msl 1 lo1 0 (List.length bW)))] ?_
    refine uL (en := (eL aJ)) bW 0 0 2 1 lo1 (List.length bW) hO (by kernel_rfl) (by kernel_rfl) (by kernel_rfl) (L' := []) (by kernel_rfl) ?_
    intro H2 hO
    obtain rfl := oI h0
    exact aH (Q_r hO)
  refine aU aF 1 [] [(4, (eI (0 : Int)))] ?_
  refine bT 0 ?_
  refine cS [(0, (eL aA l0)), (3, (.sl true 0 (fun _ => .bad))), (4, (eI (0 : Int)))] ?_
  refine vJ (el := (fun _ => .bad)) 1 3 1 hO (by kernel_rfl) ?_
  intro lo31 H32 hO
  refine cG (fun T H => ∃ bW : List (List aI), ∃ i4 : Int, ∃ lo4 : Nat, Has T [(0, (eL aA l0)), (3, (.msl 1 lo4 0 (List.length bW))), (4, (eI i4))] ∧ aL ⟨H0, [], []⟩ H [(lo4, 1, List.map (eL aJ) bW)] ∧ zD l0 bW i4 = some r) ?_ ⟨([] : List (List aI)), (0 : Int), lo31, aW, hO, h0⟩
  clear hO h0
  rintro T H ⟨bW, i4, lo4, hT, hO, h0⟩
  refine bC hT ?_
  clear hT
  unfold zD at h0
  obtain ⟨rr0, hl0, h0⟩ := bB h0
  refine cZ (fun (s : List (List aI) × Int) T H => ∃ lo4 : Nat, Has T [(0, (eL aA l0)), (3, (.msl 1 lo4 0 (List.length s.1))), (4, (eI s.2))] ∧ aL ⟨H0, [], []⟩ H [(lo4, 1, List.map (eL aJ) s.1)]) hl0 ⟨lo4, aW, hO⟩ ?_
  clear hO
  rintro k0 s out1 T H ⟨lo4, hT, hO⟩ h1 ho0
  obtain ⟨bW, i4⟩ := s
  replace h1 : oM l0 bW i4 = some out1 := h1
  try dsimp only at hT
  refine bC hT ?_
  clear hT
  unfold oM at h1
  refine aN ?_
  refine aU aF 4 [] [(11, (aK (decide (i4 < (lN l0)))))] ?_
  refine bK h1 (fun h1 => ?_) (fun h1 => ?_)
  · refine bO ?_
    refine bL [(0, (eL aA l0)), (3, (.msl 1 lo4 0 (List.length bW))), (4, (eI i4))] ?_
    refine cK (fun T H => ∃ bW : List (List aI), ∃ lo6 : Nat, Has T [(0, (eL aA l0)), (3, (.msl 1 lo6 0 (List.length bW))), (4, (eI i4))] ∧ aL ⟨H0, [], []⟩ H [(lo6, 1, List.map (eL aJ) bW)] ∧ vQ l0 bW i4 = some out1) ?_ ?_
    · clear hO h1
      rintro T H ⟨bW, lo6, hT, hO, h1⟩
      refine bC hT ?_
      clear hT
      unfold vQ at h1
      refine aV aF 3 ?_
      refine bH ?_
      exact aH (aG (⟨rfl, _, (oI h1).symm, _, aW, hO⟩))
    refine bT 1 ?_
    refine aU aF 1 [] [(5, (eI (0 : Int)))] ?_
    refine cK (fun T H => ∃ bW : List (List aI), ∃ at5 : Int, ∃ lo7 : Nat, Has T [(0, (eL aA l0)), (3, (.msl 1 lo7 0 (List.length bW))), (4, (eI i4)), (5, (eI at5))] ∧ aL ⟨H0, [], []⟩ H [(lo7, 1, List.map (eL aJ) bW)] ∧ vU l0 bW i4 at5 = some out1) ?_ ?_
    · clear hO h1
      rintro T H ⟨bW, at5, lo7, hT, hO, h1⟩
      refine bC hT ?_
      clear hT
      unfold vU at h1
      refine aN ?_
      refine aN ?_
      obtain ⟨c8, h1⟩ := bG h1
      obtain ⟨c9, h1⟩ := bG h1
      obtain ⟨x10, hx11, h1⟩ := bB h1
      refine fB (fC [46]) aF 16 ?_
      refine yR (K := fun T H => Has (lift T) [(0, (eL aA l0)), (3, (.msl 1 lo7 0 (List.length bW))), (4, (eI i4)), (5, (eI at5)), (48, (aK ((decide (at5 < (lN bW))) && x10)))] ∧ aL ⟨H0, [], []⟩ H [(lo7, 1, List.map (eL aJ) bW)]) ?_ ?_
      · refine sG 5 ?_
        refine uB (t := 37) (e := decide (at5 < (lN bW))) (by kernel_rfl) (fun hg12 => ?_) (fun hg12 => ?_)
        · refine cW 8 [0 ≤ at5 ∧ at5 < (lN bW)] ⟨(c8 hg12), trivial⟩ ?_
          refine JI 0 lo7 1 (0 + Int.toNat at5) (eL aJ (gD bW at5)) (eL aJ (gD bW at5)) (List.map (eL aJ) bW) hO (cD (c8 hg12)) ?_
          refine cW 14 [0 ≤ i4 ∧ i4 < (lN l0)] ⟨(c9 hg12), trivial⟩ ?_
          refine BT 43 [(eL aJ (gD bW at5)), (eL aJ ((gD l0 i4).Row))] (aK x10) (by kernel_rfl) (by kernel_rfl) (ET (gD bW at5) ((gD l0 i4).Row) _ (qW hx11 hg12)) hO ?_
          intro H hO
          refine jB ?_
          exact ⟨⟨[(0, (eL aA l0)), (3, (.msl 1 lo7 0 (List.length bW))), (4, (eI i4)), (5, (eI at5)), (48, (aK x10))], by kernel_rfl, rfl, ⟨bA.refl _, bA.refl _, bA.refl _, bA.refl _, bA.eq (congrArg aK (tO hg12 rfl).symm), trivial⟩⟩, hO⟩
        refine jB ?_
        exact ⟨⟨[(0, (eL aA l0)), (3, (.msl 1 lo7 0 (List.length bW))), (4, (eI i4)), (5, (eI at5)), (48, (aK false))], by kernel_rfl, rfl, ⟨bA.refl _, bA.refl _, bA.refl _, bA.refl _, bA.eq (congrArg aK (tO hg12 rfl).symm), trivial⟩⟩, hO⟩
      · rintro T H ⟨hT, hO⟩
        refine cV hT ?_
        clear hT
        refine aH (aG ?_)
        refine bK h1 (fun h1 => ?_) (fun h1 => ?_)
        · refine cX 1 ?_
          exact aH (aS (bQ (aG (⟨rfl, _, _, aW, hO, h1⟩))))
        refine bO ?_
        refine bL [(0, (eL aA l0)), (3, (.msl 1 lo7 0 (List.length bW))), (4, (eI i4)), (5, (eI at5))] ?_
        refine aN ?_
        refine aV aF 6 ?_
        refine kM [] 1 ?_
        obtain ⟨c14, h1⟩ := bG h1
        refine iB 4 [0 ≤ at5 ∧ at5 ≤ (lN bW)] ⟨c14, trivial⟩ ?_
        obtain ⟨c16, h1⟩ := bG h1
        refine LG (e := (eL aJ)) (List.take (Int.toNat at5) bW) (fun _ => .bad) 1 24 (.msl 1 lo7 0 (Int.toNat at5)) (fun lo15 => [(lo7, 1, List.map (eL aJ) bW), (lo15, 1, List.map (eL aJ) (List.take (Int.toNat at5) bW))]) (by kernel_rfl) (by kernel_rfl) hO (TB hO 0 (by kernel_rfl) (Int.toNat_le.2 (And.right c14))) c16 (fun _ => by kernel_rfl) ?_
        intro lo15 H hO
        refine bH ?_
        refine bS [] [(6, (.msl 1 lo15 0 (List.length (List.take (Int.toNat at5) bW))))] ?_
        refine aN ?_
        refine aV aF 9 ?_
        obtain ⟨c17, h1⟩ := bG h1
        refine iB 6 [0 ≤ i4 ∧ i4 < (lN l0)] ⟨c17, trivial⟩ ?_
        refine kM [(eL aJ ((gD l0 i4).Row))] 1 ?_
        obtain ⟨c19, h1⟩ := bG h1
        refine wD (eL aJ) (List.take (Int.toNat at5) bW) ([(gD l0 i4).Row]) 1 lo15 1 24 (dA [(eL aJ ((gD l0 i4).Row))]) (fun lo18 => [(lo7, 1, List.map (eL aJ) bW), (lo18, 1, List.map (eL aJ) ((List.take (Int.toNat at5) bW) ++ ([(gD l0 i4).Row])))]) hO (by kernel_rfl) c19 ?_
        intro lo18 H hO
        refine bH ?_
        refine bS [6] [(6, (.msl 1 lo18 0 (List.length ((List.take (Int.toNat at5) bW) ++ ([(gD l0 i4).Row])))))] ?_
        refine aV aF 6 ?_
        obtain ⟨c20, h1⟩ := bG h1
        refine iB 4 [0 ≤ at5 ∧ at5 ≤ (lN bW)] ⟨c20, trivial⟩ ?_
        obtain ⟨c22, h1⟩ := bG h1
        refine wD (eL aJ) ((List.take (Int.toNat at5) bW) ++ ([(gD l0 i4).Row])) (List.drop (Int.toNat at5) bW) 1 lo18 1 24 (.msl 1 lo7 (0 + Int.toNat at5) (List.length bW - Int.toNat at5)) (fun lo21 => [(lo7, 1, List.map (eL aJ) bW), (lo21, 1, List.map (eL aJ) (((List.take (Int.toNat at5) bW) ++ ([(gD l0 i4).Row])) ++ (List.drop (Int.toNat at5) bW)))]) hO (SV hO 0 (by kernel_rfl) rfl (Int.toNat_le.2 (And.right c20))) c22 ?_
        intro lo21 H hO
        refine bH ?_
        replace hO := hO.pick (L' := [(lo21, 1, List.map (eL aJ) (((List.take (Int.toNat at5) bW) ++ ([(gD l0 i4).Row])) ++ (List.drop (Int.toNat at5) bW)))]) [1] (by decide) (by kernel_rfl)
        exact aH (aX (aG (⟨rfl, _, _, aW, hO, h1⟩)))
    refine bT 2 ?_
    refine cS [(0, (eL aA l0)), (3, (.msl 1 lo4 0 (List.length bW))), (4, (eI i4)), (5, (eI (0 : Int)))] ?_
    refine cG (fun T H => ∃ bW : List (List aI), ∃ at5 : Int, ∃ lo24 : Nat, Has T [(0, (eL aA l0)), (3, (.msl 1 lo24 0 (List.length bW))), (4, (eI i4)), (5, (eI at5))] ∧ aL ⟨H0, [], []⟩ H [(lo24, 1, List.map (eL aJ) bW)] ∧ zT l0 bW i4 at5 = some out1) ?_ ⟨bW, (0 : Int), lo4, aW, hO, h1⟩
    clear hO h1
    rintro T H ⟨bW, at5, lo24, hT, hO, h1⟩
    refine bC hT ?_
    clear hT
    unfold zT at h1
    obtain ⟨rr1, hl1, h1⟩ := bB h1
    refine cZ (fun (s : List (List aI) × Int) T H => ∃ lo24 : Nat, Has T [(0, (eL aA l0)), (3, (.msl 1 lo24 0 (List.length s.1))), (4, (eI i4)), (5, (eI s.2))] ∧ aL ⟨H0, [], []⟩ H [(lo24, 1, List.map (eL aJ) s.1)]) hl1 ⟨lo24, aW, hO⟩ ?_
    clear hO
    rintro k1 s out2 T H ⟨lo24, hT, hO⟩ h2 ho1
    obtain ⟨bW, at5⟩ := s
    replace h2 : nE l0 i4 bW at5 = some out2 := h2
    try dsimp only at hT
    refine bC hT ?_
    clear hT
    unfold nE at h2
    refine aN ?_
    refine aN ?_
    obtain ⟨c25, h2⟩ := bG h2
    obtain ⟨c26, h2⟩ := bG h2
    obtain ⟨x27, hx28, h2⟩ := bB h2
    refine fB (fC [27]) aF 17 ?_
    refine yR (K := fun T H => Has (lift T) [(0, (eL aA l0)), (3, (.msl 1 lo24 0 (List.length bW))), (4, (eI i4)), (5, (eI at5)), (30, (aK ((decide (at5 < (lN bW))) && (decide (x27 < (0 : Int))))))] ∧ aL ⟨H0, [], []⟩ H [(lo24, 1, List.map (eL aJ) bW)]) ?_ ?_
    · refine sG 5 ?_
      refine uB (t := 18) (e := decide (at5 < (lN bW))) (by kernel_rfl) (fun hg29 => ?_) (fun hg29 => ?_)
      · refine cW 8 [0 ≤ at5 ∧ at5 < (lN bW)] ⟨(c25 hg29), trivial⟩ ?_
        refine JI 0 lo24 1 (0 + Int.toNat at5) (eL aJ (gD bW at5)) (eL aJ (gD bW at5)) (List.map (eL aJ) bW) hO (cD (c25 hg29)) ?_
        refine cW 14 [0 ≤ i4 ∧ i4 < (lN l0)] ⟨(c26 hg29), trivial⟩ ?_
        refine BT 50 [(eL aJ (gD bW at5)), (eL aJ ((gD l0 i4).Row))] (eI x27) (by kernel_rfl) (by kernel_rfl) (FL (gD bW at5) ((gD l0 i4).Row) _ (qW hx28 hg29)) hO ?_
        intro H hO
        refine jB ?_
        exact ⟨⟨[(0, (eL aA l0)), (3, (.msl 1 lo24 0 (List.length bW))), (4, (eI i4)), (5, (eI at5)), (30, (aK (decide (x27 < (0 : Int)))))], by kernel_rfl, rfl, ⟨bA.refl _, bA.refl _, bA.refl _, bA.refl _, bA.eq (congrArg aK (tO hg29 rfl).symm), trivial⟩⟩, hO⟩
      refine jB ?_
      exact ⟨⟨[(0, (eL aA l0)), (3, (.msl 1 lo24 0 (List.length bW))), (4, (eI i4)), (5, (eI at5)), (30, (aK false))], by kernel_rfl, rfl, ⟨bA.refl _, bA.refl _, bA.refl _, bA.refl _, bA.eq (congrArg aK (tO hg29 rfl).symm), trivial⟩⟩, hO⟩
    · rintro T H ⟨hT, hO⟩
      refine cV hT ?_
      clear hT
      refine aH (aG ?_)
      refine bK h2 (fun h2 => ?_) (fun h2 => ?_)
      · refine bO ?_
        refine bL [(0, (eL aA l0)), (3, (.msl 1 lo24 0 (List.length bW))), (4, (eI i4)), (5, (eI at5))] ?_
        refine bT 3 ?_
        refine aV aF 3 ?_
        refine bH ?_
        exact aH (aX (aG (⟨rfl, _, (oI h2).symm, _, aW, hO⟩)))
      refine cX 2 ?_
      obtain rfl := oI h2
      obtain rfl : _ = rr1 := ho1
      replace h1 : vU l0 bW i4 at5 = some out1 := h1
      exact aH (aS (aS (bQ (aG (⟨rfl, _, _, _, aW, hO, h1⟩)))))
  refine cX 0 ?_
  obtain rfl := oI h1
  obtain rfl : _ = rr0 := ho0
  replace h0 : zB bW = some r := h0
  exact aH (aS (aS (bQ (aG (⟨rfl, _, _, aW, hO, h0⟩)))))

theorem IN (l0 : (List aB)) (r1 : (List aI)) (r : (List aD)) (h0 : sV l0 r1 = some r) : cE Try.prog 52 [(eL aA l0), (eL aJ r1)] (eL aE r) := by
  intro H0
  refine cF Try.func52 ?_
  have hO := aL.start H0
  unfold sV at h0
  refine aU aF 1 [] [] ?_
  refine aN ?_
  refine aV aF 2 ?_
  refine kM [] 2 ?_
  refine bH ?_
  refine bS [] [(5, (.sl true 0 (fun _ => .bad)))] ?_
  refine cK (fun T H => ∃ f5 : List aD, ∃ lo1 : Nat, Has T [(5, (.msl 2 lo1 0 (List.length f5)))] ∧ aL ⟨H0, [], []⟩ H [(lo1, 2, List.map aE f5)] ∧ xU f5 = some r) ?_ ?_
  · clear hO h0
    rintro T H ⟨f5, lo1, hT, hO, h0⟩
    refine bC hT ?_
    clear hT
    unfold xU at h0
    refine bV aF 2 [(4, (.msl 2 lo1 0 (List.length f5)))] ?_
    refine bM ?_
    refine cO [(4, (.msl 2 lo1 0 (List.length f5)))] ?_
    refine uL (en := aE) f5 0 0 4 2 lo1 (List.length f5) hO (by kernel_rfl) (by kernel_rfl) (by kernel_rfl) (L' := []) (by kernel_rfl) ?_
    intro H2 hO
    obtain rfl := oI h0
    exact aH (Q_r hO)
  refine aU aF 1 [] [(6, (eI (0 : Int)))] ?_
  refine bT 0 ?_
  refine cS [(0, (eL aA l0)), (1, (eL aJ r1)), (5, (.sl true 0 (fun _ => .bad))), (6, (eI (0 : Int)))] ?_
  refine vJ (el := (fun _ => .bad)) 2 5 2 hO (by kernel_rfl) ?_
  intro lo16 H17 hO
  refine cG (fun T H => ∃ f5 : List aD, ∃ i6 : Int, ∃ lo4 : Nat, Has T [(0, (eL aA l0)), (1, (eL aJ r1)), (5, (.msl 2 lo4 0 (List.length f5))), (6, (eI i6))] ∧ aL ⟨H0, [], []⟩ H [(lo4, 2, List.map aE f5)] ∧ xS l0 r1 f5 i6 = some r) ?_ ⟨([] : List aD), (0 : Int), lo16, aW, hO, h0⟩
  clear hO h0
  rintro T H ⟨f5, i6, lo4, hT, hO, h0⟩
  refine bC hT ?_
  clear hT
  unfold xS at h0
  obtain ⟨rr0, hl0, h0⟩ := bB h0
  refine cZ (fun (s : List aD × Int) T H => ∃ lo4 : Nat, Has T [(0, (eL aA l0)), (1, (eL aJ r1)), (5, (.msl 2 lo4 0 (List.length s.1))), (6, (eI s.2))] ∧ aL ⟨H0, [], []⟩ H [(lo4, 2, List.map aE s.1)]) hl0 ⟨lo4, aW, hO⟩ ?_
  clear hO
  rintro k0 s out1 T H ⟨lo4, hT, hO⟩ h1 ho0
  obtain ⟨f5, i6⟩ := s
  replace h1 : nR l0 r1 f5 i6 = some out1 := h1
  try dsimp only at hT
  refine bC hT ?_
  clear hT
  unfold nR at h1
  refine aN ?_
  refine aU aF 4 [] [(11, (aK (decide (i6 < (lN l0)))))] ?_
  refine bK h1 (fun h1 => ?_) (fun h1 => ?_)
  · refine bO ?_
    refine bL [(0, (eL aA l0)), (1, (eL aJ r1)), (5, (.msl 2 lo4 0 (List.length f5))), (6, (eI i6))] ?_
    refine cK (fun T H => ∃ f5 : List aD, ∃ lo6 : Nat, Has T [(0, (eL aA l0)), (1, (eL aJ r1)), (5, (.msl 2 lo6 0 (List.length f5))), (6, (eI i6))] ∧ aL ⟨H0, [], []⟩ H [(lo6, 2, List.map aE f5)] ∧ tY l0 r1 f5 i6 = some out1) ?_ ?_
    · clear hO h1
      rintro T H ⟨f5, lo6, hT, hO, h1⟩
      refine bC hT ?_
      clear hT
      unfold tY at h1
      refine aV aF 3 ?_
      refine bH ?_
      exact aH (aG (⟨rfl, _, (oI h1).symm, _, aW, hO⟩))
    refine bT 1 ?_
    refine aN ?_
    refine aV aF 7 ?_
    obtain ⟨c7, h1⟩ := bG h1
    refine iB 6 [0 ≤ i6 ∧ i6 < (lN l0)] ⟨c7, trivial⟩ ?_
    obtain ⟨x8, hx9, h1⟩ := bB h1
    refine dB (ET ((gD l0 i6).Row) r1 _ hx9) hO ?_
    intro H hO
    refine cT ?_
    refine bS [] [(20, (aK x8))] ?_
    refine bK h1 (fun h1 => ?_) (fun h1 => ?_)
    · refine fB (fC [26, 31, 33]) aF 15 ?_
      obtain ⟨c12, h1⟩ := bG h1
      obtain ⟨c13, h1⟩ := bG h1
      refine cW 12 [0 ≤ i6 ∧ i6 < (lN l0), 0 ≤ i6 ∧ i6 < (lN l0)] ⟨c12, c13, trivial⟩ ?_
      refine HE (xs := [(aE (aD.mk ((gD l0 i6).At) ((gD l0 i6).Net)))]) (k := 2) (by kernel_rfl) (by kernel_rfl) ?_
      obtain ⟨c15, h1⟩ := bG h1
      refine GR (e := aE) f5 ([aD.mk ((gD l0 i6).At) ((gD l0 i6).Net)]) 0 lo4 2 16 (dA [(aE (aD.mk ((gD l0 i6).At) ((gD l0 i6).Net)))]) (fun lo14 => [(lo14, 2, List.map aE (f5 ++ ([aD.mk ((gD l0 i6).At) ((gD l0 i6).Net)])))]) (by kernel_rfl) (by kernel_rfl) hO (by kernel_rfl) (by kernel_rfl) c15 (fun _ => by kernel_rfl) ?_
      intro lo14 H hO
      refine jB ?_
      exact aH (aX (aG (⟨rfl, _, _, aW, hO, h1⟩)))
    refine bO ?_
    exact aH (aX (aG (⟨rfl, _, _, aW, hO, h1⟩)))
  refine cX 0 ?_
  obtain rfl := oI h1
  obtain rfl : _ = rr0 := ho0
  replace h0 : xU f5 = some r := h0
  exact aH (aS (aS (bQ (aG (⟨rfl, _, _, aW, hO, h0⟩)))))

theorem FU (l0 : (List aB)) (r : Bool) (h0 : tJ l0 = some r) : cE Try.prog 28 [(eL aA l0)] (aK r) := by
  intro H0
  refine cF Try.func28 ?_
  have hO := aL.start H0
  unfold tJ at h0
  refine aU aF 1 [] [] ?_
  refine aN ?_
  refine aU aF 3 [] [(9, (aK (decide ((4096 : Int) < (lN l0)))))] ?_
  refine bK h0 (fun h0 => ?_) (fun h0 => ?_)
  · refine bV aF 1 [(2, (aK false))] ?_
    refine bM ?_
    obtain rfl := oI h0
    exact aH (aP (Q_r hO))
  refine bO ?_
  refine bL [(0, (eL aA l0))] ?_
  refine cK (fun T H => Has T [(0, (eL aA l0))] ∧ aL ⟨H0, [], []⟩ H [] ∧ wS l0 = some r) ?_ ?_
  · clear hO h0
    rintro T H ⟨hT, hO, h0⟩
    refine bC hT ?_
    clear hT
    unfold wS at h0
    refine aN ?_
    refine aV aF 3 ?_
    refine bP 1 ?_
    obtain ⟨x2, hx3, h0⟩ := bB h0
    refine dB (LA l0 _ hx3) hO ?_
    intro H hO
    refine bH ?_
    refine bS [] [(5, (eL (eL aJ) x2))] ?_
    refine cK (fun T H => Has T [] ∧ aL ⟨H0, [], []⟩ H [] ∧ AU  = some r) ?_ ?_
    · clear hO h0
      rintro T H ⟨hT, hO, h0⟩
      refine bC hT ?_
      clear hT
      unfold AU at h0
      refine bV aF 1 [(2, (aK true))] ?_
      refine bM ?_
      obtain rfl := oI h0
      exact aH (Q_r hO)
    refine aU aF 1 [] [(6, (eI (0 : Int)))] ?_
    refine bT 2 ?_
    refine cS [(0, (eL aA l0)), (5, (eL (eL aJ) x2)), (6, (eI (0 : Int)))] ?_
    refine cG (fun T H => ∃ tQ : (List (List aI)), ∃ i6 : Int, Has T [(0, (eL aA l0)), (5, (eL (eL aJ) tQ)), (6, (eI i6))] ∧ aL ⟨H0, [], []⟩ H [] ∧ AS l0 tQ i6 = some r) ?_ ⟨x2, (0 : Int), aW, hO, h0⟩
    clear hO h0
    rintro T H ⟨tQ, i6, hT, hO, h0⟩
    refine bC hT ?_
    clear hT
    unfold AS at h0
    obtain ⟨rr0, hl0, h0⟩ := bB h0
    refine cZ (fun (s : Int) T H => Has T [(0, (eL aA l0)), (5, (eL (eL aJ) tQ)), (6, (eI s))] ∧ aL ⟨H0, [], []⟩ H []) hl0 ⟨aW, hO⟩ ?_
    clear hO
    rintro k0 s out1 T H ⟨hT, hO⟩ h1 ho0
    obtain ⟨i6, rfl⟩ : ∃ x, x = s := ⟨_, rfl⟩
    replace h1 : sF l0 tQ i6 = some out1 := h1
    refine bC hT ?_
    clear hT
    unfold sF at h1
    refine aN ?_
    refine aU aF 4 [] [(78, (aK (decide (i6 < (lN tQ)))))] ?_
    refine bK h1 (fun h1 => ?_) (fun h1 => ?_)
    · refine bO ?_
      refine bL [(0, (eL aA l0)), (5, (eL (eL aJ) tQ)), (6, (eI i6))] ?_
      refine aN ?_
      refine bT 3 ?_
      refine aN ?_
      refine aV aF 8 ?_
      obtain ⟨c6, h1⟩ := bG h1
      refine iB 5 [0 ≤ i6 ∧ i6 < (lN tQ)] ⟨c6, trivial⟩ ?_
      obtain ⟨x7, hx8, h1⟩ := bB h1
      refine dB (IN l0 (gD tQ i6) _ hx8) hO ?_
      intro H hO
      refine bH ?_
      refine bS [] [(88, (aK (decide ((1024 : Int) < (lN x7)))))] ?_
      refine bK h1 (fun h1 => ?_) (fun h1 => ?_)
      · refine bV aF 1 [(2, (aK false))] ?_
        refine bM ?_
        obtain rfl := oI h1
        obtain rfl : _ = rr0 := ho0
        replace h0 : some false = some r := h0
        obtain rfl := oI h0
        exact aH (bJ (aP (aP (bJ (aP (Q_r hO))))))
      refine bO ?_
      refine cO [(0, (eL aA l0)), (5, (eL (eL aJ) tQ)), (6, (eI i6))] ?_
      refine aH (aX (aG (?_)))
      refine aV aF 3 ?_
      refine bH ?_
      exact aH (aG (⟨rfl, _, (oI h1).symm, aW, hO⟩))
    refine cX 2 ?_
    obtain rfl := oI h1
    obtain rfl : _ = rr0 := ho0
    replace h0 : AU  = some r := h0
    exact aH (aS (aS (bQ (aG (⟨rfl, aW, hO, h0⟩)))))
  refine aU aF 1 [] [(3, (eI (0 : Int)))] ?_
  refine bT 0 ?_
  refine cS [(0, (eL aA l0)), (3, (eI (0 : Int)))] ?_
  refine cG (fun T H => ∃ i3 : Int, Has T [(0, (eL aA l0)), (3, (eI i3))] ∧ aL ⟨H0, [], []⟩ H [] ∧ BN l0 i3 = some r) ?_ ⟨(0 : Int), aW, hO, h0⟩
  clear hO h0
  rintro T H ⟨i3, hT, hO, h0⟩
  refine bC hT ?_
  clear hT
  unfold BN at h0
  obtain ⟨rr0, hl0, h0⟩ := bB h0
  refine cZ (fun (s : Int) T H => Has T [(0, (eL aA l0)), (3, (eI s))] ∧ aL ⟨H0, [], []⟩ H []) hl0 ⟨aW, hO⟩ ?_
  clear hO
  rintro k0 s out1 T H ⟨hT, hO⟩ h1 ho0
  obtain ⟨i3, rfl⟩ : ∃ x, x = s := ⟨_, rfl⟩
  replace h1 : qK l0 i3 = some out1 := h1
  refine bC hT ?_
  clear hT
  unfold qK at h1
  refine aN ?_
  refine aU aF 4 [] [(13, (aK (decide (i3 < (lN l0)))))] ?_
  refine bK h1 (fun h1 => ?_) (fun h1 => ?_)
  · refine bO ?_
    refine bL [(0, (eL aA l0)), (3, (eI i3))] ?_
    refine cK (fun T H => Has T [(0, (eL aA l0)), (3, (eI i3))] ∧ aL ⟨H0, [], []⟩ H [] ∧ tU l0 i3 = some out1) ?_ ?_
    · clear hO h1
      rintro T H ⟨hT, hO, h1⟩
      refine bC hT ?_
      clear hT
      unfold tU at h1
      refine aV aF 3 ?_
      refine bH ?_
      exact aH (aG (⟨rfl, _, (oI h1).symm, aW, hO⟩))
    refine bT 1 ?_
    refine aN ?_
    refine aN ?_
    obtain ⟨c12, h1⟩ := bG h1
    obtain ⟨x13, hx14, h1⟩ := bB h1
    obtain ⟨c15, h1⟩ := bG h1
    obtain ⟨c16, h1⟩ := bG h1
    obtain ⟨x17, hx18, h1⟩ := bB h1
    refine fB (fC [20, 28, 33]) aF 23 ?_
    refine yR (K := fun T H => Has (lift T) [(0, (eL aA l0)), (3, (eI i3)), (38, (aK ((!x13) || (!x17))))] ∧ aL ⟨H0, [], []⟩ H []) ?_ ?_
    · refine cW 5 [0 ≤ i3 ∧ i3 < (lN l0)] ⟨c12, trivial⟩ ?_
      refine BT 48 [(eL aJ ((gD l0 i3).Row))] (aK x13) (by kernel_rfl) (by kernel_rfl) (CK ((gD l0 i3).Row) _ hx14) hO ?_
      intro H hO
      refine sG 8 ?_
      refine uB (t := 23) (e := !x13) (by kernel_rfl) (fun hg19 => ?_) (fun hg19 => ?_)
      · refine jB ?_
        exact ⟨⟨[(0, (eL aA l0)), (3, (eI i3)), (38, (aK true))], by kernel_rfl, rfl, ⟨bA.refl _, bA.refl _, bA.eq (congrArg aK (AY hg19 rfl).symm), trivial⟩⟩, hO⟩
      refine cW 19 [0 ≤ i3 ∧ i3 < (lN l0), 0 ≤ i3 ∧ i3 < (lN l0)] ⟨(c15 (CC hg19)), (c16 (CC hg19)), trivial⟩ ?_
      refine aDM (xs := [(aE (aD.mk ((gD l0 i3).At) ((gD l0 i3).Net)))]) (by kernel_rfl) (by kernel_rfl) ?_
      refine BT 49 [(dA [(aE (aD.mk ((gD l0 i3).At) ((gD l0 i3).Net)))])] (aK x17) (by kernel_rfl) (by kernel_rfl) (cE.sub (ME ([aD.mk ((gD l0 i3).At) ((gD l0 i3).Net)]) _ (qW hx18 (CC hg19))) ⟨EU (l := [aD.mk ((gD l0 i3).At) ((gD l0 i3).Net)]), trivial⟩) hO ?_
      intro H hO
      refine jB ?_
      exact ⟨⟨[(0, (eL aA l0)), (3, (eI i3)), (38, (aK (!x17)))], by kernel_rfl, rfl, ⟨bA.refl _, bA.refl _, bA.eq (congrArg aK (AY hg19 rfl).symm), trivial⟩⟩, hO⟩
    · rintro T H ⟨hT, hO⟩
      refine cV hT ?_
      clear hT
      refine aH (aG ?_)
      refine bK h1 (fun h1 => ?_) (fun h1 => ?_)
      · refine bV aF 1 [(2, (aK false))] ?_
        refine bM ?_
        obtain rfl := oI h1
        obtain rfl : _ = rr0 := ho0
        replace h0 : some false = some r := h0
        obtain rfl := oI h0
        exact aH (aP (bJ (aP (aP (bJ (aP (Q_r hO)))))))
      refine bO ?_
      refine bL [(0, (eL aA l0)), (3, (eI i3))] ?_
      refine aN ?_
      refine aU aF 2 [] [(40, (aK (decide (i3 = (0 : Int)))))] ?_
      refine bK h1 (fun h1 => ?_) (fun h1 => ?_)
      · refine cX 1 ?_
        exact aH (aS (bQ (aG (⟨rfl, aW, hO, h1⟩))))
      refine bO ?_
      refine bL [(0, (eL aA l0)), (3, (eI i3))] ?_
      refine aN ?_
      refine fB (fC [46, 51, 52]) aF 13 ?_
      obtain ⟨c22, h1⟩ := bG h1
      obtain ⟨c23, h1⟩ := bG h1
      refine cW 11 [0 ≤ (wR (i3 - (1 : Int))) ∧ (wR (i3 - (1 : Int))) < (lN l0), 0 ≤ i3 ∧ i3 < (lN l0)] ⟨c22, c23, trivial⟩ ?_
      obtain ⟨x24, hx25, h1⟩ := bB h1
      refine BF (FL ((gD l0 (wR (i3 - (1 : Int)))).Row) ((gD l0 i3).Row) _ hx25) hO ?_
      intro H hO
      refine jB ?_
      refine bS [] [(4, (eI x24))] ?_
      refine aN ?_
      obtain ⟨c27, h1⟩ := bG h1
      obtain ⟨c28, h1⟩ := bG h1
      refine fB (fC [64, 69]) aF 20 ?_
      refine yR (K := fun T H => Has (lift T) [(0, (eL aA l0)), (3, (eI i3)), (72, (aK ((decide ((0 : Int) < x24)) || ((decide (x24 = (0 : Int))) && (decide (((gD l0 i3).At) ≤ ((gD l0 (wR (i3 - (1 : Int)))).At)))))))] ∧ aL ⟨H0, [], []⟩ H []) ?_ ?_
      · refine sG 3 ?_
        refine uB (t := 55) (e := decide ((0 : Int) < x24)) (by kernel_rfl) (fun hg29 => ?_) (fun hg29 => ?_)
        · refine jB ?_
          exact ⟨⟨[(0, (eL aA l0)), (3, (eI i3)), (72, (aK true))], by kernel_rfl, rfl, ⟨bA.refl _, bA.refl _, bA.eq (congrArg aK (AY hg29 rfl).symm), trivial⟩⟩, hO⟩
        refine sG 6 ?_
        refine uB (t := 58) (e := decide (x24 = (0 : Int))) (by kernel_rfl) (fun hg30 => ?_) (fun hg30 => ?_)
        · refine FC (Ds := [0 ≤ (wR (i3 - (1 : Int))) ∧ (wR (i3 - (1 : Int))) < (lN l0), 0 ≤ i3 ∧ i3 < (lN l0)]) (by kernel_rfl) ⟨(c27 (tO hg30 (CC hg29))), (c28 (tO hg30 (CC hg29))), trivial⟩ ?_
          exact ⟨⟨[(0, (eL aA l0)), (3, (eI i3)), (72, (aK (decide (((gD l0 i3).At) ≤ ((gD l0 (wR (i3 - (1 : Int)))).At)))))], by kernel_rfl, rfl, ⟨bA.refl _, bA.refl _, bA.eq (congrArg aK (AY hg29 (tO hg30 rfl)).symm), trivial⟩⟩, hO⟩
        refine jB ?_
        exact ⟨⟨[(0, (eL aA l0)), (3, (eI i3)), (72, (aK false))], by kernel_rfl, rfl, ⟨bA.refl _, bA.refl _, bA.eq (congrArg aK (AY hg29 (tO hg30 rfl)).symm), trivial⟩⟩, hO⟩
      · rintro T H ⟨hT, hO⟩
        refine cV hT ?_
        clear hT
        refine aH (aG ?_)
        refine bK h1 (fun h1 => ?_) (fun h1 => ?_)
        · refine bV aF 1 [(2, (aK false))] ?_
          refine bM ?_
          obtain rfl := oI h1
          obtain rfl : _ = rr0 := ho0
          replace h0 : some false = some r := h0
          obtain rfl := oI h0
          exact aH (bJ (aP (aP (bJ (aP (Q_r hO))))))
        refine bO ?_
        exact aH (aX (aG (⟨rfl, aW, hO, h1⟩)))
  refine cX 0 ?_
  obtain rfl := oI h1
  obtain rfl : _ = rr0 := ho0
  replace h0 : wS l0 = some r := h0
  exact aH (aS (aS (bQ (aG (⟨rfl, aW, hO, h0⟩)))))

theorem TO (l0 : (List Int)) (t1 : Int) (r : (List Int)) (h0 : tW l0 t1 = some r) : cE Try.prog 88 [(eL (eI) l0), (eI t1)] (eL (eI) r) := by
  intro H0
  refine cF Try.func88 ?_
  have hO := aL.start H0
  unfold tW at h0
  refine aU aF 1 [] [] ?_
  refine aN ?_
  refine aV aF 2 ?_
  refine kM [] 1 ?_
  refine bH ?_
  refine bS [] [(5, (.sl true 0 (fun _ => .bad)))] ?_
  refine aU aF 1 [] [(6, (aK false))] ?_
  refine cK (fun T H => ∃ out5 : List Int, ∃ put6 : Bool, ∃ lo1 : Nat, Has T [(1, (eI t1)), (5, (.msl 1 lo1 0 (List.length out5))), (6, (aK put6))] ∧ aL ⟨H0, [], []⟩ H [(lo1, 1, List.map (eI) out5)] ∧ sW t1 out5 put6 = some r) ?_ ?_
  · clear hO h0
    rintro T H ⟨out5, put6, lo1, hT, hO, h0⟩
    refine bC hT ?_
    clear hT
    unfold sW at h0
    refine cK (fun T H => ∃ out5 : List Int, ∃ lo2 : Nat, Has T [(5, (.msl 1 lo2 0 (List.length out5)))] ∧ aL ⟨H0, [], []⟩ H [(lo2, 1, List.map (eI) out5)] ∧ sY out5 = some r) ?_ ?_
    · clear hO h0
      rintro T H ⟨out5, lo2, hT, hO, h0⟩
      refine bC hT ?_
      clear hT
      unfold sY at h0
      refine bV aF 2 [(4, (.msl 1 lo2 0 (List.length out5)))] ?_
      refine bM ?_
      refine cO [(4, (.msl 1 lo2 0 (List.length out5)))] ?_
      refine uL (en := (eI)) out5 0 0 4 1 lo2 (List.length out5) hO (by kernel_rfl) (by kernel_rfl) (by kernel_rfl) (L' := []) (by kernel_rfl) ?_
      intro H3 hO
      obtain rfl := oI h0
      exact aH (Q_r hO)
    refine aU aF 2 [6] [(44, (aK (!put6)))] ?_
    refine bK h0 (fun h0 => ?_) (fun h0 => ?_)
    · refine aV aF 5 ?_
      refine bP 2 ?_
      refine kM [(eI t1)] 1 ?_
      obtain ⟨c6, h0⟩ := bG h0
      refine wD (eI) out5 ([t1]) 0 lo1 1 8 (dA [(eI t1)]) (fun lo5 => [(lo5, 1, List.map (eI) (out5 ++ ([t1])))]) hO (by kernel_rfl) c6 ?_
      intro lo5 H hO
      refine bH ?_
      exact aH (aG (⟨rfl, _, _, aW, hO, h0⟩))
    refine bO ?_
    exact aH (aG (⟨rfl, _, _, aW, hO, h0⟩))
  refine aU aF 1 [] [(7, (eI (0 : Int)))] ?_
  refine bT 0 ?_
  refine cS [(0, (eL (eI) l0)), (1, (eI t1)), (5, (.sl true 0 (fun _ => .bad))), (6, (aK false)), (7, (eI (0 : Int)))] ?_
  refine vJ (el := (fun _ => .bad)) 2 5 1 hO (by kernel_rfl) ?_
  intro lo20 H21 hO
  refine cG (fun T H => ∃ out5 : List Int, ∃ put6 : Bool, ∃ i7 : Int, ∃ lo8 : Nat, Has T [(0, (eL (eI) l0)), (1, (eI t1)), (5, (.msl 1 lo8 0 (List.length out5))), (6, (aK put6)), (7, (eI i7))] ∧ aL ⟨H0, [], []⟩ H [(lo8, 1, List.map (eI) out5)] ∧ zK l0 t1 out5 put6 i7 = some r) ?_ ⟨([] : List Int), false, (0 : Int), lo20, aW, hO, h0⟩
  clear hO h0
  rintro T H ⟨out5, put6, i7, lo8, hT, hO, h0⟩
  refine bC hT ?_
  clear hT
  unfold zK at h0
  obtain ⟨rr0, hl0, h0⟩ := bB h0
  refine cZ (fun (s : List Int × Bool × Int) T H => ∃ lo8 : Nat, Has T [(0, (eL (eI) l0)), (1, (eI t1)), (5, (.msl 1 lo8 0 (List.length s.1))), (6, (aK s.2.1)), (7, (eI s.2.2))] ∧ aL ⟨H0, [], []⟩ H [(lo8, 1, List.map (eI) s.1)]) hl0 ⟨lo8, aW, hO⟩ ?_
  clear hO
  rintro k0 s out1 T H ⟨lo8, hT, hO⟩ h1 ho0
  obtain ⟨out5, put6, i7⟩ := s
  replace h1 : iW l0 t1 out5 put6 i7 = some out1 := h1
  try dsimp only at hT
  refine bC hT ?_
  clear hT
  unfold iW at h1
  refine aN ?_
  refine aU aF 4 [] [(12, (aK (decide (i7 < (lN l0)))))] ?_
  refine bK h1 (fun h1 => ?_) (fun h1 => ?_)
  · refine bO ?_
    refine bL [(0, (eL (eI) l0)), (1, (eI t1)), (5, (.msl 1 lo8 0 (List.length out5))), (6, (aK put6)), (7, (eI i7))] ?_
    refine aN ?_
    refine bT 1 ?_
    refine aN ?_
    refine aN ?_
    refine aV aF 6 ?_
    obtain ⟨c10, h1⟩ := bG h1
    refine oH [0 ≤ i7 ∧ i7 < (lN l0)] ⟨c10, trivial⟩ ?_
    refine bS [] [(20, (aK (decide ((gD l0 i7) = t1))))] ?_
    refine bK h1 (fun h1 => ?_) (fun h1 => ?_)
    · refine aN ?_
      refine aV aF 2 ?_
      refine bH ?_
      refine cO [(4, (eL (eI) l0))] ?_
      replace hO := hO.pick (L' := []) [] (by decide) (by kernel_rfl)
      refine aH (aG (?_))
      refine bM ?_
      obtain rfl := oI h1
      obtain rfl : _ = rr0 := ho0
      replace h0 : some l0 = some r := h0
      obtain rfl := oI h0
      exact aH (aP (bJ (aP (aP (bJ (aP (Q_r hO)))))))
    refine bO ?_
    refine bL [(0, (eL (eI) l0)), (1, (eI t1)), (5, (.msl 1 lo8 0 (List.length out5))), (6, (aK put6)), (7, (eI i7))] ?_
    refine cK (fun T H => ∃ out5 : List Int, ∃ put6 : Bool, ∃ lo12 : Nat, Has T [(0, (eL (eI) l0)), (1, (eI t1)), (5, (.msl 1 lo12 0 (List.length out5))), (6, (aK put6)), (7, (eI i7))] ∧ aL ⟨H0, [], []⟩ H [(lo12, 1, List.map (eI) out5)] ∧ vL l0 t1 out5 put6 i7 = some out1) ?_ ?_
    · clear hO h1
      rintro T H ⟨out5, put6, lo12, hT, hO, h1⟩
      refine bC hT ?_
      clear hT
      unfold vL at h1
      refine aV aF 8 ?_
      obtain ⟨c13, h1⟩ := bG h1
      refine iB 5 [0 ≤ i7 ∧ i7 < (lN l0)] ⟨c13, trivial⟩ ?_
      refine kM [(eI (gD l0 i7))] 1 ?_
      obtain ⟨c15, h1⟩ := bG h1
      refine wD (eI) out5 ([gD l0 i7]) 0 lo12 1 8 (dA [(eI (gD l0 i7))]) (fun lo14 => [(lo14, 1, List.map (eI) (out5 ++ ([gD l0 i7])))]) hO (by kernel_rfl) c15 ?_
      intro lo14 H hO
      refine bH ?_
      refine cO [(0, (eL (eI) l0)), (1, (eI t1)), (5, (.msl 1 lo14 0 (List.length (out5 ++ ([gD l0 i7]))))), (6, (aK put6)), (7, (eI i7))] ?_
      refine aH (aX (aG (?_)))
      refine aV aF 3 ?_
      refine bH ?_
      exact aH (aG (⟨rfl, _, (oI h1).symm, _, aW, hO⟩))
    refine aN ?_
    refine aV aF 10 ?_
    obtain ⟨c16, h1⟩ := bG h1
    refine oH [0 ≤ i7 ∧ i7 < (lN l0)] ⟨c16, trivial⟩ ?_
    refine bS [] [(31, (aK ((decide (t1 < (gD l0 i7))) && (!put6))))] ?_
    refine bK h1 (fun h1 => ?_) (fun h1 => ?_)
    · refine aN ?_
      refine aV aF 5 ?_
      refine bP 2 ?_
      refine kM [(eI t1)] 1 ?_
      obtain ⟨c19, h1⟩ := bG h1
      refine wD (eI) out5 ([t1]) 0 lo8 1 8 (dA [(eI t1)]) (fun lo18 => [(lo18, 1, List.map (eI) (out5 ++ ([t1])))]) hO (by kernel_rfl) c19 ?_
      intro lo18 H hO
      refine bH ?_
      refine bS [5, 6, 31] [(5, (.msl 1 lo18 0 (List.length (out5 ++ ([t1])))))] ?_
      refine aV aF 1 ?_
      refine bH ?_
      exact aH (aG (⟨rfl, _, _, _, aW, hO, h1⟩))
    refine bO ?_
    exact aH (aG (⟨rfl, _, _, _, aW, hO, h1⟩))
  refine cX 0 ?_
  obtain rfl := oI h1
  obtain rfl : _ = rr0 := ho0
  replace h0 : sW t1 out5 put6 = some r := h0
  exact aH (aS (aS (bQ (aG (⟨rfl, _, _, _, aW, hO, h0⟩)))))

theorem RX (f0 : (List aD)) (t1 : Int) (r : Int) (h0 : vI f0 t1 = some r) : cE Try.prog 89 [(eL aE f0), (eI t1)] (eI r) := by
  intro H0
  refine cF Try.func89 ?_
  have hO := aL.start H0
  unfold vI at h0
  refine aU aF 1 [] [] ?_
  refine aU aF 1 [] [(5, (eI (0 : Int)))] ?_
  refine cK (fun T H => ∃ v5 : Int, Has T [(5, (eI v5))] ∧ aL ⟨H0, [], []⟩ H [] ∧ uD v5 = some r) ?_ ?_
  · clear hO h0
    rintro T H ⟨v5, hT, hO, h0⟩
    refine bC hT ?_
    clear hT
    unfold uD at h0
    refine bV aF 2 [(4, (eI v5))] ?_
    refine bM ?_
    obtain rfl := oI h0
    exact aH (Q_r hO)
  refine aU aF 1 [] [(6, (eI (0 : Int)))] ?_
  refine bT 0 ?_
  refine cS [(0, (eL aE f0)), (1, (eI t1)), (5, (eI (0 : Int))), (6, (eI (0 : Int)))] ?_
  refine cG (fun T H => ∃ v5 : Int, ∃ i6 : Int, Has T [(0, (eL aE f0)), (1, (eI t1)), (5, (eI v5)), (6, (eI i6))] ∧ aL ⟨H0, [], []⟩ H [] ∧ yB f0 t1 v5 i6 = some r) ?_ ⟨(0 : Int), (0 : Int), aW, hO, h0⟩
  clear hO h0
  rintro T H ⟨v5, i6, hT, hO, h0⟩
  refine bC hT ?_
  clear hT
  unfold yB at h0
  obtain ⟨rr0, hl0, h0⟩ := bB h0
  refine cZ (fun (s : Int × Int) T H => Has T [(0, (eL aE f0)), (1, (eI t1)), (5, (eI s.1)), (6, (eI s.2))] ∧ aL ⟨H0, [], []⟩ H []) hl0 ⟨aW, hO⟩ ?_
  clear hO
  rintro k0 s out1 T H ⟨hT, hO⟩ h1 ho0
  obtain ⟨v5, i6⟩ := s
  replace h1 : kI f0 t1 v5 i6 = some out1 := h1
  try dsimp only at hT
  refine bC hT ?_
  clear hT
  unfold kI at h1
  refine aN ?_
  refine aU aF 4 [] [(10, (aK (decide (i6 < (lN f0)))))] ?_
  refine bK h1 (fun h1 => ?_) (fun h1 => ?_)
  · refine bO ?_
    refine bL [(0, (eL aE f0)), (1, (eI t1)), (5, (eI v5)), (6, (eI i6))] ?_
    refine cK (fun T H => ∃ v5 : Int, Has T [(0, (eL aE f0)), (1, (eI t1)), (5, (eI v5)), (6, (eI i6))] ∧ aL ⟨H0, [], []⟩ H [] ∧ rO f0 t1 v5 i6 = some out1) ?_ ?_
    · clear hO h1
      rintro T H ⟨v5, hT, hO, h1⟩
      refine bC hT ?_
      clear hT
      unfold rO at h1
      refine aV aF 3 ?_
      refine bH ?_
      exact aH (aG (⟨rfl, _, (oI h1).symm, aW, hO⟩))
    refine bT 1 ?_
    refine aN ?_
    refine aV aF 7 ?_
    obtain ⟨c2, h1⟩ := bG h1
    refine oH [0 ≤ i6 ∧ i6 < (lN f0)] ⟨c2, trivial⟩ ?_
    refine bS [] [(19, (aK (decide (((gD f0 i6).At) ≤ t1))))] ?_
    refine bK h1 (fun h1 => ?_) (fun h1 => ?_)
    · refine aV aF 8 ?_
      obtain ⟨c4, h1⟩ := bG h1
      refine oH [0 ≤ i6 ∧ i6 < (lN f0)] ⟨c4, trivial⟩ ?_
      exact aH (aX (aG (⟨rfl, _, aW, hO, h1⟩)))
    refine bO ?_
    exact aH (aX (aG (⟨rfl, _, aW, hO, h1⟩)))
  refine cX 0 ?_
  obtain rfl := oI h1
  obtain rfl : _ = rr0 := ho0
  replace h0 : uD v5 = some r := h0
  exact aH (aS (aS (bQ (aG (⟨rfl, _, aW, hO, h0⟩)))))

end Go.Abs
