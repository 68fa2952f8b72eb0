/- What the law PackEdges stands on: the framework, the given functions as plain functions, their walks, and the plain laws; part 4. -/
import Derived.Test.YtfepdngmgjmniaaGreatPackEdgesZ3
set_option linter.unusedSimpArgs false
set_option linter.unusedVariables false
namespace Go.Abs
open Go Go.RowKit Go.Proofs
theorem CU (lo0p : Nat) (aB : (List aA)) (a1 : Int) (m2 : Int) (b3 : Int) (cmp4_f : Nat) (cmp4_a cmp4_c : List V) (cmp4 : aA → aA → Option Int) (cmp4_h : ∀ a0 a1 r, cmp4 a0 a1 = some r → bY Tryz.prog cmp4_f (cmp4_a ++ [(aE a0), (aE a1)] ++ cmp4_c) (eI r)) (r : List aA) (h0 : nC aB a1 m2 b3 cmp4 = some r) : mB Tryz.prog 110 lo0p 2 (List.map aE aB) (List.map aE r) [(.msl 2 lo0p 0 (List.length aB)), (eI a1), (eI m2), (eI b3), (.fn (.func cmp4_f) cmp4_a cmp4_c)] (.tup []) := by
  intro H0 hl0
  refine cF Tryz.func110 ?_
  have hO := aN.rO hl0
  clear hl0
  obtain ⟨N0, hN0⟩ : ∃ n, n = List.length aB := ⟨_, rfl⟩
  have hN : List.length aB = N0 := hN0.symm
  unfold nC at h0
  refine aY aF 4 [1] [(10, (eI (wR (m2 - a1))))] ?_
  refine aY aF 4 [3] [(11, (eI (wR (b3 - m2))))] ?_
  refine cH (fun T H => ∃ aB : List aA, ∃ i10 : Int, Has T [(0, (.msl 2 lo0p 0 (List.length aB))), (2, (eI m2)), (4, (.fn (.func cmp4_f) cmp4_a cmp4_c)), (10, (eI i10))] ∧ aN ⟨H0, [lo0p], []⟩ H [(lo0p, 2, List.map aE aB)] ∧ List.length aB = N0 ∧ jC cmp4 aB m2 i10 = some r) ?_ ?_
  · clear hO hN h0
    rintro T H ⟨aB, i10, hT, hO, hN, h0⟩
    refine bA hT ?_
    clear hT
    unfold jC at h0
    refine aU aF 8 ?_
    refine bR 7 ?_
    obtain ⟨x1, hx2, h0⟩ := aW h0
    refine qL [(lo0p, 2, List.map aE x1)] 0 (lX lo0p aB (wR (m2 - i10)) m2 i10 cmp4_f cmp4_a cmp4_c cmp4 cmp4_h _ hx2) hO ?_
    intro H hO hl3
    simp only [List.length_map] at hl3
    replace hN := hl3.trans hN
    refine cW ?_
    refine cJ (l := [(0, (.msl 2 lo0p 0 (List.length x1)))]) ⟨[(0, (.msl 2 lo0p 0 (List.length aB)))], by kernel_rfl, rfl, ⟨aZ.eq (by simp [hl3]), trivial⟩⟩ ?_
    obtain rfl := oI h0
    exact aJ (tQ (x := (.tup [])) (by kernel_rfl) (aZ.refl _) ⟨rfl, hO.ext, hO.at 0 (by kernel_rfl), by simp only [List.length_map]; exact hN.trans hN0⟩)
  refine bO 0 ?_
  refine cL [(0, (.msl 2 lo0p 0 (List.length aB))), (2, (eI m2)), (4, (.fn (.func cmp4_f) cmp4_a cmp4_c)), (10, (eI (wR (m2 - a1)))), (11, (eI (wR (b3 - m2))))] ?_
  refine cC (fun T H => ∃ aB : List aA, ∃ i10 : Int, ∃ j11 : Int, Has T [(0, (.msl 2 lo0p 0 (List.length aB))), (2, (eI m2)), (4, (.fn (.func cmp4_f) cmp4_a cmp4_c)), (10, (eI i10)), (11, (eI j11))] ∧ aN ⟨H0, [lo0p], []⟩ H [(lo0p, 2, List.map aE aB)] ∧ List.length aB = N0 ∧ mQ cmp4 aB m2 i10 j11 = some r) ?_ ⟨aB, wR (m2 - a1), wR (b3 - m2), .eq (by kernel_rfl), hO, hN, h0⟩
  clear hO hN h0
  rintro T H ⟨aB, i10, j11, hT, hO, hN, h0⟩
  refine bA hT ?_
  clear hT
  unfold mQ at h0
  obtain ⟨rr0, hl0, h0⟩ := aW h0
  refine bX (by kernel_rfl) (fun (s : List aA × Int × Int) T H => Has T [(0, (.msl 2 lo0p 0 (List.length s.1))), (2, (eI m2)), (4, (.fn (.func cmp4_f) cmp4_a cmp4_c)), (10, (eI s.2.1)), (11, (eI s.2.2))] ∧ aN ⟨H0, [lo0p], []⟩ H [(lo0p, 2, List.map aE s.1)] ∧ List.length s.1 = N0) hl0 ⟨.eq (by kernel_rfl), hO, hN⟩ ?_
  clear hO hN
  rintro k0 s out1 T H ⟨hT, hO, hN⟩ h1 ho0
  obtain ⟨aB, i10, j11⟩ := s
  replace h1 : mN cmp4 m2 aB i10 j11 = some out1 := h1
  try dsimp only at hT
  refine bA hT ?_
  clear hT
  unfold mN at h1
  refine aO ?_
  refine aY aF 3 [] [(20, (aK (!decide (i10 = j11))))] ?_
  refine bJ h1 (fun h1 => ?_) (fun h1 => ?_)
  · refine bL ?_
    refine bH [(0, (.msl 2 lo0p 0 (List.length aB))), (2, (eI m2)), (4, (.fn (.func cmp4_f) cmp4_a cmp4_c)), (10, (eI i10)), (11, (eI j11))] ?_
    refine bO 1 ?_
    refine aY aF 3 [] [(23, (aK (decide (j11 < i10))))] ?_
    refine bJ h1 (fun h1 => ?_) (fun h1 => ?_)
    · refine aO ?_
      refine aU aF 8 ?_
      refine bR 7 ?_
      obtain ⟨x6, hx7, h1⟩ := aW h1
      refine qL [(lo0p, 2, List.map aE x6)] 0 (lX lo0p aB (wR (m2 - i10)) m2 j11 cmp4_f cmp4_a cmp4_c cmp4 cmp4_h _ hx7) hO ?_
      intro H hO hl8
      simp only [List.length_map] at hl8
      replace hN := hl8.trans hN
      refine cW ?_
      refine cJ (l := [(0, (.msl 2 lo0p 0 (List.length x6))), (2, (eI m2)), (4, (.fn (.func cmp4_f) cmp4_a cmp4_c)), (10, (eI i10)), (11, (eI j11))]) ⟨[(0, (.msl 2 lo0p 0 (List.length aB))), (2, (eI m2)), (4, (.fn (.func cmp4_f) cmp4_a cmp4_c)), (10, (eI i10)), (11, (eI j11))], by kernel_rfl, rfl, ⟨aZ.eq (by simp [hl8]), aZ.refl _, aZ.refl _, aZ.refl _, aZ.refl _, trivial⟩⟩ ?_
      refine aJ (aH (?_))
      refine aU aF 4 ?_
      refine bC ?_
      exact aJ (aV (aH (⟨rfl, _, (oI h1).symm, .eq (by kernel_rfl), hO, hN⟩)))
    refine aO ?_
    refine aU aF 12 ?_
    refine bR 11 ?_
    obtain ⟨x9, hx10, h1⟩ := aW h1
    refine qL [(lo0p, 2, List.map aE x9)] 0 (lX lo0p aB (wR (m2 - i10)) (wR ((wR (m2 + j11)) - i10)) i10 cmp4_f cmp4_a cmp4_c cmp4 cmp4_h _ hx10) hO ?_
    intro H hO hl11
    simp only [List.length_map] at hl11
    replace hN := hl11.trans hN
    refine cW ?_
    refine cJ (l := [(0, (.msl 2 lo0p 0 (List.length x9))), (2, (eI m2)), (4, (.fn (.func cmp4_f) cmp4_a cmp4_c)), (10, (eI i10)), (11, (eI j11))]) ⟨[(0, (.msl 2 lo0p 0 (List.length aB))), (2, (eI m2)), (4, (.fn (.func cmp4_f) cmp4_a cmp4_c)), (10, (eI i10)), (11, (eI j11))], by kernel_rfl, rfl, ⟨aZ.eq (by simp [hl11]), aZ.refl _, aZ.refl _, aZ.refl _, aZ.refl _, trivial⟩⟩ ?_
    refine aJ (aH (?_))
    refine aU aF 4 ?_
    refine bC ?_
    exact aJ (aV (aH (⟨rfl, _, (oI h1).symm, .eq (by kernel_rfl), hO, hN⟩)))
  refine cV 0 ?_
  obtain rfl := oI h1
  obtain rfl : _ = rr0 := ho0
  replace h0 : jC cmp4 aB m2 i10 = some r := h0
  exact aJ (aS (aS (bM (aH (⟨rfl, _, _, .eq (by kernel_rfl), hO, hN, h0⟩)))))

end Go.Abs
namespace Go.Abs
open Go Go.RowKit Go.Proofs
theorem xG (cmp4_f : Nat) (cmp4_a cmp4_c : List V) (cmp4 : aA → aA → Option Int) (cmp4_h : ∀ a0 a1 r, cmp4 a0 a1 = some r → bY Tryz.prog cmp4_f (cmp4_a ++ [(aE a0), (aE a1)] ++ cmp4_c) (eI r)) (rec : (List aA) → Int → Int → Int → Option (List aA)) (ih : ∀ (lo0p : Nat) (aB : (List aA)) (a1 : Int) (m2 : Int) (b3 : Int) (r : List aA), rec aB a1 m2 b3 = some r → mB Tryz.prog 107 lo0p 2 (List.map aE aB) (List.map aE r) [(.msl 2 lo0p 0 (List.length aB)), (eI a1), (eI m2), (eI b3), (.fn (.func cmp4_f) cmp4_a cmp4_c)] (.tup [])) (lo0p : Nat) (aB : (List aA)) (a1 : Int) (m2 : Int) (b3 : Int) (r : List aA) (h0 : eH cmp4 rec aB a1 m2 b3 = some r) : mB Tryz.prog 107 lo0p 2 (List.map aE aB) (List.map aE r) [(.msl 2 lo0p 0 (List.length aB)), (eI a1), (eI m2), (eI b3), (.fn (.func cmp4_f) cmp4_a cmp4_c)] (.tup []) := by
  intro H0 hl0
  refine cF Tryz.func107 ?_
  have hO := aN.rO hl0
  clear hl0
  obtain ⟨N0, hN0⟩ : ∃ n, n = List.length aB := ⟨_, rfl⟩
  have hN : List.length aB = N0 := hN0.symm
  unfold eH at h0
  refine cH (fun T H => ∃ aB : List aA, Has T [(0, (.msl 2 lo0p 0 (List.length aB))), (1, (eI a1)), (2, (eI m2)), (3, (eI b3)), (4, (.fn (.func cmp4_f) cmp4_a cmp4_c))] ∧ aN ⟨H0, [lo0p], []⟩ H [(lo0p, 2, List.map aE aB)] ∧ List.length aB = N0 ∧ lW cmp4 rec aB a1 m2 b3 = some r) ?_ ?_
  · clear hO hN h0
    rintro T H ⟨aB, hT, hO, hN, h0⟩
    refine bA hT ?_
    clear hT
    unfold lW at h0
    refine cH (fun T H => ∃ aB : List aA, Has T [(0, (.msl 2 lo0p 0 (List.length aB))), (1, (eI a1)), (2, (eI m2)), (3, (eI b3)), (4, (.fn (.func cmp4_f) cmp4_a cmp4_c))] ∧ aN ⟨H0, [lo0p], []⟩ H [(lo0p, 2, List.map aE aB)] ∧ List.length aB = N0 ∧ lP cmp4 rec aB a1 m2 b3 = some r) ?_ ?_
    · clear hO hN h0
      rintro T H ⟨aB, hT, hO, hN, h0⟩
      refine bA hT ?_
      clear hT
      unfold lP at h0
      refine aO ?_
      refine aU aF 7 ?_
      obtain ⟨c1, h0⟩ := bE h0
      refine oN [0 ≤ (1 : Int)] ⟨c1, trivial⟩ ?_
      refine bT [] [(18, (eI (wR (Int.fdiv (IntKind.u64.wrap (wR (a1 + b3))) (2 ^ (min (Int.toNat (1 : Int)) 64))))))] ?_
      refine aY aF 4 [] [(19, (eI (wR ((wR (Int.fdiv (IntKind.u64.wrap (wR (a1 + b3))) (2 ^ (min (Int.toNat (1 : Int)) 64)))) + m2))))] ?_
      refine aY aF 2 [] [] ?_
      refine cH (fun T H => ∃ aB : List aA, ∃ bZ : Int, ∃ n19 : Int, ∃ bB : Int, ∃ r21 : Int, Has T [(0, (.msl 2 lo0p 0 (List.length aB))), (1, (eI a1)), (2, (eI m2)), (3, (eI b3)), (4, (.fn (.func cmp4_f) cmp4_a cmp4_c)), (18, (eI bZ)), (19, (eI n19)), (20, (eI bB)), (21, (eI r21))] ∧ aN ⟨H0, [lo0p], []⟩ H [(lo0p, 2, List.map aE aB)] ∧ List.length aB = N0 ∧ gW cmp4 rec aB a1 m2 b3 bZ n19 bB r21 = some r) ?_ ?_
      · clear hO hN h0
        rintro T H ⟨aB, bZ, n19, bB, r21, hT, hO, hN, h0⟩
        refine bA hT ?_
        clear hT
        unfold gW at h0
        refine aY aF 3 [] [(22, (eI (wR (n19 - (1 : Int)))))] ?_
        refine cH (fun T H => ∃ aB : List aA, ∃ bB : Int, Has T [(0, (.msl 2 lo0p 0 (List.length aB))), (1, (eI a1)), (2, (eI m2)), (3, (eI b3)), (4, (.fn (.func cmp4_f) cmp4_a cmp4_c)), (18, (eI bZ)), (19, (eI n19)), (20, (eI bB))] ∧ aN ⟨H0, [lo0p], []⟩ H [(lo0p, 2, List.map aE aB)] ∧ List.length aB = N0 ∧ gT cmp4 rec aB a1 m2 b3 bZ n19 bB = some r) ?_ ?_
        · clear hO hN h0
          rintro T H ⟨aB, bB, hT, hO, hN, h0⟩
          refine bA hT ?_
          clear hT
          unfold gT at h0
          refine aY aF 4 [19] [(24, (eI (wR (n19 - bB))))] ?_
          refine cH (fun T H => ∃ aB : List aA, ∃ eJ : Int, Has T [(0, (.msl 2 lo0p 0 (List.length aB))), (1, (eI a1)), (3, (eI b3)), (4, (.fn (.func cmp4_f) cmp4_a cmp4_c)), (18, (eI bZ)), (20, (eI bB)), (24, (eI eJ))] ∧ aN ⟨H0, [lo0p], []⟩ H [(lo0p, 2, List.map aE aB)] ∧ List.length aB = N0 ∧ iG cmp4 rec aB a1 b3 bZ bB eJ = some r) ?_ ?_
          · clear hO hN h0
            rintro T H ⟨aB, eJ, hT, hO, hN, h0⟩
            refine bA hT ?_
            clear hT
            unfold iG at h0
            refine cH (fun T H => ∃ aB : List aA, Has T [(0, (.msl 2 lo0p 0 (List.length aB))), (3, (eI b3)), (4, (.fn (.func cmp4_f) cmp4_a cmp4_c)), (18, (eI bZ)), (24, (eI eJ))] ∧ aN ⟨H0, [lo0p], []⟩ H [(lo0p, 2, List.map aE aB)] ∧ List.length aB = N0 ∧ iF cmp4 rec aB b3 bZ eJ = some r) ?_ ?_
            · clear hO hN h0
              rintro T H ⟨aB, hT, hO, hN, h0⟩
              refine bA hT ?_
              clear hT
              unfold iF at h0
              refine aY aF 8 [] [(213, (aK ((decide (bZ < eJ)) && (decide (eJ < b3)))))] ?_
              refine bJ h0 (fun h0 => ?_) (fun h0 => ?_)
              · refine aU aF 6 ?_
                refine bR 5 ?_
                obtain ⟨x3, hx4, h0⟩ := aW h0
                refine qL [(lo0p, 2, List.map aE x3)] 0 (ih lo0p aB bZ eJ b3 _ hx4) hO ?_
                intro H hO hl5
                simp only [List.length_map] at hl5
                replace hN := hl5.trans hN
                refine cW ?_
                refine cJ (l := [(0, (.msl 2 lo0p 0 (List.length x3)))]) ⟨[(0, (.msl 2 lo0p 0 (List.length aB)))], by kernel_rfl, rfl, ⟨aZ.eq (by simp [hl5]), trivial⟩⟩ ?_
                obtain rfl := oI h0
                exact aJ (tQ (x := (.tup [])) (by kernel_rfl) (aZ.refl _) ⟨rfl, hO.ext, hO.at 0 (by kernel_rfl), by simp only [List.length_map]; exact hN.trans hN0⟩)
              refine bL ?_
              obtain rfl := oI h0
              exact aJ (tQ (x := (.tup [])) (by kernel_rfl) (aZ.refl _) ⟨rfl, hO.ext, hO.at 0 (by kernel_rfl), by simp only [List.length_map]; exact hN.trans hN0⟩)
            refine aY aF 8 [] [(199, (aK ((decide (a1 < bB)) && (decide (bB < bZ)))))] ?_
            refine bJ h0 (fun h0 => ?_) (fun h0 => ?_)
            · refine aU aF 6 ?_
              refine bR 5 ?_
              obtain ⟨x7, hx8, h0⟩ := aW h0
              refine qL [(lo0p, 2, List.map aE x7)] 0 (ih lo0p aB a1 bB bZ _ hx8) hO ?_
              intro H hO hl9
              simp only [List.length_map] at hl9
              replace hN := hl9.trans hN
              refine cW ?_
              refine cJ (l := [(0, (.msl 2 lo0p 0 (List.length x7))), (3, (eI b3)), (4, (.fn (.func cmp4_f) cmp4_a cmp4_c)), (18, (eI bZ)), (24, (eI eJ))]) ⟨[(0, (.msl 2 lo0p 0 (List.length aB))), (3, (eI b3)), (4, (.fn (.func cmp4_f) cmp4_a cmp4_c)), (18, (eI bZ)), (24, (eI eJ))], by kernel_rfl, rfl, ⟨aZ.eq (by simp [hl9]), aZ.refl _, aZ.refl _, aZ.refl _, aZ.refl _, trivial⟩⟩ ?_
              exact aJ (aH (⟨rfl, _, .eq (by kernel_rfl), hO, hN, h0⟩))
            refine bL ?_
            exact aJ (aH (⟨rfl, _, .eq (by kernel_rfl), hO, hN, h0⟩))
          refine aY aF 8 [] [(185, (aK ((decide (bB < m2)) && (decide (m2 < (wR (n19 - bB)))))))] ?_
          refine bJ h0 (fun h0 => ?_) (fun h0 => ?_)
          · refine aU aF 6 ?_
            refine bR 5 ?_
            obtain ⟨x11, hx12, h0⟩ := aW h0
            refine qL [(lo0p, 2, List.map aE x11)] 0 (CU lo0p aB bB m2 (wR (n19 - bB)) cmp4_f cmp4_a cmp4_c cmp4 cmp4_h _ hx12) hO ?_
            intro H hO hl13
            simp only [List.length_map] at hl13
            replace hN := hl13.trans hN
            refine cW ?_
            refine cJ (l := [(0, (.msl 2 lo0p 0 (List.length x11))), (1, (eI a1)), (3, (eI b3)), (4, (.fn (.func cmp4_f) cmp4_a cmp4_c)), (18, (eI bZ)), (20, (eI bB)), (24, (eI (wR (n19 - bB))))]) ⟨[(0, (.msl 2 lo0p 0 (List.length aB))), (1, (eI a1)), (3, (eI b3)), (4, (.fn (.func cmp4_f) cmp4_a cmp4_c)), (18, (eI bZ)), (20, (eI bB)), (24, (eI (wR (n19 - bB))))], by kernel_rfl, rfl, ⟨aZ.eq (by simp [hl13]), aZ.refl _, aZ.refl _, aZ.refl _, aZ.refl _, aZ.refl _, aZ.refl _, trivial⟩⟩ ?_
            exact aJ (aH (⟨rfl, _, _, .eq (by kernel_rfl), hO, hN, h0⟩))
          refine bL ?_
          exact aJ (aH (⟨rfl, _, _, .eq (by kernel_rfl), hO, hN, h0⟩))
        refine bO 8 ?_
        refine cL [(0, (.msl 2 lo0p 0 (List.length aB))), (1, (eI a1)), (2, (eI m2)), (3, (eI b3)), (4, (.fn (.func cmp4_f) cmp4_a cmp4_c)), (18, (eI bZ)), (19, (eI n19)), (20, (eI bB)), (21, (eI r21)), (22, (eI (wR (n19 - (1 : Int)))))] ?_
        refine cC (fun T H => ∃ aB : List aA, ∃ bB : Int, ∃ r21 : Int, ∃ p22 : Int, Has T [(0, (.msl 2 lo0p 0 (List.length aB))), (1, (eI a1)), (2, (eI m2)), (3, (eI b3)), (4, (.fn (.func cmp4_f) cmp4_a cmp4_c)), (18, (eI bZ)), (19, (eI n19)), (20, (eI bB)), (21, (eI r21)), (22, (eI p22))] ∧ aN ⟨H0, [lo0p], []⟩ H [(lo0p, 2, List.map aE aB)] ∧ List.length aB = N0 ∧ lV cmp4 rec aB a1 m2 b3 bZ n19 bB r21 p22 = some r) ?_ ⟨aB, bB, r21, wR (n19 - (1 : Int)), .eq (by kernel_rfl), hO, hN, h0⟩
        clear hO hN h0
        rintro T H ⟨aB, bB, r21, p22, hT, hO, hN, h0⟩
        refine bA hT ?_
        clear hT
        unfold lV at h0
        obtain ⟨rr0, hl0, h0⟩ := aW h0
        refine bX (by kernel_rfl) (fun (s : List aA × Int × Int) T H => Has T [(0, (.msl 2 lo0p 0 (List.length s.1))), (1, (eI a1)), (2, (eI m2)), (3, (eI b3)), (4, (.fn (.func cmp4_f) cmp4_a cmp4_c)), (18, (eI bZ)), (19, (eI n19)), (20, (eI s.2.1)), (21, (eI s.2.2)), (22, (eI p22))] ∧ aN ⟨H0, [lo0p], []⟩ H [(lo0p, 2, List.map aE s.1)] ∧ List.length s.1 = N0) hl0 ⟨.eq (by kernel_rfl), hO, hN⟩ ?_
        clear hO hN
        rintro k0 s out1 T H ⟨hT, hO, hN⟩ h1 ho0
        obtain ⟨aB, bB, r21⟩ := s
        replace h1 : lQ cmp4 rec a1 m2 b3 bZ n19 p22 aB bB r21 = some out1 := h1
        try dsimp only at hT
        refine bA hT ?_
        clear hT
        unfold lQ at h1
        refine aO ?_
        refine aY aF 3 [] [(151, (aK (decide (bB < r21))))] ?_
        refine bJ h1 (fun h1 => ?_) (fun h1 => ?_)
        · refine bL ?_
          refine bH [(0, (.msl 2 lo0p 0 (List.length aB))), (1, (eI a1)), (2, (eI m2)), (3, (eI b3)), (4, (.fn (.func cmp4_f) cmp4_a cmp4_c)), (18, (eI bZ)), (19, (eI n19)), (20, (eI bB)), (21, (eI r21)), (22, (eI p22))] ?_
          refine bO 9 ?_
          refine aO ?_
          refine aU aF 7 ?_
          obtain ⟨c15, h1⟩ := bE h1
          refine oN [0 ≤ (1 : Int)] ⟨c15, trivial⟩ ?_
          refine bT [] [(23, (eI (wR (Int.fdiv (IntKind.u64.wrap (wR (bB + r21))) (2 ^ (min (Int.toNat (1 : Int)) 64))))))] ?_
          refine aO ?_
          refine eS (eV [169]) aF 14 ?_
          obtain ⟨c16, h1⟩ := bE h1
          refine dA 6 [0 ≤ (wR (p22 - (wR (Int.fdiv (IntKind.u64.wrap (wR (bB + r21))) (2 ^ (min (Int.toNat (1 : Int)) 64)))))) ∧ (wR (p22 - (wR (Int.fdiv (IntKind.u64.wrap (wR (bB + r21))) (2 ^ (min (Int.toNat (1 : Int)) 64)))))) < (lN aB)] ⟨c16, trivial⟩ ?_
          refine lT 0 lo0p 2 (0 + Int.toNat (wR (p22 - (wR (Int.fdiv (IntKind.u64.wrap (wR (bB + r21))) (2 ^ (min (Int.toNat (1 : Int)) 64))))))) (aE (gD aB (wR (p22 - (wR (Int.fdiv (IntKind.u64.wrap (wR (bB + r21))) (2 ^ (min (Int.toNat (1 : Int)) 64)))))))) (aE (gD aB (wR (p22 - (wR (Int.fdiv (IntKind.u64.wrap (wR (bB + r21))) (2 ^ (min (Int.toNat (1 : Int)) 64)))))))) (List.map aE aB) hO (dB c16) ?_
          obtain ⟨c17, h1⟩ := bE h1
          refine dA 10 [0 ≤ (wR (Int.fdiv (IntKind.u64.wrap (wR (bB + r21))) (2 ^ (min (Int.toNat (1 : Int)) 64)))) ∧ (wR (Int.fdiv (IntKind.u64.wrap (wR (bB + r21))) (2 ^ (min (Int.toNat (1 : Int)) 64)))) < (lN aB)] ⟨c17, trivial⟩ ?_
          refine lT 0 lo0p 2 (0 + Int.toNat (wR (Int.fdiv (IntKind.u64.wrap (wR (bB + r21))) (2 ^ (min (Int.toNat (1 : Int)) 64))))) (aE (gD aB (wR (Int.fdiv (IntKind.u64.wrap (wR (bB + r21))) (2 ^ (min (Int.toNat (1 : Int)) 64)))))) (aE (gD aB (wR (Int.fdiv (IntKind.u64.wrap (wR (bB + r21))) (2 ^ (min (Int.toNat (1 : Int)) 64)))))) (List.map aE aB) hO (dB c17) ?_
          obtain ⟨x18, hx19, h1⟩ := aW h1
          refine yA (cmp4_h (gD aB (wR (p22 - (wR (Int.fdiv (IntKind.u64.wrap (wR (bB + r21))) (2 ^ (min (Int.toNat (1 : Int)) 64))))))) (gD aB (wR (Int.fdiv (IntKind.u64.wrap (wR (bB + r21))) (2 ^ (min (Int.toNat (1 : Int)) 64))))) _ hx19) hO ?_
          intro H hO
          refine iJ ?_
          refine bT [] [(171, (aK (!(decide (x18 < (0 : Int))))))] ?_
          refine bJ h1 (fun h1 => ?_) (fun h1 => ?_)
          · refine aU aF 3 ?_
            refine bC ?_
            exact aJ (aV (aH (⟨rfl, _, (oI h1).symm, .eq (by kernel_rfl), hO, hN⟩)))
          refine aU aF 2 ?_
          refine bC ?_
          exact aJ (aV (aH (⟨rfl, _, (oI h1).symm, .eq (by kernel_rfl), hO, hN⟩)))
        refine cV 8 ?_
        obtain rfl := oI h1
        obtain rfl : _ = rr0 := ho0
        replace h0 : gT cmp4 rec aB a1 m2 b3 bZ n19 bB = some r := h0
        exact aJ (aS (aS (bM (aH (⟨rfl, _, _, .eq (by kernel_rfl), hO, hN, h0⟩)))))
      refine aY aF 3 [] [(140, (aK (decide ((wR (Int.fdiv (IntKind.u64.wrap (wR (a1 + b3))) (2 ^ (min (Int.toNat (1 : Int)) 64)))) < m2))))] ?_
      refine bJ h0 (fun h0 => ?_) (fun h0 => ?_)
      · refine bV aF 4 [(0, (.msl 2 lo0p 0 (List.length aB))), (1, (eI a1)), (2, (eI m2)), (3, (eI b3)), (4, (.fn (.func cmp4_f) cmp4_a cmp4_c)), (18, (eI (wR (Int.fdiv (IntKind.u64.wrap (wR (a1 + b3))) (2 ^ (min (Int.toNat (1 : Int)) 64)))))), (19, (eI (wR ((wR (Int.fdiv (IntKind.u64.wrap (wR (a1 + b3))) (2 ^ (min (Int.toNat (1 : Int)) 64)))) + m2)))), (20, (eI (wR ((wR ((wR (Int.fdiv (IntKind.u64.wrap (wR (a1 + b3))) (2 ^ (min (Int.toNat (1 : Int)) 64)))) + m2)) - b3))))] ?_
        refine aU aF 2 ?_
        refine bC ?_
        exact aJ (aH (⟨rfl, _, _, _, _, _, .eq (by kernel_rfl), hO, hN, h0⟩))
      refine bV aF 2 [(0, (.msl 2 lo0p 0 (List.length aB))), (1, (eI a1)), (2, (eI m2)), (3, (eI b3)), (4, (.fn (.func cmp4_f) cmp4_a cmp4_c)), (18, (eI (wR (Int.fdiv (IntKind.u64.wrap (wR (a1 + b3))) (2 ^ (min (Int.toNat (1 : Int)) 64)))))), (19, (eI (wR ((wR (Int.fdiv (IntKind.u64.wrap (wR (a1 + b3))) (2 ^ (min (Int.toNat (1 : Int)) 64)))) + m2)))), (20, (eI a1))] ?_
      refine aU aF 2 ?_
      refine bC ?_
      exact aJ (aH (⟨rfl, _, _, _, _, _, .eq (by kernel_rfl), hO, hN, h0⟩))
    refine aY aF 4 [] [(80, (aK (decide ((wR (b3 - m2)) = (1 : Int)))))] ?_
    refine bJ h0 (fun h0 => ?_) (fun h0 => ?_)
    · refine aY aF 2 [1, 3, 80] [(14, (eI a1))] ?_
      refine aY aF 2 [] [(15, (eI m2))] ?_
      refine cH (fun T H => ∃ aB : List aA, ∃ i14 : Int, Has T [(0, (.msl 2 lo0p 0 (List.length aB))), (2, (eI m2)), (14, (eI i14))] ∧ aN ⟨H0, [lo0p], []⟩ H [(lo0p, 2, List.map aE aB)] ∧ List.length aB = N0 ∧ iB cmp4 rec aB m2 i14 = some r) ?_ ?_
      · clear hO hN h0
        rintro T H ⟨aB, i14, hT, hO, hN, h0⟩
        refine bA hT ?_
        clear hT
        unfold iB at h0
        refine cH (fun T H => ∃ aB : List aA, Has T [(0, (.msl 2 lo0p 0 (List.length aB)))] ∧ aN ⟨H0, [lo0p], []⟩ H [(lo0p, 2, List.map aE aB)] ∧ List.length aB = N0 ∧ iA cmp4 rec aB = some r) ?_ ?_
        · clear hO hN h0
          rintro T H ⟨aB, hT, hO, hN, h0⟩
          refine bA hT ?_
          clear hT
          unfold iA at h0
          refine bK ?_
          obtain rfl := oI h0
          exact aJ (aQ (rV (x := (.tup [])) (by kernel_rfl) (aZ.refl _) ⟨rfl, hO.ext, hO.at 0 (by kernel_rfl), by simp only [List.length_map]; exact hN.trans hN0⟩))
        refine aY aF 2 [2] [(17, (eI m2))] ?_
        refine bO 6 ?_
        refine cL [(0, (.msl 2 lo0p 0 (List.length aB))), (14, (eI i14)), (17, (eI m2))] ?_
        refine cC (fun T H => ∃ aB : List aA, ∃ k17 : Int, Has T [(0, (.msl 2 lo0p 0 (List.length aB))), (14, (eI i14)), (17, (eI k17))] ∧ aN ⟨H0, [lo0p], []⟩ H [(lo0p, 2, List.map aE aB)] ∧ List.length aB = N0 ∧ kU cmp4 rec aB i14 k17 = some r) ?_ ⟨aB, m2, .eq (by kernel_rfl), hO, hN, h0⟩
        clear hO hN h0
        rintro T H ⟨aB, k17, hT, hO, hN, h0⟩
        refine bA hT ?_
        clear hT
        unfold kU at h0
        obtain ⟨rr0, hl0, h0⟩ := aW h0
        refine bX (by kernel_rfl) (fun (s : List aA × Int) T H => Has T [(0, (.msl 2 lo0p 0 (List.length s.1))), (14, (eI i14)), (17, (eI s.2))] ∧ aN ⟨H0, [lo0p], []⟩ H [(lo0p, 2, List.map aE s.1)] ∧ List.length s.1 = N0) hl0 ⟨.eq (by kernel_rfl), hO, hN⟩ ?_
        clear hO hN
        rintro k0 s out1 T H ⟨hT, hO, hN⟩ h1 ho0
        obtain ⟨aB, k17⟩ := s
        replace h1 : kW cmp4 rec i14 aB k17 = some out1 := h1
        try dsimp only at hT
        refine bA hT ?_
        clear hT
        unfold kW at h1
        refine aO ?_
        refine aY aF 3 [] [(110, (aK (decide (i14 < k17))))] ?_
        refine bJ h1 (fun h1 => ?_) (fun h1 => ?_)
        · refine bL ?_
          refine bH [(0, (.msl 2 lo0p 0 (List.length aB))), (14, (eI i14)), (17, (eI k17))] ?_
          refine aO ?_
          refine bO 7 ?_
          refine eS (eV []) aF 18 ?_
          obtain ⟨c25, h1⟩ := bE h1
          refine dA 9 [0 ≤ (wR (k17 - (1 : Int))) ∧ (wR (k17 - (1 : Int))) < (lN aB)] ⟨c25, trivial⟩ ?_
          refine lT 0 lo0p 2 (0 + Int.toNat (wR (k17 - (1 : Int)))) (aE (gD aB (wR (k17 - (1 : Int))))) (aE (gD aB (wR (k17 - (1 : Int))))) (List.map aE aB) hO (dB c25) ?_
          obtain ⟨c26, h1⟩ := bE h1
          refine dA 13 [0 ≤ k17 ∧ k17 < (lN aB)] ⟨c26, trivial⟩ ?_
          refine lT 0 lo0p 2 (0 + Int.toNat k17) (aE (gD aB k17)) (aE (gD aB k17)) (List.map aE aB) hO (dB c26) ?_
          obtain ⟨c27, h1⟩ := bE h1
          refine dA 15 [0 ≤ k17 ∧ k17 < (lN aB)] ⟨c27, trivial⟩ ?_
          refine vH 0 lo0p 2 (0 + Int.toNat k17) (aE (gD aB k17)) (aE (gD aB (wR (k17 - (1 : Int))))) (List.map aE aB) [(lo0p, 2, List.map aE (List.set aB (Int.toNat k17) (gD aB (wR (k17 - (1 : Int))))))] hO (dB c27) (by simp only [List.set, pR]) ?_
          intro H hO
          replace hN : List.length (List.set aB (Int.toNat k17) (gD aB (wR (k17 - (1 : Int))))) = N0 := by simpa using hN
          obtain ⟨c28, h1⟩ := bE h1
          refine dA 17 [0 ≤ (wR (k17 - (1 : Int))) ∧ (wR (k17 - (1 : Int))) < (lN aB)] ⟨c28, trivial⟩ ?_
          refine vH 0 lo0p 2 (0 + Int.toNat (wR (k17 - (1 : Int)))) (aE (gD (List.set aB (Int.toNat k17) (gD aB (wR (k17 - (1 : Int))))) (wR (k17 - (1 : Int))))) (aE (gD aB k17)) (List.map aE (List.set aB (Int.toNat k17) (gD aB (wR (k17 - (1 : Int)))))) [(lo0p, 2, List.map aE (List.set (List.set aB (Int.toNat k17) (gD aB (wR (k17 - (1 : Int))))) (Int.toNat (wR (k17 - (1 : Int)))) (gD aB k17)))] hO (CO c28 (by simp [])) (by simp only [List.set, pR]) ?_
          intro H hO
          replace hN : List.length (List.set (List.set aB (Int.toNat k17) (gD aB (wR (k17 - (1 : Int))))) (Int.toNat (wR (k17 - (1 : Int)))) (gD aB k17)) = N0 := by simpa using hN
          refine DV (by kernel_rfl) ?_
          refine cJ (l := [(0, (.msl 2 lo0p 0 (List.length (List.set (List.set aB (Int.toNat k17) (gD aB (wR (k17 - (1 : Int))))) (Int.toNat (wR (k17 - (1 : Int)))) (gD aB k17))))), (14, (eI i14)), (17, (eI k17))]) ⟨[(0, (.msl 2 lo0p 0 (List.length aB))), (14, (eI i14)), (17, (eI k17))], by kernel_rfl, rfl, ⟨aZ.eq (by simp []), aZ.refl _, aZ.refl _, trivial⟩⟩ ?_
          refine aJ (aV (aH (?_)))
          refine aU aF 3 ?_
          refine bC ?_
          exact aJ (aH (⟨rfl, _, (oI h1).symm, .eq (by kernel_rfl), hO, hN⟩))
        refine cV 6 ?_
        obtain rfl := oI h1
        obtain rfl : _ = rr0 := ho0
        replace h0 : iA cmp4 rec aB = some r := h0
        exact aJ (aS (aS (bM (aH (⟨rfl, _, .eq (by kernel_rfl), hO, hN, h0⟩)))))
      refine bO 4 ?_
      refine cL [(0, (.msl 2 lo0p 0 (List.length aB))), (2, (eI m2)), (4, (.fn (.func cmp4_f) cmp4_a cmp4_c)), (14, (eI a1)), (15, (eI m2))] ?_
      refine cC (fun T H => ∃ aB : List aA, ∃ i14 : Int, ∃ j15 : Int, Has T [(0, (.msl 2 lo0p 0 (List.length aB))), (2, (eI m2)), (4, (.fn (.func cmp4_f) cmp4_a cmp4_c)), (14, (eI i14)), (15, (eI j15))] ∧ aN ⟨H0, [lo0p], []⟩ H [(lo0p, 2, List.map aE aB)] ∧ List.length aB = N0 ∧ lB cmp4 rec aB m2 i14 j15 = some r) ?_ ⟨aB, a1, m2, .eq (by kernel_rfl), hO, hN, h0⟩
      clear hO hN h0
      rintro T H ⟨aB, i14, j15, hT, hO, hN, h0⟩
      refine bA hT ?_
      clear hT
      unfold lB at h0
      obtain ⟨rr0, hl0, h0⟩ := aW h0
      refine bX (by kernel_rfl) (fun (s : List aA × Int × Int) T H => Has T [(0, (.msl 2 lo0p 0 (List.length s.1))), (2, (eI m2)), (4, (.fn (.func cmp4_f) cmp4_a cmp4_c)), (14, (eI s.2.1)), (15, (eI s.2.2))] ∧ aN ⟨H0, [lo0p], []⟩ H [(lo0p, 2, List.map aE s.1)] ∧ List.length s.1 = N0) hl0 ⟨.eq (by kernel_rfl), hO, hN⟩ ?_
      clear hO hN
      rintro k0 s out1 T H ⟨hT, hO, hN⟩ h1 ho0
      obtain ⟨aB, i14, j15⟩ := s
      replace h1 : lG cmp4 rec m2 aB i14 j15 = some out1 := h1
      try dsimp only at hT
      refine bA hT ?_
      clear hT
      unfold lG at h1
      refine aO ?_
      refine aY aF 3 [] [(85, (aK (decide (i14 < j15))))] ?_
      refine bJ h1 (fun h1 => ?_) (fun h1 => ?_)
      · refine bL ?_
        refine bH [(0, (.msl 2 lo0p 0 (List.length aB))), (2, (eI m2)), (4, (.fn (.func cmp4_f) cmp4_a cmp4_c)), (14, (eI i14)), (15, (eI j15))] ?_
        refine bO 5 ?_
        refine aO ?_
        refine aU aF 7 ?_
        obtain ⟨c30, h1⟩ := bE h1
        refine oN [0 ≤ (1 : Int)] ⟨c30, trivial⟩ ?_
        refine bT [] [(16, (eI (wR (Int.fdiv (IntKind.u64.wrap (wR (i14 + j15))) (2 ^ (min (Int.toNat (1 : Int)) 64))))))] ?_
        refine aO ?_
        refine eS (eV [101]) aF 12 ?_
        obtain ⟨c31, h1⟩ := bE h1
        refine dA 4 [0 ≤ m2 ∧ m2 < (lN aB)] ⟨c31, trivial⟩ ?_
        refine lT 0 lo0p 2 (0 + Int.toNat m2) (aE (gD aB m2)) (aE (gD aB m2)) (List.map aE aB) hO (dB c31) ?_
        obtain ⟨c32, h1⟩ := bE h1
        refine dA 8 [0 ≤ (wR (Int.fdiv (IntKind.u64.wrap (wR (i14 + j15))) (2 ^ (min (Int.toNat (1 : Int)) 64)))) ∧ (wR (Int.fdiv (IntKind.u64.wrap (wR (i14 + j15))) (2 ^ (min (Int.toNat (1 : Int)) 64)))) < (lN aB)] ⟨c32, trivial⟩ ?_
        refine lT 0 lo0p 2 (0 + Int.toNat (wR (Int.fdiv (IntKind.u64.wrap (wR (i14 + j15))) (2 ^ (min (Int.toNat (1 : Int)) 64))))) (aE (gD aB (wR (Int.fdiv (IntKind.u64.wrap (wR (i14 + j15))) (2 ^ (min (Int.toNat (1 : Int)) 64)))))) (aE (gD aB (wR (Int.fdiv (IntKind.u64.wrap (wR (i14 + j15))) (2 ^ (min (Int.toNat (1 : Int)) 64)))))) (List.map aE aB) hO (dB c32) ?_
        obtain ⟨x33, hx34, h1⟩ := aW h1
        refine yA (cmp4_h (gD aB m2) (gD aB (wR (Int.fdiv (IntKind.u64.wrap (wR (i14 + j15))) (2 ^ (min (Int.toNat (1 : Int)) 64))))) _ hx34) hO ?_
        intro H hO
        refine iJ ?_
        refine bT [] [(103, (aK (!(decide (x33 < (0 : Int))))))] ?_
        refine bJ h1 (fun h1 => ?_) (fun h1 => ?_)
        · refine aU aF 3 ?_
          refine bC ?_
          exact aJ (aV (aH (⟨rfl, _, (oI h1).symm, .eq (by kernel_rfl), hO, hN⟩)))
        refine aU aF 2 ?_
        refine bC ?_
        exact aJ (aV (aH (⟨rfl, _, (oI h1).symm, .eq (by kernel_rfl), hO, hN⟩)))
      refine cV 4 ?_
      obtain rfl := oI h1
      obtain rfl : _ = rr0 := ho0
      replace h0 : iB cmp4 rec aB m2 i14 = some r := h0
      exact aJ (aS (aS (bM (aH (⟨rfl, _, _, .eq (by kernel_rfl), hO, hN, h0⟩)))))
    refine bL ?_
    exact aJ (aH (⟨rfl, _, .eq (by kernel_rfl), hO, hN, h0⟩))
  refine aY aF 4 [] [(28, (aK (decide ((wR (m2 - a1)) = (1 : Int)))))] ?_
  refine bJ h0 (fun h0 => ?_) (fun h0 => ?_)
  · refine aY aF 2 [2, 28] [(10, (eI m2))] ?_
    refine aY aF 2 [3] [(11, (eI b3))] ?_
    refine cH (fun T H => ∃ aB : List aA, ∃ i10 : Int, Has T [(0, (.msl 2 lo0p 0 (List.length aB))), (1, (eI a1)), (10, (eI i10))] ∧ aN ⟨H0, [lo0p], []⟩ H [(lo0p, 2, List.map aE aB)] ∧ List.length aB = N0 ∧ gP cmp4 rec aB a1 i10 = some r) ?_ ?_
    · clear hO hN h0
      rintro T H ⟨aB, i10, hT, hO, hN, h0⟩
      refine bA hT ?_
      clear hT
      unfold gP at h0
      refine cH (fun T H => ∃ aB : List aA, Has T [(0, (.msl 2 lo0p 0 (List.length aB)))] ∧ aN ⟨H0, [lo0p], []⟩ H [(lo0p, 2, List.map aE aB)] ∧ List.length aB = N0 ∧ gQ cmp4 rec aB = some r) ?_ ?_
      · clear hO hN h0
        rintro T H ⟨aB, hT, hO, hN, h0⟩
        refine bA hT ?_
        clear hT
        unfold gQ at h0
        refine bK ?_
        obtain rfl := oI h0
        exact aJ (aQ (rV (x := (.tup [])) (by kernel_rfl) (aZ.refl _) ⟨rfl, hO.ext, hO.at 0 (by kernel_rfl), by simp only [List.length_map]; exact hN.trans hN0⟩))
      refine aY aF 2 [1] [(13, (eI a1))] ?_
      refine bO 2 ?_
      refine cL [(0, (.msl 2 lo0p 0 (List.length aB))), (10, (eI i10)), (13, (eI a1))] ?_
      refine cC (fun T H => ∃ aB : List aA, ∃ k13 : Int, Has T [(0, (.msl 2 lo0p 0 (List.length aB))), (10, (eI i10)), (13, (eI k13))] ∧ aN ⟨H0, [lo0p], []⟩ H [(lo0p, 2, List.map aE aB)] ∧ List.length aB = N0 ∧ kV cmp4 rec aB i10 k13 = some r) ?_ ⟨aB, a1, .eq (by kernel_rfl), hO, hN, h0⟩
      clear hO hN h0
      rintro T H ⟨aB, k13, hT, hO, hN, h0⟩
      refine bA hT ?_
      clear hT
      unfold kV at h0
      obtain ⟨rr0, hl0, h0⟩ := aW h0
      refine bX (by kernel_rfl) (fun (s : List aA × Int) T H => Has T [(0, (.msl 2 lo0p 0 (List.length s.1))), (10, (eI i10)), (13, (eI s.2))] ∧ aN ⟨H0, [lo0p], []⟩ H [(lo0p, 2, List.map aE s.1)] ∧ List.length s.1 = N0) hl0 ⟨.eq (by kernel_rfl), hO, hN⟩ ?_
      clear hO hN
      rintro k0 s out1 T H ⟨hT, hO, hN⟩ h1 ho0
      obtain ⟨aB, k13⟩ := s
      replace h1 : lH cmp4 rec i10 aB k13 = some out1 := h1
      try dsimp only at hT
      refine bA hT ?_
      clear hT
      unfold lH at h1
      refine aO ?_
      refine aY aF 4 [] [(58, (aK (decide (k13 < (wR (i10 - (1 : Int)))))))] ?_
      refine bJ h1 (fun h1 => ?_) (fun h1 => ?_)
      · refine bL ?_
        refine bH [(0, (.msl 2 lo0p 0 (List.length aB))), (10, (eI i10)), (13, (eI k13))] ?_
        refine aO ?_
        refine bO 3 ?_
        refine eS (eV []) aF 18 ?_
        obtain ⟨c39, h1⟩ := bE h1
        refine dA 9 [0 ≤ (wR (k13 + (1 : Int))) ∧ (wR (k13 + (1 : Int))) < (lN aB)] ⟨c39, trivial⟩ ?_
        refine lT 0 lo0p 2 (0 + Int.toNat (wR (k13 + (1 : Int)))) (aE (gD aB (wR (k13 + (1 : Int))))) (aE (gD aB (wR (k13 + (1 : Int))))) (List.map aE aB) hO (dB c39) ?_
        obtain ⟨c40, h1⟩ := bE h1
        refine dA 13 [0 ≤ k13 ∧ k13 < (lN aB)] ⟨c40, trivial⟩ ?_
        refine lT 0 lo0p 2 (0 + Int.toNat k13) (aE (gD aB k13)) (aE (gD aB k13)) (List.map aE aB) hO (dB c40) ?_
        obtain ⟨c41, h1⟩ := bE h1
        refine dA 15 [0 ≤ k13 ∧ k13 < (lN aB)] ⟨c41, trivial⟩ ?_
        refine vH 0 lo0p 2 (0 + Int.toNat k13) (aE (gD aB k13)) (aE (gD aB (wR (k13 + (1 : Int))))) (List.map aE aB) [(lo0p, 2, List.map aE (List.set aB (Int.toNat k13) (gD aB (wR (k13 + (1 : Int))))))] hO (dB c41) (by simp only [List.set, pR]) ?_
        intro H hO
        replace hN : List.length (List.set aB (Int.toNat k13) (gD aB (wR (k13 + (1 : Int))))) = N0 := by simpa using hN
        obtain ⟨c42, h1⟩ := bE h1
        refine dA 17 [0 ≤ (wR (k13 + (1 : Int))) ∧ (wR (k13 + (1 : Int))) < (lN aB)] ⟨c42, trivial⟩ ?_
        refine vH 0 lo0p 2 (0 + Int.toNat (wR (k13 + (1 : Int)))) (aE (gD (List.set aB (Int.toNat k13) (gD aB (wR (k13 + (1 : Int))))) (wR (k13 + (1 : Int))))) (aE (gD aB k13)) (List.map aE (List.set aB (Int.toNat k13) (gD aB (wR (k13 + (1 : Int)))))) [(lo0p, 2, List.map aE (List.set (List.set aB (Int.toNat k13) (gD aB (wR (k13 + (1 : Int))))) (Int.toNat (wR (k13 + (1 : Int)))) (gD aB k13)))] hO (CO c42 (by simp [])) (by simp only [List.set, pR]) ?_
        intro H hO
        replace hN : List.length (List.set (List.set aB (Int.toNat k13) (gD aB (wR (k13 + (1 : Int))))) (Int.toNat (wR (k13 + (1 : Int)))) (gD aB k13)) = N0 := by simpa using hN
        refine DV (by kernel_rfl) ?_
        refine cJ (l := [(0, (.msl 2 lo0p 0 (List.length (List.set (List.set aB (Int.toNat k13) (gD aB (wR (k13 + (1 : Int))))) (Int.toNat (wR (k13 + (1 : Int)))) (gD aB k13))))), (10, (eI i10)), (13, (eI k13))]) ⟨[(0, (.msl 2 lo0p 0 (List.length aB))), (10, (eI i10)), (13, (eI k13))], by kernel_rfl, rfl, ⟨aZ.eq (by simp []), aZ.refl _, aZ.refl _, trivial⟩⟩ ?_
        refine aJ (aV (aH (?_)))
        refine aU aF 3 ?_
        refine bC ?_
        exact aJ (aH (⟨rfl, _, (oI h1).symm, .eq (by kernel_rfl), hO, hN⟩))
      refine cV 2 ?_
      obtain rfl := oI h1
      obtain rfl : _ = rr0 := ho0
      replace h0 : gQ cmp4 rec aB = some r := h0
      exact aJ (aS (aS (bM (aH (⟨rfl, _, .eq (by kernel_rfl), hO, hN, h0⟩)))))
    refine bO 0 ?_
    refine cL [(0, (.msl 2 lo0p 0 (List.length aB))), (1, (eI a1)), (4, (.fn (.func cmp4_f) cmp4_a cmp4_c)), (10, (eI m2)), (11, (eI b3))] ?_
    refine cC (fun T H => ∃ aB : List aA, ∃ i10 : Int, ∃ j11 : Int, Has T [(0, (.msl 2 lo0p 0 (List.length aB))), (1, (eI a1)), (4, (.fn (.func cmp4_f) cmp4_a cmp4_c)), (10, (eI i10)), (11, (eI j11))] ∧ aN ⟨H0, [lo0p], []⟩ H [(lo0p, 2, List.map aE aB)] ∧ List.length aB = N0 ∧ kX cmp4 rec aB a1 i10 j11 = some r) ?_ ⟨aB, m2, b3, .eq (by kernel_rfl), hO, hN, h0⟩
    clear hO hN h0
    rintro T H ⟨aB, i10, j11, hT, hO, hN, h0⟩
    refine bA hT ?_
    clear hT
    unfold kX at h0
    obtain ⟨rr0, hl0, h0⟩ := aW h0
    refine bX (by kernel_rfl) (fun (s : List aA × Int × Int) T H => Has T [(0, (.msl 2 lo0p 0 (List.length s.1))), (1, (eI a1)), (4, (.fn (.func cmp4_f) cmp4_a cmp4_c)), (10, (eI s.2.1)), (11, (eI s.2.2))] ∧ aN ⟨H0, [lo0p], []⟩ H [(lo0p, 2, List.map aE s.1)] ∧ List.length s.1 = N0) hl0 ⟨.eq (by kernel_rfl), hO, hN⟩ ?_
    clear hO hN
    rintro k0 s out1 T H ⟨hT, hO, hN⟩ h1 ho0
    obtain ⟨aB, i10, j11⟩ := s
    replace h1 : lI cmp4 rec a1 aB i10 j11 = some out1 := h1
    try dsimp only at hT
    refine bA hT ?_
    clear hT
    unfold lI at h1
    refine aO ?_
    refine aY aF 3 [] [(33, (aK (decide (i10 < j11))))] ?_
    refine bJ h1 (fun h1 => ?_) (fun h1 => ?_)
    · refine bL ?_
      refine bH [(0, (.msl 2 lo0p 0 (List.length aB))), (1, (eI a1)), (4, (.fn (.func cmp4_f) cmp4_a cmp4_c)), (10, (eI i10)), (11, (eI j11))] ?_
      refine bO 1 ?_
      refine aO ?_
      refine aU aF 7 ?_
      obtain ⟨c44, h1⟩ := bE h1
      refine oN [0 ≤ (1 : Int)] ⟨c44, trivial⟩ ?_
      refine bT [] [(12, (eI (wR (Int.fdiv (IntKind.u64.wrap (wR (i10 + j11))) (2 ^ (min (Int.toNat (1 : Int)) 64))))))] ?_
      refine aO ?_
      refine eS (eV [49]) aF 11 ?_
      obtain ⟨c45, h1⟩ := bE h1
      refine dA 4 [0 ≤ (wR (Int.fdiv (IntKind.u64.wrap (wR (i10 + j11))) (2 ^ (min (Int.toNat (1 : Int)) 64)))) ∧ (wR (Int.fdiv (IntKind.u64.wrap (wR (i10 + j11))) (2 ^ (min (Int.toNat (1 : Int)) 64)))) < (lN aB)] ⟨c45, trivial⟩ ?_
      refine lT 0 lo0p 2 (0 + Int.toNat (wR (Int.fdiv (IntKind.u64.wrap (wR (i10 + j11))) (2 ^ (min (Int.toNat (1 : Int)) 64))))) (aE (gD aB (wR (Int.fdiv (IntKind.u64.wrap (wR (i10 + j11))) (2 ^ (min (Int.toNat (1 : Int)) 64)))))) (aE (gD aB (wR (Int.fdiv (IntKind.u64.wrap (wR (i10 + j11))) (2 ^ (min (Int.toNat (1 : Int)) 64)))))) (List.map aE aB) hO (dB c45) ?_
      obtain ⟨c46, h1⟩ := bE h1
      refine dA 8 [0 ≤ a1 ∧ a1 < (lN aB)] ⟨c46, trivial⟩ ?_
      refine lT 0 lo0p 2 (0 + Int.toNat a1) (aE (gD aB a1)) (aE (gD aB a1)) (List.map aE aB) hO (dB c46) ?_
      obtain ⟨x47, hx48, h1⟩ := aW h1
      refine yA (cmp4_h (gD aB (wR (Int.fdiv (IntKind.u64.wrap (wR (i10 + j11))) (2 ^ (min (Int.toNat (1 : Int)) 64))))) (gD aB a1) _ hx48) hO ?_
      intro H hO
      refine iJ ?_
      refine bT [] [(50, (aK (decide (x47 < (0 : Int)))))] ?_
      refine bJ h1 (fun h1 => ?_) (fun h1 => ?_)
      · refine aU aF 3 ?_
        refine bC ?_
        exact aJ (aV (aH (⟨rfl, _, (oI h1).symm, .eq (by kernel_rfl), hO, hN⟩)))
      refine aU aF 2 ?_
      refine bC ?_
      exact aJ (aV (aH (⟨rfl, _, (oI h1).symm, .eq (by kernel_rfl), hO, hN⟩)))
    refine cV 0 ?_
    obtain rfl := oI h1
    obtain rfl : _ = rr0 := ho0
    replace h0 : gP cmp4 rec aB a1 i10 = some r := h0
    exact aJ (aS (aS (bM (aH (⟨rfl, _, _, .eq (by kernel_rfl), hO, hN, h0⟩)))))
  refine bL ?_
  exact aJ (aH (⟨rfl, _, .eq (by kernel_rfl), hO, hN, h0⟩))

theorem pT (cmp4_f : Nat) (cmp4_a cmp4_c : List V) (cmp4 : aA → aA → Option Int) (cmp4_h : ∀ a0 a1 r, cmp4 a0 a1 = some r → bY Tryz.prog cmp4_f (cmp4_a ++ [(aE a0), (aE a1)] ++ cmp4_c) (eI r)) : ∀ (k : Nat) (lo0p : Nat) (aB : (List aA)) (a1 : Int) (m2 : Int) (b3 : Int) (r : List aA), gV cmp4 k aB a1 m2 b3 = some r → mB Tryz.prog 107 lo0p 2 (List.map aE aB) (List.map aE r) [(.msl 2 lo0p 0 (List.length aB)), (eI a1), (eI m2), (eI b3), (.fn (.func cmp4_f) cmp4_a cmp4_c)] (.tup [])
  | 0, _, _, _, _, _, _, h => by cases h
  | k + 1, lo0p, aB, a1, m2, b3, r, h => xG cmp4_f cmp4_a cmp4_c cmp4 cmp4_h _ (pT cmp4_f cmp4_a cmp4_c cmp4 cmp4_h k) lo0p aB a1 m2 b3 r h

theorem qQ (lo0p : Nat) (aB : (List aA)) (a1 : Int) (m2 : Int) (b3 : Int) (cmp4_f : Nat) (cmp4_a cmp4_c : List V) (cmp4 : aA → aA → Option Int) (cmp4_h : ∀ a0 a1 r, cmp4 a0 a1 = some r → bY Tryz.prog cmp4_f (cmp4_a ++ [(aE a0), (aE a1)] ++ cmp4_c) (eI r)) (r : List aA) (h0 : eY aB a1 m2 b3 cmp4 = some r) : mB Tryz.prog 107 lo0p 2 (List.map aE aB) (List.map aE r) [(.msl 2 lo0p 0 (List.length aB)), (eI a1), (eI m2), (eI b3), (.fn (.func cmp4_f) cmp4_a cmp4_c)] (.tup []) := by
  obtain ⟨k, hk⟩ := ND h0
  exact pT cmp4_f cmp4_a cmp4_c cmp4 cmp4_h k lo0p aB a1 m2 b3 r hk

theorem CV (lo0p : Nat) (aB : (List aA)) (n1 : Int) (cmp2_f : Nat) (cmp2_a cmp2_c : List V) (cmp2 : aA → aA → Option Int) (cmp2_h : ∀ a0 a1 r, cmp2 a0 a1 = some r → bY Tryz.prog cmp2_f (cmp2_a ++ [(aE a0), (aE a1)] ++ cmp2_c) (eI r)) (r : List aA) (h0 : fW aB n1 cmp2 = some r) : mB Tryz.prog 102 lo0p 2 (List.map aE aB) (List.map aE r) [(.msl 2 lo0p 0 (List.length aB)), (eI n1), (.fn (.func cmp2_f) cmp2_a cmp2_c)] (.tup []) := by
  intro H0 hl0
  refine cF Tryz.func102 ?_
  have hO := aN.rO hl0
  clear hl0
  obtain ⟨N0, hN0⟩ : ∃ n, n = List.length aB := ⟨_, rfl⟩
  have hN : List.length aB = N0 := hN0.symm
  unfold fW at h0
  refine aY aF 1 [] [(6, (eI (20 : Int)))] ?_
  refine aY aF 3 [] [(7, (eI (0 : Int))), (8, (eI (20 : Int)))] ?_
  refine cH (fun T H => ∃ aB : List aA, ∃ aR : Int, ∃ a7 : Int, Has T [(0, (.msl 2 lo0p 0 (List.length aB))), (1, (eI n1)), (2, (.fn (.func cmp2_f) cmp2_a cmp2_c)), (6, (eI aR)), (7, (eI a7))] ∧ aN ⟨H0, [lo0p], []⟩ H [(lo0p, 2, List.map aE aB)] ∧ List.length aB = N0 ∧ fJ cmp2 aB n1 aR a7 = some r) ?_ ?_
  · clear hO hN h0
    rintro T H ⟨aB, aR, a7, hT, hO, hN, h0⟩
    refine bA hT ?_
    clear hT
    unfold fJ at h0
    refine aO ?_
    refine aU aF 5 ?_
    refine bR 4 ?_
    obtain ⟨x1, hx2, h0⟩ := aW h0
    refine qL [(lo0p, 2, List.map aE x1)] 0 (oQ lo0p aB a7 n1 cmp2_f cmp2_a cmp2_c cmp2 cmp2_h _ hx2) hO ?_
    intro H hO hl3
    simp only [List.length_map] at hl3
    replace hN := hl3.trans hN
    refine cW ?_
    refine cJ (l := [(0, (.msl 2 lo0p 0 (List.length x1))), (1, (eI n1)), (2, (.fn (.func cmp2_f) cmp2_a cmp2_c)), (6, (eI aR))]) ⟨[(0, (.msl 2 lo0p 0 (List.length aB))), (1, (eI n1)), (2, (.fn (.func cmp2_f) cmp2_a cmp2_c)), (6, (eI aR))], by kernel_rfl, rfl, ⟨aZ.eq (by simp [hl3]), aZ.refl _, aZ.refl _, aZ.refl _, trivial⟩⟩ ?_
    refine aJ (aH (?_))
    refine bO 2 ?_
    refine cL [(0, (.msl 2 lo0p 0 (List.length x1))), (1, (eI n1)), (2, (.fn (.func cmp2_f) cmp2_a cmp2_c)), (6, (eI aR))] ?_
    refine cC (fun T H => ∃ aB : List aA, ∃ aR : Int, Has T [(0, (.msl 2 lo0p 0 (List.length aB))), (1, (eI n1)), (2, (.fn (.func cmp2_f) cmp2_a cmp2_c)), (6, (eI aR))] ∧ aN ⟨H0, [lo0p], []⟩ H [(lo0p, 2, List.map aE aB)] ∧ List.length aB = N0 ∧ jA cmp2 aB n1 aR = some r) ?_ ⟨x1, aR, .eq (by kernel_rfl), hO, hN, h0⟩
    clear hO hN h0
    rintro T H ⟨aB, aR, hT, hO, hN, h0⟩
    refine bA hT ?_
    clear hT
    unfold jA at h0
    obtain ⟨rr0, hl0, h0⟩ := aW h0
    refine bX (by kernel_rfl) (fun (s : List aA × Int) T H => Has T [(0, (.msl 2 lo0p 0 (List.length s.1))), (1, (eI n1)), (2, (.fn (.func cmp2_f) cmp2_a cmp2_c)), (6, (eI s.2))] ∧ aN ⟨H0, [lo0p], []⟩ H [(lo0p, 2, List.map aE s.1)] ∧ List.length s.1 = N0) hl0 ⟨.eq (by kernel_rfl), hO, hN⟩ ?_
    clear hO hN
    rintro k0 s out1 T H ⟨hT, hO, hN⟩ h1 ho0
    obtain ⟨aB, aR⟩ := s
    replace h1 : iP cmp2 n1 aB aR = some out1 := h1
    try dsimp only at hT
    refine bA hT ?_
    clear hT
    unfold iP at h1
    refine aO ?_
    refine aY aF 3 [] [(30, (aK (decide (aR < n1))))] ?_
    refine bJ h1 (fun h1 => ?_) (fun h1 => ?_)
    · refine bL ?_
      refine bH [(0, (.msl 2 lo0p 0 (List.length aB))), (1, (eI n1)), (2, (.fn (.func cmp2_f) cmp2_a cmp2_c)), (6, (eI aR))] ?_
      refine bO 3 ?_
      refine aY aF 4 [] [(7, (eI (0 : Int))), (8, (eI (wR ((2 : Int) * aR))))] ?_
      refine cH (fun T H => ∃ aB : List aA, ∃ a7 : Int, Has T [(0, (.msl 2 lo0p 0 (List.length aB))), (1, (eI n1)), (2, (.fn (.func cmp2_f) cmp2_a cmp2_c)), (6, (eI aR)), (7, (eI a7))] ∧ aN ⟨H0, [lo0p], []⟩ H [(lo0p, 2, List.map aE aB)] ∧ List.length aB = N0 ∧ fM cmp2 aB n1 aR a7 = some out1) ?_ ?_
      · clear hO hN h1
        rintro T H ⟨aB, a7, hT, hO, hN, h1⟩
        refine bA hT ?_
        clear hT
        unfold fM at h1
        refine cH (fun T H => ∃ aB : List aA, Has T [(0, (.msl 2 lo0p 0 (List.length aB))), (1, (eI n1)), (2, (.fn (.func cmp2_f) cmp2_a cmp2_c)), (6, (eI aR))] ∧ aN ⟨H0, [lo0p], []⟩ H [(lo0p, 2, List.map aE aB)] ∧ List.length aB = N0 ∧ iU cmp2 aB n1 aR = some out1) ?_ ?_
        · clear hO hN h1
          rintro T H ⟨aB, hT, hO, hN, h1⟩
          refine bA hT ?_
          clear hT
          unfold iU at h1
          refine aU aF 3 ?_
          refine bC ?_
          exact aJ (aV (aH (⟨rfl, _, (oI h1).symm, .eq (by kernel_rfl), hO, hN⟩)))
        refine aY aF 4 [] [(9, (eI (wR (a7 + aR))))] ?_
        refine aY aF 3 [] [(54, (aK (decide ((wR (a7 + aR)) < n1))))] ?_
        refine bJ h1 (fun h1 => ?_) (fun h1 => ?_)
        · refine aU aF 6 ?_
          refine bR 5 ?_
          obtain ⟨x6, hx7, h1⟩ := aW h1
          refine qL [(lo0p, 2, List.map aE x6)] 0 (qQ lo0p aB a7 (wR (a7 + aR)) n1 cmp2_f cmp2_a cmp2_c cmp2 cmp2_h _ hx7) hO ?_
          intro H hO hl8
          simp only [List.length_map] at hl8
          replace hN := hl8.trans hN
          refine cW ?_
          refine cJ (l := [(0, (.msl 2 lo0p 0 (List.length x6))), (1, (eI n1)), (2, (.fn (.func cmp2_f) cmp2_a cmp2_c)), (6, (eI aR))]) ⟨[(0, (.msl 2 lo0p 0 (List.length aB))), (1, (eI n1)), (2, (.fn (.func cmp2_f) cmp2_a cmp2_c)), (6, (eI aR))], by kernel_rfl, rfl, ⟨aZ.eq (by simp [hl8]), aZ.refl _, aZ.refl _, aZ.refl _, trivial⟩⟩ ?_
          exact aJ (aH (⟨rfl, _, .eq (by kernel_rfl), hO, hN, h1⟩))
        refine bL ?_
        exact aJ (aH (⟨rfl, _, .eq (by kernel_rfl), hO, hN, h1⟩))
      refine bO 4 ?_
      refine cL [(0, (.msl 2 lo0p 0 (List.length aB))), (1, (eI n1)), (2, (.fn (.func cmp2_f) cmp2_a cmp2_c)), (6, (eI aR)), (7, (eI (0 : Int))), (8, (eI (wR ((2 : Int) * aR))))] ?_
      refine cC (fun T H => ∃ aB : List aA, ∃ a7 : Int, ∃ b8 : Int, Has T [(0, (.msl 2 lo0p 0 (List.length aB))), (1, (eI n1)), (2, (.fn (.func cmp2_f) cmp2_a cmp2_c)), (6, (eI aR)), (7, (eI a7)), (8, (eI b8))] ∧ aN ⟨H0, [lo0p], []⟩ H [(lo0p, 2, List.map aE aB)] ∧ List.length aB = N0 ∧ iR cmp2 aB n1 aR a7 b8 = some out1) ?_ ⟨aB, (0 : Int), wR ((2 : Int) * aR), .eq (by kernel_rfl), hO, hN, h1⟩
      clear hO hN h1
      rintro T H ⟨aB, a7, b8, hT, hO, hN, h1⟩
      refine bA hT ?_
      clear hT
      unfold iR at h1
      obtain ⟨rr1, hl1, h1⟩ := aW h1
      refine bX (by kernel_rfl) (fun (s : List aA × Int × Int) T H => Has T [(0, (.msl 2 lo0p 0 (List.length s.1))), (1, (eI n1)), (2, (.fn (.func cmp2_f) cmp2_a cmp2_c)), (6, (eI aR)), (7, (eI s.2.1)), (8, (eI s.2.2))] ∧ aN ⟨H0, [lo0p], []⟩ H [(lo0p, 2, List.map aE s.1)] ∧ List.length s.1 = N0) hl1 ⟨.eq (by kernel_rfl), hO, hN⟩ ?_
      clear hO hN
      rintro k1 s out2 T H ⟨hT, hO, hN⟩ h2 ho1
      obtain ⟨aB, a7, b8⟩ := s
      replace h2 : iQ cmp2 n1 aR aB a7 b8 = some out2 := h2
      try dsimp only at hT
      refine bA hT ?_
      clear hT
      unfold iQ at h2
      refine aO ?_
      refine aY aF 3 [] [(35, (aK (decide (b8 ≤ n1))))] ?_
      refine bJ h2 (fun h2 => ?_) (fun h2 => ?_)
      · refine bL ?_
        refine bH [(0, (.msl 2 lo0p 0 (List.length aB))), (1, (eI n1)), (2, (.fn (.func cmp2_f) cmp2_a cmp2_c)), (6, (eI aR)), (7, (eI a7)), (8, (eI b8))] ?_
        refine bO 5 ?_
        refine aO ?_
        refine aU aF 8 ?_
        refine bR 7 ?_
        obtain ⟨x10, hx11, h2⟩ := aW h2
        refine qL [(lo0p, 2, List.map aE x10)] 0 (qQ lo0p aB a7 (wR (a7 + aR)) b8 cmp2_f cmp2_a cmp2_c cmp2 cmp2_h _ hx11) hO ?_
        intro H hO hl12
        simp only [List.length_map] at hl12
        replace hN := hl12.trans hN
        refine cW ?_
        refine cJ (l := [(0, (.msl 2 lo0p 0 (List.length x10))), (1, (eI n1)), (2, (.fn (.func cmp2_f) cmp2_a cmp2_c)), (6, (eI aR)), (8, (eI b8))]) ⟨[(0, (.msl 2 lo0p 0 (List.length aB))), (1, (eI n1)), (2, (.fn (.func cmp2_f) cmp2_a cmp2_c)), (6, (eI aR)), (8, (eI b8))], by kernel_rfl, rfl, ⟨aZ.eq (by simp [hl12]), aZ.refl _, aZ.refl _, aZ.refl _, aZ.refl _, trivial⟩⟩ ?_
        refine aJ (aH (?_))
        refine aY aF 2 [] [(7, (eI b8))] ?_
        refine aU aF 5 ?_
        refine bC ?_
        exact aJ (aV (aH (⟨rfl, _, (oI h2).symm, .eq (by kernel_rfl), hO, hN⟩)))
      refine cV 4 ?_
      obtain rfl := oI h2
      obtain rfl : _ = rr1 := ho1
      replace h1 : fM cmp2 aB n1 aR a7 = some out1 := h1
      exact aJ (aS (aS (bM (aH (⟨rfl, _, _, .eq (by kernel_rfl), hO, hN, h1⟩)))))
    refine cV 2 ?_
    obtain rfl := oI h1
    obtain rfl : _ = rr0 := ho0
    replace h0 : some aB = some r := h0
    obtain rfl := oI h0
    exact aJ (aS (aS (bM (tQ (x := (.tup [])) (by kernel_rfl) (aZ.refl _) ⟨rfl, hO.ext, hO.at 0 (by kernel_rfl), by simp only [List.length_map]; exact hN.trans hN0⟩))))
  refine bO 0 ?_
  refine cL [(0, (.msl 2 lo0p 0 (List.length aB))), (1, (eI n1)), (2, (.fn (.func cmp2_f) cmp2_a cmp2_c)), (6, (eI (20 : Int))), (7, (eI (0 : Int))), (8, (eI (20 : Int)))] ?_
  refine cC (fun T H => ∃ aB : List aA, ∃ aR : Int, ∃ a7 : Int, ∃ b8 : Int, Has T [(0, (.msl 2 lo0p 0 (List.length aB))), (1, (eI n1)), (2, (.fn (.func cmp2_f) cmp2_a cmp2_c)), (6, (eI aR)), (7, (eI a7)), (8, (eI b8))] ∧ aN ⟨H0, [lo0p], []⟩ H [(lo0p, 2, List.map aE aB)] ∧ List.length aB = N0 ∧ iZ cmp2 aB n1 aR a7 b8 = some r) ?_ ⟨aB, (20 : Int), (0 : Int), (20 : Int), .eq (by kernel_rfl), hO, hN, h0⟩
  clear hO hN h0
  rintro T H ⟨aB, aR, a7, b8, hT, hO, hN, h0⟩
  refine bA hT ?_
  clear hT
  unfold iZ at h0
  obtain ⟨rr0, hl0, h0⟩ := aW h0
  refine bX (by kernel_rfl) (fun (s : List aA × Int × Int) T H => Has T [(0, (.msl 2 lo0p 0 (List.length s.1))), (1, (eI n1)), (2, (.fn (.func cmp2_f) cmp2_a cmp2_c)), (6, (eI aR)), (7, (eI s.2.1)), (8, (eI s.2.2))] ∧ aN ⟨H0, [lo0p], []⟩ H [(lo0p, 2, List.map aE s.1)] ∧ List.length s.1 = N0) hl0 ⟨.eq (by kernel_rfl), hO, hN⟩ ?_
  clear hO hN
  rintro k0 s out1 T H ⟨hT, hO, hN⟩ h1 ho0
  obtain ⟨aB, a7, b8⟩ := s
  replace h1 : iS cmp2 n1 aR aB a7 b8 = some out1 := h1
  try dsimp only at hT
  refine bA hT ?_
  clear hT
  unfold iS at h1
  refine aO ?_
  refine aY aF 3 [] [(13, (aK (decide (b8 ≤ n1))))] ?_
  refine bJ h1 (fun h1 => ?_) (fun h1 => ?_)
  · refine bL ?_
    refine bH [(0, (.msl 2 lo0p 0 (List.length aB))), (1, (eI n1)), (2, (.fn (.func cmp2_f) cmp2_a cmp2_c)), (6, (eI aR)), (7, (eI a7)), (8, (eI b8))] ?_
    refine bO 1 ?_
    refine aO ?_
    refine aU aF 5 ?_
    refine bR 4 ?_
    obtain ⟨x14, hx15, h1⟩ := aW h1
    refine qL [(lo0p, 2, List.map aE x14)] 0 (oQ lo0p aB a7 b8 cmp2_f cmp2_a cmp2_c cmp2 cmp2_h _ hx15) hO ?_
    intro H hO hl16
    simp only [List.length_map] at hl16
    replace hN := hl16.trans hN
    refine cW ?_
    refine cJ (l := [(0, (.msl 2 lo0p 0 (List.length x14))), (1, (eI n1)), (2, (.fn (.func cmp2_f) cmp2_a cmp2_c)), (6, (eI aR)), (8, (eI b8))]) ⟨[(0, (.msl 2 lo0p 0 (List.length aB))), (1, (eI n1)), (2, (.fn (.func cmp2_f) cmp2_a cmp2_c)), (6, (eI aR)), (8, (eI b8))], by kernel_rfl, rfl, ⟨aZ.eq (by simp [hl16]), aZ.refl _, aZ.refl _, aZ.refl _, aZ.refl _, trivial⟩⟩ ?_
    refine aJ (aH (?_))
    refine aY aF 2 [] [(7, (eI b8))] ?_
    refine aU aF 4 ?_
    refine bC ?_
    exact aJ (aV (aH (⟨rfl, _, (oI h1).symm, .eq (by kernel_rfl), hO, hN⟩)))
  refine cV 0 ?_
  obtain rfl := oI h1
  obtain rfl : _ = rr0 := ho0
  replace h0 : fJ cmp2 aB n1 aR a7 = some r := h0
  exact aJ (aS (aS (bM (aH (⟨rfl, _, _, _, .eq (by kernel_rfl), hO, hN, h0⟩)))))

theorem uY (lo0p : Nat) (x0 : (List aA)) (cmp1_f : Nat) (cmp1_a cmp1_c : List V) (cmp1 : aA → aA → Option Int) (cmp1_h : ∀ a0 a1 r, cmp1 a0 a1 = some r → bY Tryz.prog cmp1_f (cmp1_a ++ [(aE a0), (aE a1)] ++ cmp1_c) (eI r)) (r : List aA) (h0 : dP x0 cmp1 = some r) : mB Tryz.prog 90 lo0p 2 (List.map aE x0) (List.map aE r) [(.msl 2 lo0p 0 (List.length x0)), (.fn (.func cmp1_f) cmp1_a cmp1_c)] (.tup []) := by
  intro H0 hl0
  refine cF Tryz.func90 ?_
  have hO := aN.rO hl0
  clear hl0
  obtain ⟨N0, hN0⟩ : ∃ n, n = List.length x0 := ⟨_, rfl⟩
  have hN : List.length x0 = N0 := hN0.symm
  unfold dP at h0
  refine aU aF 5 ?_
  refine bR 4 ?_
  obtain ⟨x1, hx2, h0⟩ := aW h0
  refine qL [(lo0p, 2, List.map aE x1)] 0 (CV lo0p x0 (lN x0) cmp1_f cmp1_a cmp1_c cmp1 cmp1_h _ hx2) hO ?_
  intro H hO hl3
  simp only [List.length_map] at hl3
  replace hN := hl3.trans hN
  refine cW ?_
  refine cJ (l := [(0, (.msl 2 lo0p 0 (List.length x1)))]) ⟨[(0, (.msl 2 lo0p 0 (List.length x0)))], by kernel_rfl, rfl, ⟨aZ.eq (by simp [hl3]), trivial⟩⟩ ?_
  obtain rfl := oI h0
  exact aJ (tQ (x := (.tup [])) (by kernel_rfl) (aZ.refl _) ⟨rfl, hO.ext, hO.at 0 (by kernel_rfl), by simp only [List.length_map]; exact hN.trans hN0⟩)

theorem WG (a0 : aA) (b1 : aA) (r : Int) (h0 : oD a0 b1 = some r) : bY Tryz.prog 91 [(aE a0), (aE b1)] (eI r) := by
  intro H0
  refine cF Tryz.func91 ?_
  have hO := aN.start H0
  unfold oD at h0
  refine aO ?_
  refine aU aF 3 ?_
  refine fQ 2 (aE a0) (by kernel_rfl) (by kernel_rfl) ?_
  refine fQ 2 (aE b1) (by kernel_rfl) (by kernel_rfl) ?_
  refine bC ?_
  refine bH [(2, (.rp (aE a0))), (3, (.rp (aE b1)))] ?_
  refine aO ?_
  refine aU aF 6 ?_
  refine bR 4 ?_
  obtain ⟨x1, hx2, h0⟩ := aW h0
  refine cA (zU a0.At b1.At _ hx2) hO ?_
  intro H hO
  refine bC ?_
  refine bH [(4, (eI x1))] ?_
  refine bK ?_
  obtain rfl := oI h0
  exact aJ (Q_r hO)

theorem GW (f0 : (List aA)) (r : Bool) (h0 : qN f0 = some r) : bY Tryz.prog 44 [(eL aE f0)] (aK r) := by
  intro H0
  refine cF Tryz.func44 ?_
  have hO := aN.start H0
  unfold qN at h0
  refine aY aF 1 [] [] ?_
  refine aO ?_
  refine aY aF 3 [] [(8, (aK (decide ((1024 : Int) < (lN f0)))))] ?_
  refine bJ h0 (fun h0 => ?_) (fun h0 => ?_)
  · refine bV aF 1 [(2, (aK false))] ?_
    refine bK ?_
    obtain rfl := oI h0
    exact aJ (aQ (Q_r hO))
  refine bL ?_
  refine bH [(0, (eL aE f0))] ?_
  refine aY aF 1 [] [(3, (eI (-2 : Int)))] ?_
  refine cH (fun T H => Has T [] ∧ aN ⟨H0, [], []⟩ H [] ∧ AI  = some r) ?_ ?_
  · clear hO h0
    rintro T H ⟨hT, hO, h0⟩
    refine bA hT ?_
    clear hT
    unfold AI at h0
    refine bV aF 1 [(2, (aK true))] ?_
    refine bK ?_
    obtain rfl := oI h0
    exact aJ (Q_r hO)
  refine aY aF 3 [0] [(9, (eL aE f0)), (10, (eI (lN f0))), (11, (eI (0 : Int)))] ?_
  refine bO 0 ?_
  refine cL [(3, (eI (-2 : Int))), (9, (eL aE f0)), (10, (eI (lN f0))), (11, (eI (0 : Int)))] ?_
  refine cC (fun T H => ∃ tR : Int, ∃ t9 : (List aA), ∃ t10 : Int, ∃ t11 : Int, Has T [(3, (eI tR)), (9, (eL aE t9)), (10, (eI t10)), (11, (eI t11))] ∧ aN ⟨H0, [], []⟩ H [] ∧ EV tR t9 t10 t11 = some r) ?_ ⟨(-2 : Int), f0, (lN f0), (0 : Int), .eq (by kernel_rfl), hO, h0⟩
  clear hO h0
  rintro T H ⟨tR, t9, t10, t11, hT, hO, h0⟩
  refine bA hT ?_
  clear hT
  unfold EV at h0
  obtain ⟨rr0, hl0, h0⟩ := aW h0
  refine bX (by kernel_rfl) (fun (s : Int × Int) T H => Has T [(3, (eI s.1)), (9, (eL aE t9)), (10, (eI t10)), (11, (eI s.2))] ∧ aN ⟨H0, [], []⟩ H []) hl0 ⟨.eq (by kernel_rfl), hO⟩ ?_
  clear hO
  rintro k0 s out1 T H ⟨hT, hO⟩ h1 ho0
  obtain ⟨tR, t11⟩ := s
  replace h1 : nH t9 t10 tR t11 = some out1 := h1
  try dsimp only at hT
  refine bA hT ?_
  clear hT
  unfold nH at h1
  refine aY aF 1 [] [(12, (aK (decide (t11 < t10))))] ?_
  refine aO ?_
  refine bJ h1 (fun h1 => ?_) (fun h1 => ?_)
  · refine bL ?_
    refine bH [(3, (eI tR)), (9, (eL aE t9)), (10, (eI t10)), (11, (eI t11))] ?_
    refine aO ?_
    refine bO 1 ?_
    refine aO ?_
    refine aU aF 4 ?_
    obtain ⟨c3, h1⟩ := bE h1
    refine jT 2 [0 ≤ t11 ∧ t11 < (lN t9)] ⟨c3, trivial⟩ ?_
    refine nL 2 (aE (aA.mk 0 0)) (by kernel_rfl) (by kernel_rfl) hO ?_
    intro lo4 H hO
    refine kB 0 lo4 2 0 (aE (aA.mk 0 0)) (aE (gD t9 t11)) [(aE (aA.mk 0 0))] [(lo4, 2, [(aE (gD t9 t11))])] hO rfl (by kernel_rfl) ?_
    intro H hO
    refine cW ?_
    refine bT [] [(5, (.lp lo4 0 0))] ?_
    refine aO ?_
    refine aO ?_
    refine aU aF 20 ?_
    refine bR 1 ?_
    refine kQ 0 lo4 2 0 (aE (gD t9 t11)) (eI ((gD t9 t11).At)) [(aE (gD t9 t11))] hO rfl ?_
    refine bR 6 ?_
    refine EP [(19, false)] 0 lo4 2 0 (aE (gD t9 t11)) (eI ((gD t9 t11).At)) [(aE (gD t9 t11))] (by kernel_rfl) (by kernel_rfl) hO (by kernel_rfl) (!(decide (((gD t9 t11).At) ≤ tR))) (by kernel_rfl) (fun hb5 => rfl) ?_
    refine bR 11 ?_
    refine EP [(24, false)] 0 lo4 2 0 (aE (gD t9 t11)) (eI ((gD t9 t11).Net)) [(aE (gD t9 t11))] (by kernel_rfl) (by kernel_rfl) hO (by kernel_rfl) (!((decide (((gD t9 t11).At) ≤ tR)) || (decide ((1125899906842624 : Int) ≤ ((gD t9 t11).At))))) (by kernel_rfl) (fun hb6 => rfl) ?_
    refine bR 16 ?_
    refine EP [(29, false)] 0 lo4 2 0 (aE (gD t9 t11)) (eI ((gD t9 t11).Net)) [(aE (gD t9 t11))] (by kernel_rfl) (by kernel_rfl) hO (by kernel_rfl) (!(((decide (((gD t9 t11).At) ≤ tR)) || (decide ((1125899906842624 : Int) ≤ ((gD t9 t11).At)))) || (decide (((gD t9 t11).Net) = (0 : Int))))) (by kernel_rfl) (fun hb7 => rfl) ?_
    obtain ⟨x8, hx9, h1⟩ := aW h1
    refine fU [(29, false)] 74 [(eI ((gD t9 t11).Net))] (aK x8) (!(((decide (((gD t9 t11).At) ≤ tR)) || (decide ((1125899906842624 : Int) ≤ ((gD t9 t11).At)))) || (decide (((gD t9 t11).Net) = (0 : Int))))) (by kernel_rfl) (by kernel_rfl) (by kernel_rfl) (fun hb10 => (OR ((gD t9 t11).Net) _ (fP hx9 hb10))) hO ?_
    intro H hO
    refine bC ?_
    refine bT [3] [(34, (aK ((((decide (((gD t9 t11).At) ≤ tR)) || (decide ((1125899906842624 : Int) ≤ ((gD t9 t11).At)))) || (decide (((gD t9 t11).Net) = (0 : Int)))) || (!x8))))] ?_
    refine bJ h1 (fun h1 => ?_) (fun h1 => ?_)
    · refine aO ?_
      refine aU aF 1 ?_
      refine bC ?_
      refine cN [(2, (aK false))] ?_
      replace hO := hO.pick (L' := []) [] (by decide) (by kernel_rfl)
      refine aJ (aH (?_))
      refine bK ?_
      obtain rfl := oI h1
      obtain rfl : _ = rr0 := ho0
      replace h0 : some false = some r := h0
      obtain rfl := oI h0
      exact aJ (aQ (bN (aQ (aQ (bN (aQ (Q_r hO)))))))
    refine bL ?_
    refine bH [(5, (.lp lo4 0 0)), (9, (eL aE t9)), (10, (eI t10)), (11, (eI t11))] ?_
    refine aU aF 3 ?_
    refine bR 1 ?_
    refine kQ 0 lo4 2 0 (aE (gD t9 t11)) (eI ((gD t9 t11).At)) [(aE (gD t9 t11))] hO rfl ?_
    refine bC ?_
    refine cN [(3, (eI ((gD t9 t11).At))), (9, (eL aE t9)), (10, (eI t10)), (11, (eI t11))] ?_
    replace hO := hO.pick (L' := []) [] (by decide) (by kernel_rfl)
    refine aJ (aV (aH (?_)))
    refine aU aF 2 ?_
    refine bC ?_
    exact aJ (aH (⟨rfl, _, (oI h1).symm, .eq (by kernel_rfl), hO⟩))
  refine cV 0 ?_
  obtain rfl := oI h1
  obtain rfl : _ = rr0 := ho0
  replace h0 : AI  = some r := h0
  exact aJ (aS (aS (bM (aH (⟨rfl, .eq (by kernel_rfl), hO, h0⟩)))))

theorem aAp (f0 : (List aA)) (r : ((List aA) × Int)) (h0 : xA f0 = some r) : bY Tryz.prog 92 [(eL aE f0)] (.tup [(eL aE r.1), (eI r.2)]) := by
  intro H0
  refine cF Tryz.func92 ?_
  have hO := aN.start H0
  unfold xA at h0
  refine aY aF 2 [] [] ?_
  refine aO ?_
  refine aO ?_
  refine aU aF 3 ?_
  refine bR 1 ?_
  obtain ⟨x1, hx2, h0⟩ := aW h0
  refine cA (GW f0 _ hx2) hO ?_
  intro H hO
  refine bC ?_
  refine bT [] [(6, (aK (!x1)))] ?_
  refine bJ h0 (fun h0 => ?_) (fun h0 => ?_)
  · refine bV aF 2 [(2, (.sl true 0 (fun _ => .bad))), (3, (eI (7 : Int)))] ?_
    refine bK ?_
    refine cJ (l := [(2, (eL aE ([]))), (3, (eI (7 : Int)))]) ⟨[(2, (.sl true 0 (fun _ => .bad))), (3, (eI (7 : Int)))], by kernel_rfl, rfl, ⟨dG, aZ.refl _, trivial⟩⟩ ?_
    obtain rfl := oI h0
    exact aJ (aQ (Q_r hO))
  refine bL ?_
  refine bH [(0, (eL aE f0))] ?_
  refine bV aF 3 [(2, (eL aE f0)), (3, (eI (0 : Int)))] ?_
  refine bK ?_
  obtain rfl := oI h0
  exact aJ (Q_r hO)

theorem aAm (l0 : (List aA)) (r : ((List aA) × Int)) (h0 : AF l0 = some r) : bY Tryz.prog 65 [(eL aE l0)] (.tup [(eL aE r.1), (eI r.2)]) := by
  intro H0
  refine cF Tryz.func65 ?_
  have hO := aN.start H0
  unfold AF at h0
  refine aY aF 2 [] [] ?_
  refine aO ?_
  refine aO ?_
  refine aU aF 2 ?_
  refine bR 1 ?_
  obtain ⟨x1, hx2, h0⟩ := aW h0
  refine cA (nZ l0 87 [] [] (fun y0 => wB y0) (fun y0 r h => WK y0 r h) _ hx2) hO ?_
  intro H hO
  refine cW ?_
  refine bT [] [(9, (aK x1))] ?_
  refine bJ h0 (fun h0 => ?_) (fun h0 => ?_)
  · refine bV aF 2 [(2, (.sl true 0 (fun _ => .bad))), (3, (eI (2 : Int)))] ?_
    refine bK ?_
    refine cJ (l := [(2, (eL aE ([]))), (3, (eI (2 : Int)))]) ⟨[(2, (.sl true 0 (fun _ => .bad))), (3, (eI (2 : Int)))], by kernel_rfl, rfl, ⟨dG, aZ.refl _, trivial⟩⟩ ?_
    obtain rfl := oI h0
    exact aJ (aQ (Q_r hO))
  refine bL ?_
  refine bH [(0, (eL aE l0))] ?_
  refine aO ?_
  refine aO ?_
  refine aU aF 2 ?_
  refine bR 1 ?_
  obtain ⟨x5, hx6, h0⟩ := aW h0
  refine cA (nZ l0 88 [] [] (fun y0 => wK y0) (fun y0 r h => VZ y0 r h) _ hx6) hO ?_
  intro H hO
  refine cW ?_
  refine bT [] [(11, (aK x5))] ?_
  refine bJ h0 (fun h0 => ?_) (fun h0 => ?_)
  · refine bV aF 2 [(2, (.sl true 0 (fun _ => .bad))), (3, (eI (13 : Int)))] ?_
    refine bK ?_
    refine cJ (l := [(2, (eL aE ([]))), (3, (eI (13 : Int)))]) ⟨[(2, (.sl true 0 (fun _ => .bad))), (3, (eI (13 : Int)))], by kernel_rfl, rfl, ⟨dG, aZ.refl _, trivial⟩⟩ ?_
    obtain rfl := oI h0
    exact aJ (aQ (Q_r hO))
  refine bL ?_
  refine bH [(0, (eL aE l0))] ?_
  refine aO ?_
  refine aU aF 3 ?_
  refine bR 1 ?_
  obtain ⟨x9, hx10, h0⟩ := aW h0
  refine aA3 (L' := fun lo11 => [(lo11, 2, List.map aE x9)]) 2 (List.map aE x9) 89 [(eL aE l0)] (fun lo11 => (.msl 2 lo11 0 (List.length x9))) (by kernel_rfl) (by kernel_rfl) (CH l0 _ hx10) hO (fun _ => by kernel_rfl) ?_
  intro lo11 H hO
  refine bC ?_
  refine bH [(4, (.msl 2 lo11 0 (List.length x9)))] ?_
  refine aO ?_
  refine aU aF 2 ?_
  refine bR 1 ?_
  obtain ⟨x12, hx13, h0⟩ := aW h0
  refine qL [(lo11, 2, List.map aE x12)] 0 (uY lo11 x9 91 [] [] (fun y0 y1 => oD y0 y1) (fun y0 y1 r h => WG y0 y1 r h) _ hx13) hO ?_
  intro H hO hl14
  simp only [List.length_map] at hl14
  refine cW ?_
  refine cJ (l := [(4, (.msl 2 lo11 0 (List.length x12)))]) ⟨[(4, (.msl 2 lo11 0 (List.length x9)))], by kernel_rfl, rfl, ⟨aZ.eq (by simp [hl14]), trivial⟩⟩ ?_
  refine aJ (aH (?_))
  refine aO ?_
  refine aU aF 2 ?_
  refine iM (xs := []) (k := 2) (by kernel_rfl) (by kernel_rfl) ?_
  refine bC ?_
  refine bT [] [(5, (.sl true 0 (fun _ => .bad)))] ?_
  refine cH (fun T H => ∃ out5 : List aA, ∃ lo15 : Nat, Has T [(5, (.msl 2 lo15 0 (List.length out5)))] ∧ aN ⟨H0, [], []⟩ H [(lo15, 2, List.map aE out5)] ∧ yN out5 = some r) ?_ ?_
  · clear hO h0
    rintro T H ⟨out5, lo15, hT, hO, h0⟩
    refine bA hT ?_
    clear hT
    unfold yN at h0
    refine aO ?_
    refine aU aF 6 ?_
    refine xZ (e := aE) out5 0 5 2 lo15 (List.length out5) [] (by kernel_rfl) hO (by kernel_rfl) (by kernel_rfl) (by kernel_rfl) (by kernel_rfl) ?_
    intro H hO
    refine bR 1 ?_
    obtain ⟨x16, hx17, h0⟩ := aW h0
    refine cA (aAp out5 _ hx17) hO ?_
    intro H hO
    refine bC ?_
    refine bH [(2, (eL aE x16.1)), (3, (eI x16.2))] ?_
    refine bK ?_
    obtain rfl := oI h0
    exact aJ (Q_r hO)
  refine aY aF 1 [] [(6, (eI (0 : Int)))] ?_
  refine bO 0 ?_
  refine cL [(4, (.msl 2 lo11 0 (List.length x12))), (5, (.sl true 0 (fun _ => .bad))), (6, (eI (0 : Int)))] ?_
  refine uM (el := (fun _ => .bad)) 1 5 2 hO (by kernel_rfl) ?_
  intro lo40 H41 hO
  refine cC (fun T H => ∃ all4 : List aA, ∃ out5 : List aA, ∃ i6 : Int, ∃ lo21 : Nat, ∃ lo22 : Nat, Has T [(4, (.msl 2 lo21 0 (List.length all4))), (5, (.msl 2 lo22 0 (List.length out5))), (6, (eI i6))] ∧ aN ⟨H0, [], []⟩ H [(lo21, 2, List.map aE all4), (lo22, 2, List.map aE out5)] ∧ DG all4 out5 i6 = some r) ?_ ⟨x12, ([] : List aA), (0 : Int), lo11, lo40, .eq (by kernel_rfl), hO, h0⟩
  clear hO h0
  rintro T H ⟨all4, out5, i6, lo21, lo22, hT, hO, h0⟩
  refine bA hT ?_
  clear hT
  unfold DG at h0
  obtain ⟨rr0, hl0, h0⟩ := aW h0
  refine bX (by kernel_rfl) (fun (s : List aA × List aA × Int) T H => ∃ lo21 : Nat, ∃ lo22 : Nat, Has T [(4, (.msl 2 lo21 0 (List.length s.1))), (5, (.msl 2 lo22 0 (List.length s.2.1))), (6, (eI s.2.2))] ∧ aN ⟨H0, [], []⟩ H [(lo21, 2, List.map aE s.1), (lo22, 2, List.map aE s.2.1)]) hl0 ⟨lo21, lo22, .eq (by kernel_rfl), hO⟩ ?_
  clear hO
  rintro k0 s out1 T H ⟨lo21, lo22, hT, hO⟩ h1 ho0
  obtain ⟨all4, out5, i6⟩ := s
  replace h1 : mE all4 out5 i6 = some out1 := h1
  try dsimp only at hT
  refine bA hT ?_
  clear hT
  unfold mE at h1
  refine aO ?_
  refine aY aF 4 [] [(20, (aK (decide (i6 < (lN all4)))))] ?_
  refine bJ h1 (fun h1 => ?_) (fun h1 => ?_)
  · refine bL ?_
    refine bH [(4, (.msl 2 lo21 0 (List.length all4))), (5, (.msl 2 lo22 0 (List.length out5))), (6, (eI i6))] ?_
    refine bO 1 ?_
    refine aO ?_
    refine aU aF 8 ?_
    obtain ⟨c24, h1⟩ := bE h1
    refine jT 4 [0 ≤ i6 ∧ i6 < (lN all4)] ⟨c24, trivial⟩ ?_
    refine kQ 0 lo21 2 (0 + Int.toNat i6) (aE (gD all4 i6)) (eI ((gD all4 i6).At)) (List.map aE all4) hO (dB c24) ?_
    refine bR 6 ?_
    refine nL 2 (aE (aA.mk 0 0)) (by kernel_rfl) (by kernel_rfl) hO ?_
    intro lo25 H hO
    refine kB 2 lo25 2 0 (aE (aA.mk 0 0)) (aE (aA.mk ((gD all4 i6).At) 0)) [(aE (aA.mk 0 0))] [(lo21, 2, List.map aE all4), (lo22, 2, List.map aE out5), (lo25, 2, [(aE (aA.mk ((gD all4 i6).At) 0))])] hO rfl (by kernel_rfl) ?_
    intro H hO
    refine cW ?_
    refine bT [] [(7, (.lp lo25 0 0))] ?_
    refine cH (fun T H => ∃ all4 : List aA, ∃ out5 : List aA, ∃ i6 : Int, ∃ j7 : aA, ∃ lo26 : Nat, ∃ lo27 : Nat, Has T [(4, (.msl 2 lo26 0 (List.length all4))), (5, (.msl 2 lo27 0 (List.length out5))), (6, (eI i6)), (7, (.lp lo25 0 0))] ∧ aN ⟨H0, [], []⟩ H [(lo26, 2, List.map aE all4), (lo27, 2, List.map aE out5), (lo25, 2, [(aE j7)])] ∧ xS all4 out5 i6 j7 = some out1) ?_ ?_
    · clear hO h1
      rintro T H ⟨all4, out5, i6, j7, lo26, lo27, hT, hO, h1⟩
      refine bA hT ?_
      clear hT
      unfold xS at h1
      refine aO ?_
      refine aU aF 8 ?_
      refine bR 1 ?_
      refine kQ 2 lo25 2 0 (aE j7) (eI j7.Net) [(aE j7)] hO rfl ?_
      refine bR 5 ?_
      refine EP [(55, true)] 2 lo25 2 0 (aE j7) (eI j7.At) [(aE j7)] (by kernel_rfl) (by kernel_rfl) hO (by kernel_rfl) (!decide (j7.Net = (0 : Int))) (by kernel_rfl) (fun hb28 => rfl) ?_
      refine bC ?_
      refine bT [] [(59, (aK ((!decide (j7.Net = (0 : Int))) && (decide (j7.At < (1125899906842624 : Int))))))] ?_
      refine bJ h1 (fun h1 => ?_) (fun h1 => ?_)
      · refine aU aF 5 ?_
        refine bR 1 ?_
        refine kQ 2 lo25 2 0 (aE j7) (aE j7) [(aE j7)] hO rfl ?_
        refine iM (xs := [(aE j7)]) (k := 2) (by kernel_rfl) (by kernel_rfl) ?_
        obtain ⟨c31, h1⟩ := bE h1
        refine rD (e := aE) out5 ([j7]) 1 lo27 2 16 (cZ [(aE j7)]) (fun lo30 => [(lo26, 2, List.map aE all4), (lo30, 2, List.map aE (out5 ++ ([j7]))), (lo25, 2, [(aE j7)])]) (by kernel_rfl) (by kernel_rfl) hO (by kernel_rfl) (by kernel_rfl) c31 (fun _ => by kernel_rfl) ?_
        intro lo30 H hO
        refine bC ?_
        replace hO := hO.pick (L' := [(lo26, 2, List.map aE all4), (lo30, 2, List.map aE (out5 ++ ([j7])))]) [0, 1] (by decide) (by kernel_rfl)
        exact aJ (aV (aH (⟨rfl, _, (oI h1).symm, _, _, .eq (by kernel_rfl), hO⟩)))
      refine bL ?_
      replace hO := hO.pick (L' := [(lo26, 2, List.map aE all4), (lo27, 2, List.map aE out5)]) [0, 1] (by decide) (by kernel_rfl)
      exact aJ (aV (aH (⟨rfl, _, (oI h1).symm, _, _, .eq (by kernel_rfl), hO⟩)))
    refine bO 2 ?_
    refine cL [(4, (.msl 2 lo21 0 (List.length all4))), (5, (.msl 2 lo22 0 (List.length out5))), (6, (eI i6)), (7, (.lp lo25 0 0))] ?_
    refine cC (fun T H => ∃ all4 : List aA, ∃ out5 : List aA, ∃ i6 : Int, ∃ j7 : aA, ∃ lo34 : Nat, ∃ lo35 : Nat, Has T [(4, (.msl 2 lo34 0 (List.length all4))), (5, (.msl 2 lo35 0 (List.length out5))), (6, (eI i6)), (7, (.lp lo25 0 0))] ∧ aN ⟨H0, [], []⟩ H [(lo34, 2, List.map aE all4), (lo35, 2, List.map aE out5), (lo25, 2, [(aE j7)])] ∧ DQ all4 out5 i6 j7 = some out1) ?_ ⟨all4, out5, i6, aA.mk ((gD all4 i6).At) 0, lo21, lo22, .eq (by kernel_rfl), hO, h1⟩
    clear hO h1
    rintro T H ⟨all4, out5, i6, j7, lo34, lo35, hT, hO, h1⟩
    refine bA hT ?_
    clear hT
    unfold DQ at h1
    obtain ⟨rr1, hl1, h1⟩ := aW h1
    refine bX (by kernel_rfl) (fun (s : List aA × List aA × Int × aA) T H => ∃ lo34 : Nat, ∃ lo35 : Nat, Has T [(4, (.msl 2 lo34 0 (List.length s.1))), (5, (.msl 2 lo35 0 (List.length s.2.1))), (6, (eI s.2.2.1)), (7, (.lp lo25 0 0))] ∧ aN ⟨H0, [], []⟩ H [(lo34, 2, List.map aE s.1), (lo35, 2, List.map aE s.2.1), (lo25, 2, [(aE s.2.2.2)])]) hl1 ⟨lo34, lo35, .eq (by kernel_rfl), hO⟩ ?_
    clear hO
    rintro k1 s out2 T H ⟨lo34, lo35, hT, hO⟩ h2 ho1
    obtain ⟨all4, out5, i6, j7⟩ := s
    replace h2 : kD all4 out5 i6 j7 = some out2 := h2
    try dsimp only at hT
    refine bA hT ?_
    clear hT
    unfold kD at h2
    refine aO ?_
    refine aO ?_
    obtain ⟨c36, h2⟩ := bE h2
    refine eS (eV []) aF 14 ?_
    refine yB (K := fun T H => Has (lift T) [(4, (.msl 2 lo34 0 (List.length all4))), (5, (.msl 2 lo35 0 (List.length out5))), (6, (eI i6)), (7, (.lp lo25 0 0)), (40, (aK ((decide (i6 < (lN all4))) && (decide (((gD all4 i6).At) = j7.At)))))] ∧ aN ⟨H0, [], []⟩ H [(lo34, 2, List.map aE all4), (lo35, 2, List.map aE out5), (lo25, 2, [(aE j7)])]) ?_ ?_
    · refine qH 5 ?_
      refine sE (t := 31) (e := decide (i6 < (lN all4))) (by kernel_rfl) (fun hg37 => ?_) (fun hg37 => ?_)
      · refine dA 9 [0 ≤ i6 ∧ i6 < (lN all4)] ⟨(c36 hg37), trivial⟩ ?_
        refine CQ 0 lo34 2 (0 + Int.toNat i6) (aE (gD all4 i6)) (eI ((gD all4 i6).At)) (List.map aE all4) (by kernel_rfl) (by kernel_rfl) (by kernel_rfl) hO (by kernel_rfl) (dB (c36 hg37)) ?_
        refine qH 11 ?_
        refine CQ 2 lo25 2 0 (aE j7) (eI j7.At) [(aE j7)] (by kernel_rfl) (by kernel_rfl) (by kernel_rfl) hO (by kernel_rfl) rfl ?_
        refine iJ ?_
        exact ⟨⟨[(4, (.msl 2 lo34 0 (List.length all4))), (5, (.msl 2 lo35 0 (List.length out5))), (6, (eI i6)), (7, (.lp lo25 0 0)), (40, (aK (decide (((gD all4 i6).At) = j7.At))))], by kernel_rfl, rfl, ⟨aZ.refl _, aZ.refl _, aZ.refl _, aZ.refl _, aZ.eq (congrArg aK (tT hg37 rfl).symm), trivial⟩⟩, hO⟩
      refine iJ ?_
      exact ⟨⟨[(4, (.msl 2 lo34 0 (List.length all4))), (5, (.msl 2 lo35 0 (List.length out5))), (6, (eI i6)), (7, (.lp lo25 0 0)), (40, (aK false))], by kernel_rfl, rfl, ⟨aZ.refl _, aZ.refl _, aZ.refl _, aZ.refl _, aZ.eq (congrArg aK (tT hg37 rfl).symm), trivial⟩⟩, hO⟩
    · rintro T H ⟨hT, hO⟩
      refine cJ hT ?_
      clear hT
      refine aJ (aH ?_)
      refine bJ h2 (fun h2 => ?_) (fun h2 => ?_)
      · refine bL ?_
        refine bH [(4, (.msl 2 lo34 0 (List.length all4))), (5, (.msl 2 lo35 0 (List.length out5))), (6, (eI i6)), (7, (.lp lo25 0 0))] ?_
        refine aO ?_
        refine bO 3 ?_
        refine eS (eV []) aF 10 ?_
        refine qH 1 ?_
        refine lT 2 lo25 2 0 (aE j7) (eI j7.Net) [(aE j7)] hO rfl ?_
        obtain ⟨c39, h2⟩ := bE h2
        refine dA 6 [0 ≤ i6 ∧ i6 < (lN all4)] ⟨c39, trivial⟩ ?_
        refine lT 0 lo34 2 (0 + Int.toNat i6) (aE (gD all4 i6)) (eI ((gD all4 i6).Net)) (List.map aE all4) hO (dB c39) ?_
        refine qH 9 ?_
        refine vH 2 lo25 2 0 (aE j7) (aE (aA.mk j7.At (wR (j7.Net + ((gD all4 i6).Net))))) [(aE j7)] [(lo34, 2, List.map aE all4), (lo35, 2, List.map aE out5), (lo25, 2, [(aE (aA.mk j7.At (wR (j7.Net + ((gD all4 i6).Net)))))])] hO rfl (by kernel_rfl) ?_
        intro H hO
        refine DV (by kernel_rfl) ?_
        refine cN [(4, (.msl 2 lo34 0 (List.length all4))), (5, (.msl 2 lo35 0 (List.length out5))), (6, (eI i6)), (7, (.lp lo25 0 0))] ?_
        refine aJ (aV (aH (?_)))
        refine aU aF 3 ?_
        refine bC ?_
        exact aJ (aH (⟨rfl, _, (oI h2).symm, _, _, .eq (by kernel_rfl), hO⟩))
      refine cV 2 ?_
      obtain rfl := oI h2
      obtain rfl : _ = rr1 := ho1
      replace h1 : xS all4 out5 i6 j7 = some out1 := h1
      exact aJ (aS (aS (bM (aH (⟨rfl, _, _, _, _, _, _, .eq (by kernel_rfl), hO, h1⟩)))))
  refine cV 0 ?_
  replace hO := hO.pick (L' := [(lo22, 2, List.map aE out5)]) [1] (by decide) (by kernel_rfl)
  obtain rfl := oI h1
  obtain rfl : _ = rr0 := ho0
  replace h0 : yN out5 = some r := h0
  exact aJ (aS (aS (bM (aH (⟨rfl, _, _, .eq (by kernel_rfl), hO, h0⟩)))))

theorem WD (f0 : (List aA)) (r : ((List aA) × Int)) (h0 : wH f0 = some r) : bY Tryz.prog 64 [(eL aE f0)] (.tup [(eL aE r.1), (eI r.2)]) := by
  intro H0
  refine cF Tryz.func64 ?_
  have hO := aN.start H0
  unfold wH at h0
  refine aY aF 2 [] [] ?_
  refine aO ?_
  refine aU aF 6 ?_
  refine bR 1 ?_
  obtain ⟨x1, hx2, h0⟩ := aW h0
  refine cA (aAm f0 _ hx2) hO ?_
  intro H hO
  refine bC ?_
  refine bH [(2, (eL aE x1.1)), (3, (eI x1.2))] ?_
  refine bK ?_
  obtain rfl := oI h0
  exact aJ (Q_r hO)

theorem aAM (l0 : (List aC)) (r : ((List aC) × Int)) (h0 : AM l0 = some r) : bY Tryz.prog 33 [(eL aD l0)] (.tup [(eL aD r.1), (eI r.2)]) := by
  intro H0
  refine cF Tryz.func33 ?_
  have hO := aN.start H0
  unfold AM at h0
  refine aY aF 2 [] [] ?_
  refine aO ?_
  refine aO ?_
  refine aU aF 2 ?_
  refine bR 1 ?_
  obtain ⟨x1, hx2, h0⟩ := aW h0
  refine cA (nW l0 55 [] [] (fun y0 => wF y0) (fun y0 r h => WJ y0 r h) _ hx2) hO ?_
  intro H hO
  refine cW ?_
  refine bT [] [(6, (aK x1))] ?_
  refine bJ h0 (fun h0 => ?_) (fun h0 => ?_)
  · refine bV aF 2 [(2, (.sl true 0 (fun _ => .bad))), (3, (eI (2 : Int)))] ?_
    refine bK ?_
    refine cJ (l := [(2, (eL aD ([]))), (3, (eI (2 : Int)))]) ⟨[(2, (.sl true 0 (fun _ => .bad))), (3, (eI (2 : Int)))], by kernel_rfl, rfl, ⟨dG, aZ.refl _, trivial⟩⟩ ?_
    obtain rfl := oI h0
    exact aJ (aQ (Q_r hO))
  refine bL ?_
  refine bH [(0, (eL aD l0))] ?_
  refine aO ?_
  refine aO ?_
  refine aU aF 2 ?_
  refine bR 1 ?_
  obtain ⟨x5, hx6, h0⟩ := aW h0
  refine cA (nW l0 56 [] [] (fun y0 => wA y0) (fun y0 r h => VU y0 r h) _ hx6) hO ?_
  intro H hO
  refine cW ?_
  refine bT [] [(8, (aK x5))] ?_
  refine bJ h0 (fun h0 => ?_) (fun h0 => ?_)
  · refine bV aF 2 [(2, (.sl true 0 (fun _ => .bad))), (3, (eI (13 : Int)))] ?_
    refine bK ?_
    refine cJ (l := [(2, (eL aD ([]))), (3, (eI (13 : Int)))]) ⟨[(2, (.sl true 0 (fun _ => .bad))), (3, (eI (13 : Int)))], by kernel_rfl, rfl, ⟨dG, aZ.refl _, trivial⟩⟩ ?_
    obtain rfl := oI h0
    exact aJ (aQ (Q_r hO))
  refine bL ?_
  refine bH [(0, (eL aD l0))] ?_
  refine aO ?_
  refine aU aF 3 ?_
  refine bR 1 ?_
  obtain ⟨x9, hx10, h0⟩ := aW h0
  refine aA3 (L' := fun lo11 => [(lo11, 3, List.map aD x9)]) 3 (List.map aD x9) 57 [(eL aD l0)] (fun lo11 => (.msl 3 lo11 0 (List.length x9))) (by kernel_rfl) (by kernel_rfl) (CI l0 _ hx10) hO (fun _ => by kernel_rfl) ?_
  intro lo11 H hO
  refine bC ?_
  refine bH [(4, (.msl 3 lo11 0 (List.length x9)))] ?_
  refine aO ?_
  refine aU aF 2 ?_
  refine bR 1 ?_
  obtain ⟨x12, hx13, h0⟩ := aW h0
  refine qL [(lo11, 3, List.map aD x12)] 0 (uW lo11 x9 59 [] [] (fun y0 y1 => nT y0 y1) (fun y0 y1 r h => VW y0 y1 r h) _ hx13) hO ?_
  intro H hO hl14
  simp only [List.length_map] at hl14
  refine cW ?_
  refine cJ (l := [(4, (.msl 3 lo11 0 (List.length x12)))]) ⟨[(4, (.msl 3 lo11 0 (List.length x9)))], by kernel_rfl, rfl, ⟨aZ.eq (by simp [hl14]), trivial⟩⟩ ?_
  refine aJ (aH (?_))
  refine aO ?_
  refine aU aF 6 ?_
  refine xZ (e := aD) x12 0 4 3 lo11 (List.length x12) [] (by kernel_rfl) hO (by kernel_rfl) (by kernel_rfl) (by kernel_rfl) (by kernel_rfl) ?_
  intro H hO
  refine bR 1 ?_
  obtain ⟨x15, hx16, h0⟩ := aW h0
  refine cA (WC x12 64 [] [] (fun y0 => wH y0) (fun y0 r h => WD y0 r h) _ hx16) hO ?_
  intro H hO
  refine bC ?_
  refine bH [(2, (eL aD x15.1)), (3, (eI x15.2))] ?_
  refine bK ?_
  obtain rfl := oI h0
  exact aJ (Q_r hO)

theorem MH (l0 : (List aM)) (r : ((List aC) × Int)) (h0 : uU l0 = some r) : bY Tryz.prog 10 [(eL aL l0)] (.tup [(eL aD r.1), (eI r.2)]) := by
  intro H0
  refine cF Tryz.func10 ?_
  have hO := aN.start H0
  unfold uU at h0
  refine aY aF 2 [] [] ?_
  refine aO ?_
  refine aO ?_
  refine aU aF 2 ?_
  refine bR 1 ?_
  obtain ⟨x1, hx2, h0⟩ := aW h0
  refine cA (uX l0 32 [] [] (fun y0 => tV y0) (fun y0 r h => UA y0 r h) _ hx2) hO ?_
  intro H hO
  refine cW ?_
  refine bT [] [(8, (aK x1))] ?_
  refine bJ h0 (fun h0 => ?_) (fun h0 => ?_)
  · refine bV aF 2 [(2, (.sl true 0 (fun _ => .bad))), (3, (eI (2 : Int)))] ?_
    refine bK ?_
    refine cJ (l := [(2, (eL aD ([]))), (3, (eI (2 : Int)))]) ⟨[(2, (.sl true 0 (fun _ => .bad))), (3, (eI (2 : Int)))], by kernel_rfl, rfl, ⟨dG, aZ.refl _, trivial⟩⟩ ?_
    obtain rfl := oI h0
    exact aJ (aQ (Q_r hO))
  refine bL ?_
  refine bH [(0, (eL aL l0))] ?_
  refine aO ?_
  refine aY aF 3 [] [(11, (aK (decide ((4096 : Int) < (lN l0)))))] ?_
  refine bJ h0 (fun h0 => ?_) (fun h0 => ?_)
  · refine bV aF 2 [(2, (.sl true 0 (fun _ => .bad))), (3, (eI (7 : Int)))] ?_
    refine bK ?_
    refine cJ (l := [(2, (eL aD ([]))), (3, (eI (7 : Int)))]) ⟨[(2, (.sl true 0 (fun _ => .bad))), (3, (eI (7 : Int)))], by kernel_rfl, rfl, ⟨dG, aZ.refl _, trivial⟩⟩ ?_
    obtain rfl := oI h0
    exact aJ (aQ (Q_r hO))
  refine bL ?_
  refine bH [(0, (eL aL l0))] ?_
  refine aO ?_
  refine aU aF 5 ?_
  refine bR 3 ?_
  obtain ⟨c6, h0⟩ := bE h0
  refine NZ 3 40 (wR ((2 : Int) * (lN l0))) (by kernel_rfl) (by kernel_rfl) c6 hO ?_
  intro lo7 H hO
  refine bC ?_
  refine bT [] [(4, (.msl 3 lo7 0 (List.length ([] : List aC))))] ?_
  refine cH (fun T H => ∃ out4 : List aC, ∃ lo8 : Nat, Has T [(4, (.msl 3 lo8 0 (List.length out4)))] ∧ aN ⟨H0, [], []⟩ H [(lo8, 3, List.map aD out4)] ∧ vW out4 = some r) ?_ ?_
  · clear hO h0
    rintro T H ⟨out4, lo8, hT, hO, h0⟩
    refine bA hT ?_
    clear hT
    unfold vW at h0
    refine aO ?_
    refine aU aF 6 ?_
    refine xZ (e := aD) out4 0 4 3 lo8 (List.length out4) [] (by kernel_rfl) hO (by kernel_rfl) (by kernel_rfl) (by kernel_rfl) (by kernel_rfl) ?_
    intro H hO
    refine bR 1 ?_
    obtain ⟨x9, hx10, h0⟩ := aW h0
    refine cA (aAM out4 _ hx10) hO ?_
    intro H hO
    refine bC ?_
    refine bH [(2, (eL aD x9.1)), (3, (eI x9.2))] ?_
    refine bK ?_
    obtain rfl := oI h0
    exact aJ (Q_r hO)
  refine aY aF 3 [0] [(16, (eL aL l0)), (17, (eI (lN l0))), (18, (eI (0 : Int)))] ?_
  refine bO 0 ?_
  refine cL [(4, (.msl 3 lo7 0 (List.length ([] : List aC)))), (16, (eL aL l0)), (17, (eI (lN l0))), (18, (eI (0 : Int)))] ?_
  refine cC (fun T H => ∃ out4 : List aC, ∃ t16 : (List aM), ∃ t17 : Int, ∃ t18 : Int, ∃ lo13 : Nat, Has T [(4, (.msl 3 lo13 0 (List.length out4))), (16, (eL aL t16)), (17, (eI t17)), (18, (eI t18))] ∧ aN ⟨H0, [], []⟩ H [(lo13, 3, List.map aD out4)] ∧ BI out4 t16 t17 t18 = some r) ?_ ⟨([] : List aC), l0, (lN l0), (0 : Int), lo7, .eq (by kernel_rfl), hO, h0⟩
  clear hO h0
  rintro T H ⟨out4, t16, t17, t18, lo13, hT, hO, h0⟩
  refine bA hT ?_
  clear hT
  unfold BI at h0
  obtain ⟨rr0, hl0, h0⟩ := aW h0
  refine bX (by kernel_rfl) (fun (s : List aC × Int) T H => ∃ lo13 : Nat, Has T [(4, (.msl 3 lo13 0 (List.length s.1))), (16, (eL aL t16)), (17, (eI t17)), (18, (eI s.2))] ∧ aN ⟨H0, [], []⟩ H [(lo13, 3, List.map aD s.1)]) hl0 ⟨lo13, .eq (by kernel_rfl), hO⟩ ?_
  clear hO
  rintro k0 s out1 T H ⟨lo13, hT, hO⟩ h1 ho0
  obtain ⟨out4, t18⟩ := s
  replace h1 : nY t16 t17 out4 t18 = some out1 := h1
  try dsimp only at hT
  refine bA hT ?_
  clear hT
  unfold nY at h1
  refine aY aF 1 [] [(19, (aK (decide (t18 < t17))))] ?_
  refine aO ?_
  refine bJ h1 (fun h1 => ?_) (fun h1 => ?_)
  · refine bL ?_
    refine bH [(4, (.msl 3 lo13 0 (List.length out4))), (16, (eL aL t16)), (17, (eI t17)), (18, (eI t18))] ?_
    refine aO ?_
    refine bO 1 ?_
    refine aO ?_
    refine aU aF 4 ?_
    obtain ⟨c15, h1⟩ := bE h1
    refine jT 2 [0 ≤ t18 ∧ t18 < (lN t16)] ⟨c15, trivial⟩ ?_
    refine vG 3 (.agg [(.sl true 0 (fun _ => .bad)), (eI 0), (eI 0)]) (aL (aM.mk ([]) (aT.mk 0 0))) (by kernel_rfl) (by kernel_rfl) (by kernel_rfl) (LX (xs := [(.sl true 0 (fun _ => .bad)), (eI 0), (eI 0)]) (ys := [(eL aI ([])), (eI 0), (eI 0)]) ⟨dG, aZ.refl _, aZ.refl _, trivial⟩) (by kernel_rfl) (by kernel_rfl) hO ?_
    intro lo16 H hO
    refine kB 1 lo16 3 0 (aL (aM.mk ([]) (aT.mk 0 0))) (aL (gD t16 t18)) [(aL (aM.mk ([]) (aT.mk 0 0)))] [(lo13, 3, List.map aD out4), (lo16, 3, [(aL (gD t16 t18))])] hO rfl (by kernel_rfl) ?_
    intro H hO
    refine cW ?_
    refine bT [] [(6, (.lp lo16 0 0))] ?_
    refine aU aF 16 ?_
    refine bR 2 ?_
    refine kQ 1 lo16 3 0 (aL (gD t16 t18)) (eL aI ((gD t16 t18).Row)) [(aL (gD t16 t18))] hO rfl ?_
    refine bR 5 ?_
    refine kQ 1 lo16 3 0 (aL (gD t16 t18)) (eI (((gD t16 t18).Span).From)) [(aL (gD t16 t18))] hO rfl ?_
    refine bR 8 ?_
    refine kQ 1 lo16 3 0 (aL (gD t16 t18)) (eL aI ((gD t16 t18).Row)) [(aL (gD t16 t18))] hO rfl ?_
    refine bR 11 ?_
    refine kQ 1 lo16 3 0 (aL (gD t16 t18)) (eI (((gD t16 t18).Span).To)) [(aL (gD t16 t18))] hO rfl ?_
    refine bR 13 ?_
    refine iM (xs := [(aD (aC.mk ((gD t16 t18).Row) (((gD t16 t18).Span).From) (1 : Int))), (aD (aC.mk ((gD t16 t18).Row) (((gD t16 t18).Span).To) (-1 : Int)))]) (k := 3) (by kernel_rfl) (by kernel_rfl) ?_
    obtain ⟨c18, h1⟩ := bE h1
    refine rD (e := aD) out4 ([aC.mk ((gD t16 t18).Row) (((gD t16 t18).Span).From) (1 : Int), aC.mk ((gD t16 t18).Row) (((gD t16 t18).Span).To) (-1 : Int)]) 0 lo13 3 40 (cZ [(aD (aC.mk ((gD t16 t18).Row) (((gD t16 t18).Span).From) (1 : Int))), (aD (aC.mk ((gD t16 t18).Row) (((gD t16 t18).Span).To) (-1 : Int)))]) (fun lo17 => [(lo17, 3, List.map aD (out4 ++ ([aC.mk ((gD t16 t18).Row) (((gD t16 t18).Span).From) (1 : Int), aC.mk ((gD t16 t18).Row) (((gD t16 t18).Span).To) (-1 : Int)]))), (lo16, 3, [(aL (gD t16 t18))])]) (by kernel_rfl) (by kernel_rfl) hO (by kernel_rfl) (by kernel_rfl) c18 (fun _ => by kernel_rfl) ?_
    intro lo17 H hO
    refine bC ?_
    refine cN [(4, (.msl 3 lo17 0 (List.length (out4 ++ ([aC.mk ((gD t16 t18).Row) (((gD t16 t18).Span).From) (1 : Int), aC.mk ((gD t16 t18).Row) (((gD t16 t18).Span).To) (-1 : Int)]))))), (16, (eL aL t16)), (17, (eI t17)), (18, (eI t18))] ?_
    replace hO := hO.pick (L' := [(lo17, 3, List.map aD (out4 ++ ([aC.mk ((gD t16 t18).Row) (((gD t16 t18).Span).From) (1 : Int), aC.mk ((gD t16 t18).Row) (((gD t16 t18).Span).To) (-1 : Int)])))]) [0] (by decide) (by kernel_rfl)
    refine aJ (aV (aH (?_)))
    refine aU aF 2 ?_
    refine bC ?_
    exact aJ (aH (⟨rfl, _, (oI h1).symm, _, .eq (by kernel_rfl), hO⟩))
  refine cV 0 ?_
  obtain rfl := oI h1
  obtain rfl : _ = rr0 := ho0
  replace h0 : vW out4 = some r := h0
  exact aJ (aS (aS (bM (aH (⟨rfl, _, _, .eq (by kernel_rfl), hO, h0⟩)))))

theorem OQ (l0 : (List aC)) (holds1_f : Nat) (holds1_a holds1_c : List V) (yF : (List aA) → Option Bool) (holds1_h : ∀ a0 r, yF a0 = some r → bY Tryz.prog holds1_f (holds1_a ++ [(eL aE a0)] ++ holds1_c) (aK r)) (r : Bool) (h0 : wW l0 yF = some r) : bY Tryz.prog 43 [(eL aD l0), (.fn (.func holds1_f) holds1_a holds1_c)] (aK r) := by
  intro H0
  refine JM aF Tryz.func43 (by kernel_rfl) (by kernel_rfl) (by kernel_rfl) ?_
  have hO := aN.start H0
  unfold wW at h0
  refine aO ?_
  refine aU aF 2 ?_
  refine fQ 1 (.fn (.func holds1_f) holds1_a holds1_c) (by kernel_rfl) (by kernel_rfl) ?_
  refine nL 1 (aK false) (by kernel_rfl) (by kernel_rfl) hO ?_
  intro lo1 H hO
  refine cW ?_
  refine bT [1] [(3, (.rp (.fn (.func holds1_f) holds1_a holds1_c))), (4, (.lp lo1 0 0))] ?_
  refine aO ?_
  refine aY aF 3 [] [(11, (aK (decide ((4096 : Int) < (lN l0)))))] ?_
  refine bJ h0 (fun h0 => ?_) (fun h0 => ?_)
  · refine aO ?_
    refine aU aF 1 ?_
    refine kB 0 lo1 1 0 (aK false) (aK false) [(aK false)] [(lo1, 1, [(aK false)])] hO rfl (by kernel_rfl) ?_
    intro H hO
    refine cW ?_
    refine bH [(4, (.lp lo1 0 0))] ?_
    refine bK ?_
    obtain rfl := oI h0
    exact aJ (aQ (QM0 (.inr rfl) (rs := [.cell 4 4]) (xs := [(aK false)]) (x := (aK false)) (by kernel_rfl) (CK (lo := lo1) (k := 1) (y := (aK false)) (x := (aK false)) 0 hO (by kernel_rfl) (by kernel_rfl) (by kernel_rfl) (by kernel_rfl) uC) (by kernel_rfl) ⟨rfl, hO.out⟩))
  refine bL ?_
  refine bH [(0, (eL aD l0)), (3, (.rp (.fn (.func holds1_f) holds1_a holds1_c))), (4, (.lp lo1 0 0))] ?_
  refine aO ?_
  refine aU aF 1 ?_
  refine vG 1 (.sl true 0 (fun _ => .bad)) (eL aI ([])) (by kernel_rfl) (by kernel_rfl) (by kernel_rfl) (dG) (by kernel_rfl) (by kernel_rfl) hO ?_
  intro lo3 H hO
  refine cW ?_
  refine bT [] [(5, (.lp lo3 0 0))] ?_
  refine aO ?_
  refine aU aF 2 ?_
  refine nL 1 (aK false) (by kernel_rfl) (by kernel_rfl) hO ?_
  intro lo4 H hO
  refine kB 2 lo4 1 0 (aK false) (aK false) [(aK false)] [(lo1, 1, [(aK false)]), (lo3, 1, [(eL aI ([]))]), (lo4, 1, [(aK false)])] hO rfl (by kernel_rfl) ?_
  intro H hO
  refine cW ?_
  refine bT [] [(6, (.lp lo4 0 0))] ?_
  refine aO ?_
  refine aO ?_
  refine aU aF 2 ?_
  refine bR 1 ?_
  obtain ⟨x5, hx6, h0⟩ := aW h0
  refine cA (IW l0 _ hx6) hO ?_
  intro H hO
  refine cW ?_
  refine bT [0] [(13, (.fn (.func 75) [] [(.rp (eL aD x5))]))] ?_
  refine bO 0 ?_
  refine cL [(3, (.rp (.fn (.func holds1_f) holds1_a holds1_c))), (4, (.lp lo1 0 0)), (5, (.lp lo3 0 0)), (6, (.lp lo4 0 0)), (13, (.fn (.func 75) [] [(.rp (eL aD x5))]))] ?_
  refine cC (fun T H => ∃ t4 : Bool, ∃ qO : (List aG), ∃ kA : Bool, ∃ lJ : (List aC), Has T [(3, (.rp (.fn (.func holds1_f) holds1_a holds1_c))), (4, (.lp lo1 0 0)), (5, (.lp lo3 0 0)), (6, (.lp lo4 0 0)), (13, (.fn (.func 75) [] [(.rp (eL aD lJ))]))] ∧ aN ⟨H0, [], []⟩ H [(lo1, 1, [(aK t4)]), (lo3, 1, [(eL aI qO)]), (lo4, 1, [(aK kA)])] ∧ ED yF t4 qO kA lJ = some r) ?_ ⟨false, [], false, x5, .eq (by kernel_rfl), hO, h0⟩
  clear hO h0
  rintro T H ⟨t4, qO, kA, lJ, hT, hO, h0⟩
  refine bA (l := [(3, (.rp (.fn (.func holds1_f) holds1_a holds1_c))), (4, (.lp lo1 0 0)), (5, (.lp lo3 0 0)), (6, (.lp lo4 0 0)), (13, (.fn (.func 75) [] [(.rp (eL aD lJ))]))]) hT ?_
  clear hT
  unfold ED at h0
  obtain ⟨o0, hl0, h0⟩ := aW h0
  refine HR (fid := 75) (ys := []) (cs := [(.rp (eL aD lJ))]) #[14, 15] (fun (A : ET) (b lL : Nat) (st : (Bool × (List aG) × Bool) ⊕ (Bool × (List aG) × Bool)) (G' : Gs) => Sum.elim (fun (s : Bool × (List aG) × Bool) => G' = (lL, .raw (kM b A .ready none)) :: (up [(lo1, 1, [(aK s.1)]), (lo3, 1, [(eL aI s.2.1)]), (lo4, 1, [(aK s.2.2)])] ++ [])) (fun (s : Bool × (List aG) × Bool) => G' = (lL, .raw (kM b A .done (some .ret))) :: (up [(lo1, 1, [(aK s.1)]), (lo3, 1, [(eL aI s.2.1)]), (lo4, 1, [(aK s.2.2)])] ++ [])) st) (.inl (t4, qO, kA)) o0 (.tup []) (by kernel_rfl) (by kernel_rfl) (by kernel_rfl) hO (fun _ _ => rfl) ?_ ?_
  · intro b lL
    clear hO h0
    refine EC _ b (fun st t14 t15 => rnd (fun (s : Bool × (List aG) × Bool) => rQ yF lJ s.1 s.2.1 s.2.2 t14 t15) st) ?_ lJ _ _ hl0
    intro st t14 t15 out1 rr hr
    obtain ⟨s, rfl, h1, rfl⟩ := XW hr
    clear hr
    intro Hr Gr hi hg
    obtain ⟨t4, qO, kA⟩ := s
    dsimp only [Sum.elim_inl] at hi
    obtain rfl := hi
    replace h1 : rQ yF lJ t4 qO kA t14 t15 = some out1 := h1
    unfold rQ at h1
    obtain ⟨E1, hE, hO⟩ := AG hg
    refine AJ (HH (hO.gm 0 _ rfl).2 (by kernel_rfl) (by kernel_rfl) ?_)
    refine cL [(3, (.rp (.fn (.func holds1_f) holds1_a holds1_c))), (4, (.lp lo1 0 0)), (5, (.lp lo3 0 0)), (6, (.lp lo4 0 0)), (13, (.fn (.func 75) [] [(.rp (eL aD lJ))])), (14, (eL aI t14)), (15, (eL aE t15))] ?_
    refine aY aF 1 [13, 14] [(7, (eL aI t14))] ?_
    refine aU aF 1 ?_
    refine bC ?_
    refine cN [(3, (.rp (.fn (.func holds1_f) holds1_a holds1_c))), (4, (.lp lo1 0 0)), (5, (.lp lo3 0 0)), (6, (.lp lo4 0 0)), (7, (eL aI t14)), (8, (eL aE t15))] ?_
    refine aJ (⟨rfl, rfl, (hO.gm 0 _ rfl).2, ?_⟩)
    intro o1 ho1
    replace hO := hO.zS o1
    refine bO 1 ?_
    refine aO ?_
    refine aO ?_
    refine aU aF 18 ?_
    refine bR 1 ?_
    obtain ⟨x7, hx8, h1⟩ := aW h1
    refine cA (FU t14 _ hx8) hO ?_
    intro H hO
    refine bR 4 ?_
    refine EP [(19, false)] 2 lo4 1 0 (aK kA) (aK kA) [(aK kA)] (by kernel_rfl) (by kernel_rfl) hO (by kernel_rfl) (!(!x7)) (by kernel_rfl) (fun hb10 => rfl) ?_
    refine bR 6 ?_
    refine EP [(21, true), (19, false)] 1 lo3 1 0 (eL aI qO) (eL aI qO) [(eL aI qO)] (by kernel_rfl) (by kernel_rfl) hO (by kernel_rfl) (kA && (!(!x7))) (by kernel_rfl) (fun hb11 => rfl) ?_
    refine bR 8 ?_
    obtain ⟨x12, hx13, h1⟩ := aW h1
    refine fU [(21, true), (19, false)] 61 [(eL aI qO), (eL aI t14)] (eI x12) (kA && (!(!x7))) (by kernel_rfl) (by kernel_rfl) (by kernel_rfl) (fun hb14 => (LQ qO t14 _ (fP hx13 hb14))) hO ?_
    intro H hO
    refine bR 15 ?_
    obtain ⟨x15, hx16, h1⟩ := aW h1
    refine fU [(28, false)] holds1_f (holds1_a ++ [(eL aE t15)] ++ holds1_c) (aK x15) (!((!x7) || (kA && (decide ((0 : Int) ≤ x12))))) (by kernel_rfl) (by kernel_rfl) (by kernel_rfl) (fun hb17 => (holds1_h t15 _ (fP hx16 hb17))) hO ?_
    intro H hO
    refine bC ?_
    refine bT [3, 8] [(33, (aK (((!x7) || (kA && (decide ((0 : Int) ≤ x12)))) || (!x15))))] ?_
    refine bJ h1 (fun h1 => ?_) (fun h1 => ?_)
    · refine aO ?_
      refine aU aF 1 ?_
      refine kB 0 lo1 1 0 (aK t4) (aK false) [(aK t4)] [(lo1, 1, [(aK false)]), (lo3, 1, [(eL aI qO)]), (lo4, 1, [(aK kA)])] hO rfl (by kernel_rfl) ?_
      intro H hO
      refine cW ?_
      refine bT [7, 33] [] ?_
      refine bK ?_
      refine cN [(4, (.lp lo1 0 0)), (5, (.lp lo3 0 0)), (6, (.lp lo4 0 0))] ?_
      obtain rfl := oI h1
      exact aJ (aQ (bN (⟨(gS hO hE ho1 .dead).1, rfl, _, rfl, (gS hO hE ho1 _).2⟩)))
    refine bL ?_
    refine bH [(4, (.lp lo1 0 0)), (5, (.lp lo3 0 0)), (6, (.lp lo4 0 0)), (7, (eL aI t14))] ?_
    refine aU aF 3 ?_
    refine bR 1 ?_
    refine kB 1 lo3 1 0 (eL aI qO) (eL aI t14) [(eL aI qO)] [(lo1, 1, [(aK t4)]), (lo3, 1, [(eL aI t14)]), (lo4, 1, [(aK kA)])] hO rfl (by kernel_rfl) ?_
    intro H hO
    refine kB 2 lo4 1 0 (aK kA) (aK true) [(aK kA)] [(lo1, 1, [(aK t4)]), (lo3, 1, [(eL aI t14)]), (lo4, 1, [(aK true)])] hO rfl (by kernel_rfl) ?_
    intro H hO
    refine cW ?_
    refine cN [(4, (.lp lo1 0 0)), (5, (.lp lo3 0 0)), (6, (.lp lo4 0 0))] ?_
    obtain rfl := oI h1
    exact aJ (aV (⟨(gS hO hE ho1 .dead).1, rfl, _, rfl, (gS hO hE ho1 _).2⟩))
  · intro b lD19 lL H' G' hi hO
    rcases o0 with s | s
    · dsimp only [Sum.elim_inl] at hi
      obtain rfl := hi
      replace h0 : (some true) = some r := h0
      obtain ⟨hlL, hO⟩ := sW hO
      refine ⟨_, _, hlL, (by intro e; cases e), ?_⟩
      refine cN [(4, (.lp lo1 0 0))] ?_
      replace hO := hO.pick (L' := [(lo1, 1, [(aK s.1)])]) [0] (by decide) (by kernel_rfl)
      refine aJ (aV (aH (?_)))
      refine aO ?_
      refine aU aF 1 ?_
      refine kB 0 lo1 1 0 (aK s.1) (aK true) [(aK s.1)] [(lo1, 1, [(aK true)])] hO rfl (by kernel_rfl) ?_
      intro H hO
      refine cW ?_
      refine bH [(4, (.lp lo1 0 0))] ?_
      refine bK ?_
      obtain rfl := oI h0
      have hD := (hO.gm 0 _ rfl).2
      replace hO := (hO.zS .dead).zA
      exact aJ (QM1 (.inr rfl) hD (rs := [.cell 4 4]) (xs := [(aK true)]) (x := (aK true)) (by kernel_rfl) (CK (lo := lo1) (k := 1) (y := (aK true)) (x := (aK true)) 0 hO (by kernel_rfl) (by kernel_rfl) (by kernel_rfl) (by kernel_rfl) uC) (by kernel_rfl) ⟨rfl, hO.out⟩)
    · dsimp only [Sum.elim_inr] at hi
      obtain rfl := hi
      replace h0 : (some s.1) = some r := h0
      obtain ⟨hlL, hO⟩ := sW hO
      refine ⟨_, _, hlL, (by intro e; cases e), ?_⟩
      refine bK ?_
      replace hO := hO.pick (L' := [(lo1, 1, [(aK s.1)])]) [0] (by decide) (by kernel_rfl)
      obtain rfl := oI h0
      have hD := (hO.gm 0 _ rfl).2
      replace hO := (hO.zS .dead).zA
      exact aJ (bN (aQ (QM1 (.inr rfl) hD (rs := [.cell 4 4]) (xs := [(aK s.1)]) (x := (aK s.1)) (by kernel_rfl) (CK (lo := lo1) (k := 1) (y := (aK s.1)) (x := (aK s.1)) 0 hO (by kernel_rfl) (by kernel_rfl) (by kernel_rfl) (by kernel_rfl) uC) (by kernel_rfl) ⟨rfl, hO.out⟩)))

theorem RE (l0 : (List aC)) (r : Bool) (h0 : zF l0 = some r) : bY Tryz.prog 19 [(eL aD l0)] (aK r) := by
  intro H0
  refine cF Tryz.func19 ?_
  have hO := aN.start H0
  unfold zF at h0
  refine aY aF 1 [] [] ?_
  refine aO ?_
  refine aU aF 3 ?_
  refine bR 1 ?_
  obtain ⟨x1, hx2, h0⟩ := aW h0
  refine cA (OQ l0 44 [] [] (fun y0 => qN y0) (fun y0 r h => GW y0 r h) _ hx2) hO ?_
  intro H hO
  refine bC ?_
  refine bH [(2, (aK x1))] ?_
  refine bK ?_
  obtain rfl := oI h0
  exact aJ (Q_r hO)

theorem ZZ (f0 : (List aA)) (r : Int) (h0 : xV f0 = some r) : bY Tryz.prog 46 [(eL aE f0)] (eI r) := by
  intro H0
  refine cF Tryz.func46 ?_
  have hO := aN.start H0
  unfold xV at h0
  refine aY aF 1 [] [] ?_
  refine aO ?_
  refine aO ?_
  refine aU aF 8 ?_
  refine bR 1 ?_
  obtain ⟨x1, hx2, h0⟩ := aW h0
  refine cA (GW f0 _ hx2) hO ?_
  intro H hO
  refine bC ?_
  refine bT [] [(14, (aK ((!x1) || (decide ((lN f0) = (0 : Int))))))] ?_
  refine bJ h0 (fun h0 => ?_) (fun h0 => ?_)
  · refine bV aF 1 [(2, (eI (0 : Int)))] ?_
    refine bK ?_
    obtain rfl := oI h0
    exact aJ (aQ (Q_r hO))
  refine bL ?_
  refine bH [(0, (eL aE f0))] ?_
  refine aY aF 2 [] [(3, (eI (0 : Int))), (4, (eI (0 : Int)))] ?_
  refine cH (fun T H => ∃ v3 : Int, ∃ fX : Int, Has T [(0, (eL aE f0)), (3, (eI v3)), (4, (eI fX))] ∧ aN ⟨H0, [], []⟩ H [] ∧ sH f0 v3 fX = some r) ?_ ?_
  · clear hO h0
    rintro T H ⟨v3, fX, hT, hO, h0⟩
    refine bA hT ?_
    clear hT
    unfold sH at h0
    refine cH (fun T H => ∃ fX : Int, Has T [(4, (eI fX))] ∧ aN ⟨H0, [], []⟩ H [] ∧ wE fX = some r) ?_ ?_
    · clear hO h0
      rintro T H ⟨fX, hT, hO, h0⟩
      refine bA hT ?_
      clear hT
      unfold wE at h0
      refine bV aF 2 [(2, (eI fX))] ?_
      refine bK ?_
      obtain rfl := oI h0
      exact aJ (Q_r hO)
    refine aY aF 3 [0] [(24, (eL aE f0)), (25, (eI (lN f0))), (26, (eI (0 : Int)))] ?_
    refine bO 0 ?_
    refine cL [(3, (eI v3)), (4, (eI fX)), (24, (eL aE f0)), (25, (eI (lN f0))), (26, (eI (0 : Int)))] ?_
    refine cC (fun T H => ∃ v3 : Int, ∃ fX : Int, ∃ t24 : (List aA), ∃ t25 : Int, ∃ t26 : Int, Has T [(3, (eI v3)), (4, (eI fX)), (24, (eL aE t24)), (25, (eI t25)), (26, (eI t26))] ∧ aN ⟨H0, [], []⟩ H [] ∧ vR v3 fX t24 t25 t26 = some r) ?_ ⟨v3, fX, f0, (lN f0), (0 : Int), .eq (by kernel_rfl), hO, h0⟩
    clear hO h0
    rintro T H ⟨v3, fX, t24, t25, t26, hT, hO, h0⟩
    refine bA hT ?_
    clear hT
    unfold vR at h0
    obtain ⟨rr0, hl0, h0⟩ := aW h0
    refine bX (by kernel_rfl) (fun (s : Int × Int × Int) T H => Has T [(3, (eI s.1)), (4, (eI s.2.1)), (24, (eL aE t24)), (25, (eI t25)), (26, (eI s.2.2))] ∧ aN ⟨H0, [], []⟩ H []) hl0 ⟨.eq (by kernel_rfl), hO⟩ ?_
    clear hO
    rintro k0 s out1 T H ⟨hT, hO⟩ h1 ho0
    obtain ⟨v3, fX, t26⟩ := s
    replace h1 : nU t24 t25 v3 fX t26 = some out1 := h1
    try dsimp only at hT
    refine bA hT ?_
    clear hT
    unfold nU at h1
    refine aY aF 1 [] [(27, (aK (decide (t26 < t25))))] ?_
    refine aO ?_
    refine bJ h1 (fun h1 => ?_) (fun h1 => ?_)
    · refine bL ?_
      refine bH [(3, (eI v3)), (4, (eI fX)), (24, (eL aE t24)), (25, (eI t25)), (26, (eI t26))] ?_
      refine aO ?_
      refine bO 1 ?_
      refine aO ?_
      refine aU aF 4 ?_
      obtain ⟨c6, h1⟩ := bE h1
      refine jT 2 [0 ≤ t26 ∧ t26 < (lN t24)] ⟨c6, trivial⟩ ?_
      refine nL 2 (aE (aA.mk 0 0)) (by kernel_rfl) (by kernel_rfl) hO ?_
      intro lo7 H hO
      refine kB 0 lo7 2 0 (aE (aA.mk 0 0)) (aE (gD t24 t26)) [(aE (aA.mk 0 0))] [(lo7, 2, [(aE (gD t24 t26))])] hO rfl (by kernel_rfl) ?_
      intro H hO
      refine cW ?_
      refine bT [] [(6, (.lp lo7 0 0))] ?_
      refine aO ?_
      refine aU aF 5 ?_
      refine bR 2 ?_
      refine kQ 0 lo7 2 0 (aE (gD t24 t26)) (eI ((gD t24 t26).Net)) [(aE (gD t24 t26))] hO rfl ?_
      refine bC ?_
      replace hO := hO.pick (L' := []) [] (by decide) (by kernel_rfl)
      refine bT [3, 6] [(3, (eI (wR (v3 + ((gD t24 t26).Net)))))] ?_
      refine aU aF 4 ?_
      refine bC ?_
      refine cN [(3, (eI (wR (v3 + ((gD t24 t26).Net))))), (4, (eI (if (wR (v3 + ((gD t24 t26).Net))) < fX then (wR (v3 + ((gD t24 t26).Net))) else fX))), (24, (eL aE t24)), (25, (eI t25)), (26, (eI t26))] ?_
      refine aJ (aV (aH (?_)))
      refine aU aF 2 ?_
      refine bC ?_
      exact aJ (aH (⟨rfl, _, (oI h1).symm, .eq (by kernel_rfl), hO⟩))
    refine cV 0 ?_
    obtain rfl := oI h1
    obtain rfl : _ = rr0 := ho0
    replace h0 : wE fX = some r := h0
    exact aJ (aS (aS (bM (aH (⟨rfl, _, .eq (by kernel_rfl), hO, h0⟩)))))
  refine aO ?_
  refine aU aF 5 ?_
  obtain ⟨c8, h0⟩ := bE h0
  refine oN [0 ≤ (0 : Int) ∧ (0 : Int) < (lN f0)] ⟨c8, trivial⟩ ?_
  refine bT [] [(19, (aK (decide (((gD f0 (0 : Int)).At) = (-1 : Int)))))] ?_
  refine bJ h0 (fun h0 => ?_) (fun h0 => ?_)
  · refine aU aF 5 ?_
    obtain ⟨c10, h0⟩ := bE h0
    refine oN [0 ≤ (0 : Int) ∧ (0 : Int) < (lN f0)] ⟨c10, trivial⟩ ?_
    exact aJ (aH (⟨rfl, _, _, .eq (by kernel_rfl), hO, h0⟩))
  refine bL ?_
  exact aJ (aH (⟨rfl, _, _, .eq (by kernel_rfl), hO, h0⟩))

theorem TP (f0 : (List aA)) (r : Bool) (h0 : uQ f0 = some r) : bY Tryz.prog 45 [(eL aE f0)] (aK r) := by
  intro H0
  refine cF Tryz.func45 ?_
  have hO := aN.start H0
  unfold uQ at h0
  refine aY aF 1 [] [] ?_
  refine aO ?_
  refine aU aF 8 ?_
  refine bR 1 ?_
  obtain ⟨x1, hx2, h0⟩ := aW h0
  refine cA (GW f0 _ hx2) hO ?_
  intro H hO
  refine bR 4 ?_
  obtain ⟨x4, hx5, h0⟩ := aW h0
  refine fU [(5, true)] 46 [(eL aE f0)] (eI x4) x1 (by kernel_rfl) (by kernel_rfl) (by kernel_rfl) (fun hb6 => (ZZ f0 _ (fP hx5 hb6))) hO ?_
  intro H hO
  refine bC ?_
  refine bH [(2, (aK (x1 && (decide ((0 : Int) ≤ x4)))))] ?_
  refine bK ?_
  obtain rfl := oI h0
  exact aJ (Q_r hO)

theorem XC (l0 : (List aC)) (r : Bool) (h0 : yI l0 = some r) : bY Tryz.prog 20 [(eL aD l0)] (aK r) := by
  intro H0
  refine cF Tryz.func20 ?_
  have hO := aN.start H0
  unfold yI at h0
  refine aY aF 1 [] [] ?_
  refine aO ?_
  refine aU aF 3 ?_
  refine bR 1 ?_
  obtain ⟨x1, hx2, h0⟩ := aW h0
  refine cA (OQ l0 45 [] [] (fun y0 => uQ y0) (fun y0 r h => TP y0 r h) _ hx2) hO ?_
  intro H hO
  refine bC ?_
  refine bH [(2, (aK x1))] ?_
  refine bK ?_
  obtain rfl := oI h0
  exact aJ (Q_r hO)

theorem LJ (l0 : (List aC)) (r : (List aC)) (h0 : rZ l0 = some r) : bY Tryz.prog 21 [(eL aD l0)] (.fn (.func 47) [] [(.rp (eL aD r))]) := by
  intro H0
  refine cF Tryz.func21 ?_
  have hO := aN.start H0
  unfold rZ at h0
  refine aO ?_
  refine aU aF 2 ?_
  refine fQ 1 (eL aD l0) (by kernel_rfl) (by kernel_rfl) ?_
  refine bC ?_
  refine bH [(1, (.rp (eL aD l0)))] ?_
  refine bV aF 2 [(2, (.fn (.func 47) [] [(.rp (eL aD l0))]))] ?_
  refine bK ?_
  obtain rfl := oI h0
  exact aJ (rV (x := (.fn (.func 47) [] [(.rp (eL aD l0))])) (by kernel_rfl) (aZ.refl _) ⟨rfl, hO.out⟩)

theorem GF {σ : Type} (I : σ → Gs → Prop) (yield0_b : Nat) (eZ : σ → (List aG) → (List aA) → Option (σ × Bool)) (yield0_h : ∀ st a0 a1 st2 r, eZ st a0 a1 = some (st2, r) → OB Tryz.prog (yv yield0_b) I st [(eL aI a0), (eL aE a1)] st2 (aK r)) (t1 : (List aC)) (sg0 : σ) (r : σ) (h0 : nR eZ t1 sg0 = some r) : GI Tryz.prog 47 I sg0 [(yv yield0_b), (.rp (eL aD t1))] r (.tup []) := by
  intro H0 G0 hI hg
  refine JM aF Tryz.func47 (by kernel_rfl) (by kernel_rfl) (by kernel_rfl) ?_
  obtain ⟨G, hO, hI⟩ : ∃ G, aN ⟨H0, List.map (fun p : Nat × dK => p.1) G0, G⟩ H0 [] ∧ I sg0 G := ⟨G0, aN.SV hg, hI⟩
  clear hg
  unfold nR at h0
  refine aO ?_
  refine aU aF 1 ?_
  refine fQ 1 (yv yield0_b) (by kernel_rfl) (by kernel_rfl) ?_
  refine cW ?_
  refine bT [0] [(2, (.rp (yv yield0_b)))] ?_
  refine aO ?_
  refine aO ?_
  refine aU aF 3 ?_
  refine bR 1 ?_
  obtain ⟨x1, hx2, h0⟩ := aW h0
  refine cA (RE t1 _ hx2) hO ?_
  intro H hO
  refine bC ?_
  refine bT [] [(7, (aK (!x1)))] ?_
  refine bJ h0 (fun h0 => ?_) (fun h0 => ?_)
  · refine bK ?_
    obtain rfl := oI h0
    exact aJ (aQ (QM0 (.inr rfl) (rs := []) (xs := []) (x := (.tup [])) (by kernel_rfl) uC (by kernel_rfl) ⟨rfl, G, hI, hO.NP⟩))
  refine bL ?_
  refine bH [(1, (.rp (eL aD t1))), (2, (.rp (yv yield0_b)))] ?_
  refine aO ?_
  refine aU aF 2 ?_
  refine bR 1 ?_
  obtain ⟨x5, hx6, h0⟩ := aW h0
  refine cA (IW t1 _ hx6) hO ?_
  intro H hO
  refine cW ?_
  refine bT [1] [(9, (.fn (.func 75) [] [(.rp (eL aD x5))]))] ?_
  refine bO 0 ?_
  refine cL [(2, (.rp (yv yield0_b))), (9, (.fn (.func 75) [] [(.rp (eL aD x5))]))] ?_
  refine cC (fun T H => ∃ sg : σ, ∃ t9c0 : (List aC), ∃ G : Gs, Has T [(2, (.rp (yv yield0_b))), (9, (.fn (.func 75) [] [(.rp (eL aD t9c0))]))] ∧ aN ⟨H0, List.map (fun p : Nat × dK => p.1) G0, G⟩ H [] ∧ I sg G ∧ tC eZ sg t9c0 = some r) ?_ ⟨sg0, x5, G, .eq (by kernel_rfl), hO, hI, h0⟩
  clear hO hI h0
  rintro T H ⟨sg, t9c0, G, hT, hO, hI, h0⟩
  refine bA (l := [(2, (.rp (yv yield0_b))), (9, (.fn (.func 75) [] [(.rp (eL aD t9c0))]))]) hT ?_
  clear hT
  unfold tC at h0
  obtain ⟨o0, hl0, h0⟩ := aW h0
  refine HR (fid := 75) (ys := []) (cs := [(.rp (eL aD t9c0))]) #[10, 11] (fun (A : ET) (b lL : Nat) (st : (σ) ⊕ (σ)) (G' : Gs) => Sum.elim (fun (s : σ) => ∃ G : Gs, I s G ∧ G' = (lL, .raw (kM b A .ready none)) :: (up [] ++ G)) (fun (s : σ) => ∃ G : Gs, I s G ∧ G' = (lL, .raw (kM b A .done (some .ret))) :: (up [] ++ G)) st) (.inl sg) o0 (.tup []) (by kernel_rfl) (by kernel_rfl) (by kernel_rfl) hO (fun _ _ => ⟨G, hI, rfl⟩) ?_ ?_
  · intro b lL
    clear hO hI h0
    refine EC _ b (fun st t10 t11 => rnd (fun (s : σ) => kF eZ t9c0 s t10 t11) st) ?_ t9c0 _ _ hl0
    intro st t10 t11 out1 rr hr
    obtain ⟨s, rfl, h1, rfl⟩ := XW hr
    clear hr
    intro Hr Gr hi hg
    obtain ⟨sg, rfl⟩ : ∃ x, x = s := ⟨_, rfl⟩
    dsimp only [Sum.elim_inl] at hi
    obtain ⟨G, hI, rfl⟩ := hi
    replace h1 : kF eZ t9c0 sg t10 t11 = some out1 := h1
    unfold kF at h1
    obtain ⟨E1, hE, hO⟩ := AG hg
    refine AJ (HH (hO.gm 0 _ rfl).2 (by kernel_rfl) (by kernel_rfl) ?_)
    refine cL [(2, (.rp (yv yield0_b))), (9, (.fn (.func 75) [] [(.rp (eL aD t9c0))])), (10, (eL aI t10)), (11, (eL aE t11))] ?_
    refine aY aF 1 [9, 10] [(3, (eL aI t10))] ?_
    refine aU aF 1 ?_
    refine bC ?_
    refine cN [(2, (.rp (yv yield0_b))), (3, (eL aI t10)), (4, (eL aE t11))] ?_
    refine aJ (⟨rfl, rfl, (hO.gm 0 _ rfl).2, ?_⟩)
    intro o1 ho1
    replace hO := hO.zS o1
    refine bO 1 ?_
    refine aO ?_
    refine aU aF 5 ?_
    refine bR 3 ?_
    obtain ⟨x7, hx8, h1⟩ := aW h1
    refine aDh (I := I) (yv yield0_b) [(eL aI t10), (eL aE t11)] (aK x7.2) (by kernel_rfl) (by kernel_rfl) (yield0_h _ t10 t11 x7.1 x7.2 hx8) hO hI ?_
    intro G H hO hI
    refine bC ?_
    refine bH [(16, (aK (!x7.2)))] ?_
    refine bJ h1 (fun h1 => ?_) (fun h1 => ?_)
    · refine bK ?_
      refine cN [] ?_
      obtain rfl := oI h1
      exact aJ (bN (⟨(gS hO hE ho1 .dead).1, rfl, _, ⟨G, hI, rfl⟩, (gS hO hE ho1 _).2⟩))
    refine bL ?_
    refine cN [] ?_
    obtain rfl := oI h1
    exact aJ (aV (⟨(gS hO hE ho1 .dead).1, rfl, _, ⟨G, hI, rfl⟩, (gS hO hE ho1 _).2⟩))
  · intro b lD10 lL H' G' hi hO
    rcases o0 with s | s
    · dsimp only [Sum.elim_inl] at hi
      obtain ⟨G, hI, rfl⟩ := hi
      replace h0 : (some s) = some r := h0
      obtain ⟨hlL, hO⟩ := sW hO
      refine ⟨_, _, hlL, (by intro e; cases e), ?_⟩
      obtain rfl := oI h0
      have hD := (hO.gm 0 _ rfl).2
      replace hO := (hO.zS .dead).zA
      exact aJ (aV (QM1 (.inl rfl) hD (rs := []) (xs := []) (x := (.tup [])) (by kernel_rfl) uC (by kernel_rfl) ⟨rfl, G, hI, hO.NP⟩))
    · dsimp only [Sum.elim_inr] at hi
      obtain ⟨G, hI, rfl⟩ := hi
      replace h0 : (some s) = some r := h0
      obtain ⟨hlL, hO⟩ := sW hO
      refine ⟨_, _, hlL, (by intro e; cases e), ?_⟩
      refine bK ?_
      obtain rfl := oI h0
      have hD := (hO.gm 0 _ rfl).2
      replace hO := (hO.zS .dead).zA
      exact aJ (bN (QM1 (.inr rfl) hD (rs := []) (xs := []) (x := (.tup [])) (by kernel_rfl) uC (by kernel_rfl) ⟨rfl, G, hI, hO.NP⟩))

theorem PA (f0 : (List aA)) (r : Int) (h0 : tO f0 = some r) : bY Tryz.prog 22 [(eL aE f0)] (eI r) := by
  intro H0
  refine cF Tryz.func22 ?_
  have hO := aN.start H0
  unfold tO at h0
  refine aY aF 1 [] [] ?_
  refine aY aF 1 [] [(3, (eI (0 : Int)))] ?_
  refine cH (fun T H => ∃ n3 : Int, Has T [(3, (eI n3))] ∧ aN ⟨H0, [], []⟩ H [] ∧ yK n3 = some r) ?_ ?_
  · clear hO h0
    rintro T H ⟨n3, hT, hO, h0⟩
    refine bA hT ?_
    clear hT
    unfold yK at h0
    refine bV aF 2 [(2, (eI n3))] ?_
    refine bK ?_
    obtain rfl := oI h0
    exact aJ (Q_r hO)
  refine aY aF 3 [0] [(6, (eL aE f0)), (7, (eI (lN f0))), (8, (eI (0 : Int)))] ?_
  refine bO 0 ?_
  refine cL [(3, (eI (0 : Int))), (6, (eL aE f0)), (7, (eI (lN f0))), (8, (eI (0 : Int)))] ?_
  refine cC (fun T H => ∃ n3 : Int, ∃ t6 : (List aA), ∃ t7 : Int, ∃ t8 : Int, Has T [(3, (eI n3)), (6, (eL aE t6)), (7, (eI t7)), (8, (eI t8))] ∧ aN ⟨H0, [], []⟩ H [] ∧ DB n3 t6 t7 t8 = some r) ?_ ⟨(0 : Int), f0, (lN f0), (0 : Int), .eq (by kernel_rfl), hO, h0⟩
  clear hO h0
  rintro T H ⟨n3, t6, t7, t8, hT, hO, h0⟩
  refine bA hT ?_
  clear hT
  unfold DB at h0
  obtain ⟨rr0, hl0, h0⟩ := aW h0
  refine bX (by kernel_rfl) (fun (s : Int × Int) T H => Has T [(3, (eI s.1)), (6, (eL aE t6)), (7, (eI t7)), (8, (eI s.2))] ∧ aN ⟨H0, [], []⟩ H []) hl0 ⟨.eq (by kernel_rfl), hO⟩ ?_
  clear hO
  rintro k0 s out1 T H ⟨hT, hO⟩ h1 ho0
  obtain ⟨n3, t8⟩ := s
  replace h1 : pW t6 t7 n3 t8 = some out1 := h1
  try dsimp only at hT
  refine bA hT ?_
  clear hT
  unfold pW at h1
  refine aY aF 1 [] [(9, (aK (decide (t8 < t7))))] ?_
  refine aO ?_
  refine bJ h1 (fun h1 => ?_) (fun h1 => ?_)
  · refine bL ?_
    refine bH [(3, (eI n3)), (6, (eL aE t6)), (7, (eI t7)), (8, (eI t8))] ?_
    refine aO ?_
    refine bO 1 ?_
    refine aO ?_
    refine aU aF 4 ?_
    obtain ⟨c2, h1⟩ := bE h1
    refine jT 2 [0 ≤ t8 ∧ t8 < (lN t6)] ⟨c2, trivial⟩ ?_
    refine nL 2 (aE (aA.mk 0 0)) (by kernel_rfl) (by kernel_rfl) hO ?_
    intro lo3 H hO
    refine kB 0 lo3 2 0 (aE (aA.mk 0 0)) (aE (gD t6 t8)) [(aE (aA.mk 0 0))] [(lo3, 2, [(aE (gD t6 t8))])] hO rfl (by kernel_rfl) ?_
    intro H hO
    refine cW ?_
    refine bT [] [(5, (.lp lo3 0 0))] ?_
    refine aU aF 6 ?_
    refine bR 2 ?_
    refine kQ 0 lo3 2 0 (aE (gD t6 t8)) (eI ((gD t6 t8).Net)) [(aE (gD t6 t8))] hO rfl ?_
    refine bC ?_
    refine cN [(3, (eI (wR (n3 + (if (0 : Int) > ((gD t6 t8).Net) then (0 : Int) else ((gD t6 t8).Net)))))), (6, (eL aE t6)), (7, (eI t7)), (8, (eI t8))] ?_
    replace hO := hO.pick (L' := []) [] (by decide) (by kernel_rfl)
    refine aJ (aV (aH (?_)))
    refine aU aF 2 ?_
    refine bC ?_
    exact aJ (aH (⟨rfl, _, (oI h1).symm, .eq (by kernel_rfl), hO⟩))
  refine cV 0 ?_
  obtain rfl := oI h1
  obtain rfl : _ = rr0 := ho0
  replace h0 : yK n3 = some r := h0
  exact aJ (aS (aS (bM (aH (⟨rfl, _, .eq (by kernel_rfl), hO, h0⟩)))))

theorem FN (t0 : Int) (lo1p : Nat) (lo1q : Nat) (t1 : (List aT)) (lo2p : Nat) (t2 : Int) (r : ((List aT) × Int)) (h0 : mT t0 t1 t2 = some r) : RG Tryz.prog 49 [(eI t0), (.lp lo1p 0 0), (.lp lo2p 0 0)] [(lo1p, 1, [(.msl 2 lo1q 0 (List.length t1))]), (lo1q, 2, List.map bG t1), (lo2p, 1, [(eI t2)])] (fun x L => ∃ lo1n : Nat, x = (.tup []) ∧ L = [(lo1p, 1, [(.msl 2 lo1n 0 (List.length r.1))]), (lo1n, 2, List.map bG r.1), (lo2p, 1, [(eI r.2)])]) := by
  intro F H0 hO
  obtain ⟨Fh, Fe, Fg⟩ := F
  refine cF Tryz.func49 ?_
  unfold mT at h0
  refine aO ?_
  refine aU aF 6 ?_
  refine kQ 0 lo1p 1 0 (.msl 2 lo1q 0 (List.length t1)) (.msl 2 lo1q 0 (List.length t1)) [(.msl 2 lo1q 0 (List.length t1))] hO rfl ?_
  refine kQ 2 lo2p 1 0 (eI t2) (eI t2) [(eI t2)] hO rfl ?_
  obtain ⟨c1, h0⟩ := bE h0
  refine jT 5 [0 ≤ t2 ∧ t2 < (lN t1)] ⟨c1, trivial⟩ ?_
  refine kB 1 lo1q 2 (0 + Int.toNat t2) (bG (gD t1 t2)) (bG (aT.mk (gD t1 t2).From t0)) (List.map bG t1) [(lo1p, 1, [(.msl 2 lo1q 0 (List.length t1))]), (lo1q, 2, List.map bG (List.set t1 (Int.toNat t2) (aT.mk (gD t1 t2).From t0))), (lo2p, 1, [(eI t2)])] hO (dB c1) (by simp only [List.set, pR]) ?_
  intro H hO
  refine cW ?_
  replace hO : aN ⟨Fh, Fe, Fg⟩ H [(lo1p, 1, [(.msl 2 lo1q 0 (List.length (List.set t1 (Int.toNat t2) (aT.mk (gD t1 t2).From t0))))]), (lo1q, 2, List.map bG (List.set t1 (Int.toNat t2) (aT.mk (gD t1 t2).From t0))), (lo2p, 1, [(eI t2)])] := by simpa only [List.length_set] using hO
  refine bT [0] [] ?_
  refine aU aF 3 ?_
  refine kQ 2 lo2p 1 0 (eI t2) (eI t2) [(eI t2)] hO rfl ?_
  refine bR 2 ?_
  refine kB 2 lo2p 1 0 (eI t2) (eI (wR (t2 + (1 : Int)))) [(eI t2)] [(lo1p, 1, [(.msl 2 lo1q 0 (List.length (List.set t1 (Int.toNat t2) (aT.mk (gD t1 t2).From t0))))]), (lo1q, 2, List.map bG (List.set t1 (Int.toNat t2) (aT.mk (gD t1 t2).From t0))), (lo2p, 1, [(eI (wR (t2 + (1 : Int))))])] hO rfl (by kernel_rfl) ?_
  intro H hO
  refine cW ?_
  obtain rfl := oI h0
  exact aJ (aFu hO ⟨lo1q, rfl, rfl⟩)

theorem YA (f0 : (List aA)) (r : (List aT)) (h0 : xT f0 = some r) : bY Tryz.prog 23 [(eL aE f0)] (eL bG r) := by
  intro H0
  refine cF Tryz.func23 ?_
  have hO := aN.start H0
  unfold xT at h0
  refine aY aF 1 [] [] ?_
  refine aO ?_
  refine aU aF 5 ?_
  refine bR 1 ?_
  obtain ⟨x1, hx2, h0⟩ := aW h0
  refine cA (PA f0 _ hx2) hO ?_
  intro H hO
  obtain ⟨c4, h0⟩ := bE h0
  refine NZ 2 16 x1 (by kernel_rfl) (by kernel_rfl) c4 hO ?_
  intro lo5 H hO
  refine vG 1 (.sl true 0 (fun _ => .bad)) (eL bG ([])) (by kernel_rfl) (by kernel_rfl) (by kernel_rfl) (dG) (by kernel_rfl) (by kernel_rfl) hO ?_
  intro lo6 H hO
  refine kB 1 lo6 1 0 (eL bG ([])) (.msl 2 lo5 0 (List.length ([] : List aT))) [(eL bG ([]))] [(lo5, 2, List.map bG ([] : List aT)), (lo6, 1, [(.msl 2 lo5 0 (List.length ([] : List aT)))])] hO rfl (by kernel_rfl) ?_
  intro H hO
  refine cW ?_
  replace hO := hO.pick (L' := [(lo6, 1, [(.msl 2 lo5 0 (List.length ([] : List aT)))]), (lo5, 2, List.map bG ([] : List aT))]) [1, 0] (by decide) (by kernel_rfl)
  refine bT [] [(3, (.lp lo6 0 0))] ?_
  refine aO ?_
  refine aU aF 2 ?_
  refine nL 1 (eI 0) (by kernel_rfl) (by kernel_rfl) hO ?_
  intro lo7 H hO
  refine kB 2 lo7 1 0 (eI 0) (eI (0 : Int)) [(eI 0)] [(lo6, 1, [(.msl 2 lo5 0 (List.length ([] : List aT)))]), (lo5, 2, List.map bG ([] : List aT)), (lo7, 1, [(eI (0 : Int))])] hO rfl (by kernel_rfl) ?_
  intro H hO
  refine cW ?_
  refine bT [] [(4, (.lp lo7 0 0))] ?_
  refine aY aF 2 [] [(5, (.fn (.func 49) [] [(.lp lo6 0 0), (.lp lo7 0 0)]))] ?_
  refine cH (fun T H => ∃ out3 : List aT, ∃ cI : Int, ∃ lo8 : Nat, Has T [(3, (.lp lo6 0 0)), (4, (.lp lo7 0 0)), (5, (.fn (.func 49) [] [(.lp lo6 0 0), (.lp lo7 0 0)]))] ∧ aN ⟨H0, [], []⟩ H [(lo6, 1, [(.msl 2 lo8 0 (List.length out3))]), (lo8, 2, List.map bG out3), (lo7, 1, [(eI cI)])] ∧ vV out3 cI = some r) ?_ ?_
  · clear hO h0
    rintro T H ⟨out3, cI, lo8, hT, hO, h0⟩
    refine bA hT ?_
    clear hT
    unfold vV at h0
    refine cH (fun T H => ∃ out3 : List aT, ∃ lo9 : Nat, Has T [(3, (.lp lo6 0 0))] ∧ aN ⟨H0, [], []⟩ H [(lo6, 1, [(.msl 2 lo9 0 (List.length out3))]), (lo9, 2, List.map bG out3)] ∧ BN out3 = some r) ?_ ?_
    · clear hO h0
      rintro T H ⟨out3, lo9, hT, hO, h0⟩
      refine bA hT ?_
      clear hT
      unfold BN at h0
      refine aO ?_
      refine aU aF 2 ?_
      refine kQ 0 lo6 1 0 (.msl 2 lo9 0 (List.length out3)) (.msl 2 lo9 0 (List.length out3)) [(.msl 2 lo9 0 (List.length out3))] hO rfl ?_
      refine bC ?_
      refine cN [(2, (.msl 2 lo9 0 (List.length out3)))] ?_
      replace hO := hO.pick (L' := [(lo9, 2, List.map bG out3)]) [1] (by decide) (by kernel_rfl)
      refine aJ (aH (?_))
      refine bK ?_
      refine cN [(2, (.msl 2 lo9 0 (List.length out3)))] ?_
      refine tE (en := bG) out3 0 0 2 2 lo9 (List.length out3) hO (by kernel_rfl) (by kernel_rfl) (by kernel_rfl) (L' := []) (by kernel_rfl) ?_
      intro H10 hO
      obtain rfl := oI h0
      exact aJ (Q_r hO)
    refine bO 6 ?_
    refine cL [(3, (.lp lo6 0 0)), (4, (.lp lo7 0 0)), (5, (.fn (.func 49) [] [(.lp lo6 0 0), (.lp lo7 0 0)]))] ?_
    refine cC (fun T H => ∃ out3 : List aT, ∃ cI : Int, ∃ lo12 : Nat, Has T [(3, (.lp lo6 0 0)), (4, (.lp lo7 0 0)), (5, (.fn (.func 49) [] [(.lp lo6 0 0), (.lp lo7 0 0)]))] ∧ aN ⟨H0, [], []⟩ H [(lo6, 1, [(.msl 2 lo12 0 (List.length out3))]), (lo12, 2, List.map bG out3), (lo7, 1, [(eI cI)])] ∧ BO out3 cI = some r) ?_ ⟨out3, cI, lo8, .eq (by kernel_rfl), hO, h0⟩
    clear hO h0
    rintro T H ⟨out3, cI, lo12, hT, hO, h0⟩
    refine bA hT ?_
    clear hT
    unfold BO at h0
    obtain ⟨rr0, hl0, h0⟩ := aW h0
    refine bX (by kernel_rfl) (fun (s : List aT × Int) T H => ∃ lo12 : Nat, Has T [(3, (.lp lo6 0 0)), (4, (.lp lo7 0 0)), (5, (.fn (.func 49) [] [(.lp lo6 0 0), (.lp lo7 0 0)]))] ∧ aN ⟨H0, [], []⟩ H [(lo6, 1, [(.msl 2 lo12 0 (List.length s.1))]), (lo12, 2, List.map bG s.1), (lo7, 1, [(eI s.2)])]) hl0 ⟨lo12, .eq (by kernel_rfl), hO⟩ ?_
    clear hO
    rintro k0 s out1 T H ⟨lo12, hT, hO⟩ h1 ho0
    obtain ⟨out3, cI⟩ := s
    replace h1 : mM out3 cI = some out1 := h1
    try dsimp only at hT
    refine bA hT ?_
    clear hT
    unfold mM at h1
    refine aO ?_
    refine aO ?_
    refine aU aF 4 ?_
    refine kQ 2 lo7 1 0 (eI cI) (eI cI) [(eI cI)] hO rfl ?_
    refine kQ 0 lo6 1 0 (.msl 2 lo12 0 (List.length out3)) (.msl 2 lo12 0 (List.length out3)) [(.msl 2 lo12 0 (List.length out3))] hO rfl ?_
    refine bC ?_
    refine bT [] [(43, (aK (decide (cI < (lN out3)))))] ?_
    refine bJ h1 (fun h1 => ?_) (fun h1 => ?_)
    · refine bL ?_
      refine bH [(3, (.lp lo6 0 0)), (4, (.lp lo7 0 0)), (5, (.fn (.func 49) [] [(.lp lo6 0 0), (.lp lo7 0 0)]))] ?_
      refine bO 7 ?_
      refine aU aF 2 ?_
      refine bR 1 ?_
      obtain ⟨x14, hx15, h1⟩ := aW h1
      refine aEJ [] [0, 1, 2] (FN (1125899906842624 : Int) lo6 lo12 out3 lo7 cI _ hx15) hO ?_
      intro r17 L18 H hP19 hO
      obtain ⟨lo16, rfl, rfl⟩ := hP19
      replace hO : aN ⟨H0, [], []⟩ H [(lo6, 1, [(.msl 2 lo16 0 (List.length x14.1))]), (lo16, 2, List.map bG x14.1), (lo7, 1, [(eI x14.2)])] := hO
      refine cW ?_
      exact aJ (aV (aH (⟨rfl, _, (oI h1).symm, _, .eq (by kernel_rfl), hO⟩)))
    refine cV 6 ?_
    replace hO := hO.pick (L' := [(lo6, 1, [(.msl 2 lo12 0 (List.length out3))]), (lo12, 2, List.map bG out3)]) [0, 1] (by decide) (by kernel_rfl)
    obtain rfl := oI h1
    obtain rfl : _ = rr0 := ho0
    replace h0 : BN out3 = some r := h0
    exact aJ (aS (aS (bM (aH (⟨rfl, _, _, .eq (by kernel_rfl), hO, h0⟩)))))
  refine bV aF 3 [(3, (.lp lo6 0 0)), (4, (.lp lo7 0 0)), (5, (.fn (.func 49) [] [(.lp lo6 0 0), (.lp lo7 0 0)])), (12, (eL aE f0)), (13, (eI (lN f0))), (14, (eI (0 : Int)))] ?_
  refine bO 0 ?_
  refine cL [(3, (.lp lo6 0 0)), (4, (.lp lo7 0 0)), (5, (.fn (.func 49) [] [(.lp lo6 0 0), (.lp lo7 0 0)])), (12, (eL aE f0)), (13, (eI (lN f0))), (14, (eI (0 : Int)))] ?_
  refine cC (fun T H => ∃ out3 : List aT, ∃ cI : Int, ∃ t12 : (List aA), ∃ t13 : Int, ∃ t14 : Int, ∃ lo21 : Nat, Has T [(3, (.lp lo6 0 0)), (4, (.lp lo7 0 0)), (5, (.fn (.func 49) [] [(.lp lo6 0 0), (.lp lo7 0 0)])), (12, (eL aE t12)), (13, (eI t13)), (14, (eI t14))] ∧ aN ⟨H0, [], []⟩ H [(lo6, 1, [(.msl 2 lo21 0 (List.length out3))]), (lo21, 2, List.map bG out3), (lo7, 1, [(eI cI)])] ∧ BA out3 cI t12 t13 t14 = some r) ?_ ⟨([] : List aT), (0 : Int), f0, (lN f0), (0 : Int), lo5, .eq (by kernel_rfl), hO, h0⟩
  clear hO h0
  rintro T H ⟨out3, cI, t12, t13, t14, lo21, hT, hO, h0⟩
  refine bA hT ?_
  clear hT
  unfold BA at h0
  obtain ⟨rr0, hl0, h0⟩ := aW h0
  refine bX (by kernel_rfl) (fun (s : List aT × Int × Int) T H => ∃ lo21 : Nat, Has T [(3, (.lp lo6 0 0)), (4, (.lp lo7 0 0)), (5, (.fn (.func 49) [] [(.lp lo6 0 0), (.lp lo7 0 0)])), (12, (eL aE t12)), (13, (eI t13)), (14, (eI s.2.2))] ∧ aN ⟨H0, [], []⟩ H [(lo6, 1, [(.msl 2 lo21 0 (List.length s.1))]), (lo21, 2, List.map bG s.1), (lo7, 1, [(eI s.2.1)])]) hl0 ⟨lo21, .eq (by kernel_rfl), hO⟩ ?_
  clear hO
  rintro k0 s out1 T H ⟨lo21, hT, hO⟩ h1 ho0
  obtain ⟨out3, cI, t14⟩ := s
  replace h1 : oG t12 t13 out3 cI t14 = some out1 := h1
  try dsimp only at hT
  refine bA hT ?_
  clear hT
  unfold oG at h1
  refine aY aF 1 [] [(15, (aK (decide (t14 < t13))))] ?_
  refine aO ?_
  refine bJ h1 (fun h1 => ?_) (fun h1 => ?_)
  · refine bL ?_
    refine bH [(3, (.lp lo6 0 0)), (4, (.lp lo7 0 0)), (5, (.fn (.func 49) [] [(.lp lo6 0 0), (.lp lo7 0 0)])), (12, (eL aE t12)), (13, (eI t13)), (14, (eI t14))] ?_
    refine cH (fun T H => ∃ out3 : List aT, ∃ cI : Int, ∃ lo23 : Nat, Has T [(3, (.lp lo6 0 0)), (4, (.lp lo7 0 0)), (5, (.fn (.func 49) [] [(.lp lo6 0 0), (.lp lo7 0 0)])), (12, (eL aE t12)), (13, (eI t13)), (14, (eI t14))] ∧ aN ⟨H0, [], []⟩ H [(lo6, 1, [(.msl 2 lo23 0 (List.length out3))]), (lo23, 2, List.map bG out3), (lo7, 1, [(eI cI)])] ∧ vN out3 cI t12 t13 t14 = some out1) ?_ ?_
    · clear hO h1
      rintro T H ⟨out3, cI, lo23, hT, hO, h1⟩
      refine bA hT ?_
      clear hT
      unfold vN at h1
      refine aU aF 2 ?_
      refine bC ?_
      exact aJ (aH (⟨rfl, _, (oI h1).symm, _, .eq (by kernel_rfl), hO⟩))
    refine bO 1 ?_
    refine aO ?_
    refine aU aF 4 ?_
    obtain ⟨c24, h1⟩ := bE h1
    refine jT 2 [0 ≤ t14 ∧ t14 < (lN t12)] ⟨c24, trivial⟩ ?_
    refine nL 2 (aE (aA.mk 0 0)) (by kernel_rfl) (by kernel_rfl) hO ?_
    intro lo25 H hO
    refine kB 3 lo25 2 0 (aE (aA.mk 0 0)) (aE (gD t12 t14)) [(aE (aA.mk 0 0))] [(lo6, 1, [(.msl 2 lo21 0 (List.length out3))]), (lo21, 2, List.map bG out3), (lo7, 1, [(eI cI)]), (lo25, 2, [(aE (gD t12 t14))])] hO rfl (by kernel_rfl) ?_
    intro H hO
    refine cW ?_
    refine bT [] [(7, (.lp lo25 0 0))] ?_
    refine cH (fun T H => ∃ out3 : List aT, ∃ cI : Int, ∃ j7 : aA, ∃ lo26 : Nat, Has T [(3, (.lp lo6 0 0)), (4, (.lp lo7 0 0)), (5, (.fn (.func 49) [] [(.lp lo6 0 0), (.lp lo7 0 0)])), (7, (.lp lo25 0 0)), (12, (eL aE t12)), (13, (eI t13)), (14, (eI t14))] ∧ aN ⟨H0, [], []⟩ H [(lo6, 1, [(.msl 2 lo26 0 (List.length out3))]), (lo26, 2, List.map bG out3), (lo7, 1, [(eI cI)]), (lo25, 2, [(aE j7)])] ∧ wL out3 cI j7 t12 t13 t14 = some out1) ?_ ?_
    · clear hO h1
      rintro T H ⟨out3, cI, j7, lo26, hT, hO, h1⟩
      refine bA hT ?_
      clear hT
      unfold wL at h1
      refine aO ?_
      refine aU aF 4 ?_
      refine bR 1 ?_
      refine kQ 3 lo25 2 0 (aE j7) (eI j7.Net) [(aE j7)] hO rfl ?_
      refine bC ?_
      refine bT [] [(31, (eI (wR (0 - j7.Net)))), (32, (eI (0 : Int)))] ?_
      refine bO 4 ?_
      refine cL [(3, (.lp lo6 0 0)), (4, (.lp lo7 0 0)), (5, (.fn (.func 49) [] [(.lp lo6 0 0), (.lp lo7 0 0)])), (7, (.lp lo25 0 0)), (12, (eL aE t12)), (13, (eI t13)), (14, (eI t14)), (31, (eI (wR (0 - j7.Net)))), (32, (eI (0 : Int)))] ?_
      refine cC (fun T H => ∃ out3 : List aT, ∃ cI : Int, ∃ j7 : aA, ∃ t31 : Int, ∃ t32 : Int, ∃ lo28 : Nat, Has T [(3, (.lp lo6 0 0)), (4, (.lp lo7 0 0)), (5, (.fn (.func 49) [] [(.lp lo6 0 0), (.lp lo7 0 0)])), (7, (.lp lo25 0 0)), (12, (eL aE t12)), (13, (eI t13)), (14, (eI t14)), (31, (eI t31)), (32, (eI t32))] ∧ aN ⟨H0, [], []⟩ H [(lo6, 1, [(.msl 2 lo28 0 (List.length out3))]), (lo28, 2, List.map bG out3), (lo7, 1, [(eI cI)]), (lo25, 2, [(aE j7)])] ∧ BR out3 cI j7 t12 t13 t14 t31 t32 = some out1) ?_ ⟨out3, cI, j7, wR (0 - j7.Net), (0 : Int), lo26, .eq (by kernel_rfl), hO, h1⟩
      clear hO h1
      rintro T H ⟨out3, cI, j7, t31, t32, lo28, hT, hO, h1⟩
      refine bA hT ?_
      clear hT
      unfold BR at h1
      obtain ⟨rr1, hl1, h1⟩ := aW h1
      refine bX (by kernel_rfl) (fun (s : List aT × Int × aA × Int) T H => ∃ lo28 : Nat, Has T [(3, (.lp lo6 0 0)), (4, (.lp lo7 0 0)), (5, (.fn (.func 49) [] [(.lp lo6 0 0), (.lp lo7 0 0)])), (7, (.lp lo25 0 0)), (12, (eL aE t12)), (13, (eI t13)), (14, (eI t14)), (31, (eI t31)), (32, (eI s.2.2.2))] ∧ aN ⟨H0, [], []⟩ H [(lo6, 1, [(.msl 2 lo28 0 (List.length s.1))]), (lo28, 2, List.map bG s.1), (lo7, 1, [(eI s.2.1)]), (lo25, 2, [(aE s.2.2.1)])]) hl1 ⟨lo28, .eq (by kernel_rfl), hO⟩ ?_
      clear hO
      rintro k1 s out2 T H ⟨lo28, hT, hO⟩ h2 ho1
      obtain ⟨out3, cI, j7, t32⟩ := s
      replace h2 : mG t12 t13 t14 t31 out3 cI j7 t32 = some out2 := h2
      try dsimp only at hT
      refine bA hT ?_
      clear hT
      unfold mG at h2
      refine aY aF 1 [] [(33, (aK (decide (t32 < t31))))] ?_
      refine aO ?_
      refine bJ h2 (fun h2 => ?_) (fun h2 => ?_)
      · refine bL ?_
        refine bH [(3, (.lp lo6 0 0)), (4, (.lp lo7 0 0)), (5, (.fn (.func 49) [] [(.lp lo6 0 0), (.lp lo7 0 0)])), (7, (.lp lo25 0 0)), (12, (eL aE t12)), (13, (eI t13)), (14, (eI t14)), (31, (eI t31)), (32, (eI t32))] ?_
        refine aO ?_
        refine bO 5 ?_
        refine aU aF 4 ?_
        refine bR 2 ?_
        refine kQ 3 lo25 2 0 (aE j7) (eI j7.At) [(aE j7)] hO rfl ?_
        obtain ⟨x30, hx31, h2⟩ := aW h2
        refine aEJ [(lo25, 2, [(aE j7)])] [0, 1, 2, 3] (FN j7.At lo6 lo28 out3 lo7 cI _ hx31) hO ?_
        intro r33 L34 H hP35 hO
        obtain ⟨lo32, rfl, rfl⟩ := hP35
        replace hO : aN ⟨H0, [], []⟩ H [(lo6, 1, [(.msl 2 lo32 0 (List.length x30.1))]), (lo32, 2, List.map bG x30.1), (lo7, 1, [(eI x30.2)]), (lo25, 2, [(aE j7)])] := hO
        refine cW ?_
        refine cN [(3, (.lp lo6 0 0)), (4, (.lp lo7 0 0)), (5, (.fn (.func 49) [] [(.lp lo6 0 0), (.lp lo7 0 0)])), (7, (.lp lo25 0 0)), (12, (eL aE t12)), (13, (eI t13)), (14, (eI t14)), (31, (eI t31)), (32, (eI t32))] ?_
        refine aJ (aV (aH (?_)))
        refine aU aF 2 ?_
        refine bC ?_
        exact aJ (aH (⟨rfl, _, (oI h2).symm, _, .eq (by kernel_rfl), hO⟩))
      refine cV 4 ?_
      replace hO := hO.pick (L' := [(lo6, 1, [(.msl 2 lo28 0 (List.length out3))]), (lo28, 2, List.map bG out3), (lo7, 1, [(eI cI)])]) [0, 1, 2] (by decide) (by kernel_rfl)
      obtain rfl := oI h2
      obtain rfl : _ = rr1 := ho1
      replace h1 : vN out3 cI t12 t13 t14 = some out1 := h1
      exact aJ (aS (aS (bM (aV (aH (⟨rfl, _, _, _, .eq (by kernel_rfl), hO, h1⟩))))))
    refine aO ?_
    refine aU aF 3 ?_
    refine bR 1 ?_
    refine kQ 3 lo25 2 0 (aE (gD t12 t14)) (eI ((gD t12 t14).Net)) [(aE (gD t12 t14))] hO rfl ?_
    refine bC ?_
    refine bT [] [(19, (eI ((gD t12 t14).Net))), (20, (eI (0 : Int)))] ?_
    refine bO 2 ?_
    refine cL [(3, (.lp lo6 0 0)), (4, (.lp lo7 0 0)), (5, (.fn (.func 49) [] [(.lp lo6 0 0), (.lp lo7 0 0)])), (7, (.lp lo25 0 0)), (12, (eL aE t12)), (13, (eI t13)), (14, (eI t14)), (19, (eI ((gD t12 t14).Net))), (20, (eI (0 : Int)))] ?_
    refine cC (fun T H => ∃ out3 : List aT, ∃ cI : Int, ∃ j7 : aA, ∃ t19 : Int, ∃ t20 : Int, ∃ lo37 : Nat, Has T [(3, (.lp lo6 0 0)), (4, (.lp lo7 0 0)), (5, (.fn (.func 49) [] [(.lp lo6 0 0), (.lp lo7 0 0)])), (7, (.lp lo25 0 0)), (12, (eL aE t12)), (13, (eI t13)), (14, (eI t14)), (19, (eI t19)), (20, (eI t20))] ∧ aN ⟨H0, [], []⟩ H [(lo6, 1, [(.msl 2 lo37 0 (List.length out3))]), (lo37, 2, List.map bG out3), (lo7, 1, [(eI cI)]), (lo25, 2, [(aE j7)])] ∧ BD out3 cI j7 t12 t13 t14 t19 t20 = some out1) ?_ ⟨out3, cI, gD t12 t14, (gD t12 t14).Net, (0 : Int), lo21, .eq (by kernel_rfl), hO, h1⟩
    clear hO h1
    rintro T H ⟨out3, cI, j7, t19, t20, lo37, hT, hO, h1⟩
    refine bA hT ?_
    clear hT
    unfold BD at h1
    obtain ⟨rr1, hl1, h1⟩ := aW h1
    refine bX (by kernel_rfl) (fun (s : List aT × Int × aA × Int) T H => ∃ lo37 : Nat, Has T [(3, (.lp lo6 0 0)), (4, (.lp lo7 0 0)), (5, (.fn (.func 49) [] [(.lp lo6 0 0), (.lp lo7 0 0)])), (7, (.lp lo25 0 0)), (12, (eL aE t12)), (13, (eI t13)), (14, (eI t14)), (19, (eI t19)), (20, (eI s.2.2.2))] ∧ aN ⟨H0, [], []⟩ H [(lo6, 1, [(.msl 2 lo37 0 (List.length s.1))]), (lo37, 2, List.map bG s.1), (lo7, 1, [(eI s.2.1)]), (lo25, 2, [(aE s.2.2.1)])]) hl1 ⟨lo37, .eq (by kernel_rfl), hO⟩ ?_
    clear hO
    rintro k1 s out2 T H ⟨lo37, hT, hO⟩ h2 ho1
    obtain ⟨out3, cI, j7, t20⟩ := s
    replace h2 : mK t12 t13 t14 t19 out3 cI j7 t20 = some out2 := h2
    try dsimp only at hT
    refine bA hT ?_
    clear hT
    unfold mK at h2
    refine aY aF 1 [] [(21, (aK (decide (t20 < t19))))] ?_
    refine aO ?_
    refine bJ h2 (fun h2 => ?_) (fun h2 => ?_)
    · refine bL ?_
      refine bH [(3, (.lp lo6 0 0)), (4, (.lp lo7 0 0)), (5, (.fn (.func 49) [] [(.lp lo6 0 0), (.lp lo7 0 0)])), (7, (.lp lo25 0 0)), (12, (eL aE t12)), (13, (eI t13)), (14, (eI t14)), (19, (eI t19)), (20, (eI t20))] ?_
      refine aO ?_
      refine bO 3 ?_
      refine aU aF 7 ?_
      refine kQ 0 lo6 1 0 (.msl 2 lo37 0 (List.length out3)) (.msl 2 lo37 0 (List.length out3)) [(.msl 2 lo37 0 (List.length out3))] hO rfl ?_
      refine bR 2 ?_
      refine kQ 3 lo25 2 0 (aE j7) (eI j7.At) [(aE j7)] hO rfl ?_
      refine bR 4 ?_
      refine iM (xs := [(bG (aT.mk j7.At 0))]) (k := 2) (by kernel_rfl) (by kernel_rfl) ?_
      obtain ⟨c40, h2⟩ := bE h2
      refine rD (e := bG) out3 ([aT.mk j7.At 0]) 1 lo37 2 16 (cZ [(bG (aT.mk j7.At 0))]) (fun lo39 => [(lo6, 1, [(.msl 2 lo37 0 (List.length out3))]), (lo39, 2, List.map bG (out3 ++ ([aT.mk j7.At 0]))), (lo7, 1, [(eI cI)]), (lo25, 2, [(aE j7)])]) (by kernel_rfl) (by kernel_rfl) hO (by kernel_rfl) (by kernel_rfl) c40 (fun _ => by kernel_rfl) ?_
      intro lo39 H hO
      refine kB 0 lo6 1 0 (.msl 2 lo37 0 (List.length out3)) (.msl 2 lo39 0 (List.length (out3 ++ ([aT.mk j7.At 0])))) [(.msl 2 lo37 0 (List.length out3))] [(lo6, 1, [(.msl 2 lo39 0 (List.length (out3 ++ ([aT.mk j7.At 0]))))]), (lo39, 2, List.map bG (out3 ++ ([aT.mk j7.At 0]))), (lo7, 1, [(eI cI)]), (lo25, 2, [(aE j7)])] hO rfl (by kernel_rfl) ?_
      intro H hO
      refine cW ?_
      refine cN [(3, (.lp lo6 0 0)), (4, (.lp lo7 0 0)), (5, (.fn (.func 49) [] [(.lp lo6 0 0), (.lp lo7 0 0)])), (7, (.lp lo25 0 0)), (12, (eL aE t12)), (13, (eI t13)), (14, (eI t14)), (19, (eI t19)), (20, (eI t20))] ?_
      refine aJ (aV (aH (?_)))
      refine aU aF 2 ?_
      refine bC ?_
      exact aJ (aH (⟨rfl, _, (oI h2).symm, _, .eq (by kernel_rfl), hO⟩))
    refine cV 2 ?_
    obtain rfl := oI h2
    obtain rfl : _ = rr1 := ho1
    replace h1 : wL out3 cI j7 t12 t13 t14 = some out1 := h1
    exact aJ (aS (aS (bM (aH (⟨rfl, _, _, _, _, .eq (by kernel_rfl), hO, h1⟩)))))
  refine cV 0 ?_
  obtain rfl := oI h1
  obtain rfl : _ = rr0 := ho0
  replace h0 : vV out3 cI = some r := h0
  exact aJ (aS (aS (bM (aH (⟨rfl, _, _, _, .eq (by kernel_rfl), hO, h0⟩)))))

theorem WI (l0 : (List aC)) (r : ((List aM) × Int)) (h0 : wG l0 = some r) : bY Tryz.prog 7 [(eL aD l0)] (.tup [(eL aL r.1), (eI r.2)]) := by
  intro H0
  refine JM aF Tryz.func7 (by kernel_rfl) (by kernel_rfl) (by kernel_rfl) ?_
  have hO := aN.start H0
  unfold wG at h0
  refine aY aF 2 [] [] ?_
  refine aO ?_
  refine bO 0 ?_
  refine aO ?_
  refine aU aF 4 ?_
  refine bR 1 ?_
  obtain ⟨x1, hx2, h0⟩ := aW h0
  refine cA (RE l0 _ hx2) hO ?_
  intro H hO
  refine bC ?_
  refine bT [] [(12, (aK (!x1)))] ?_
  refine bJ h0 (fun h0 => ?_) (fun h0 => ?_)
  · refine bV aF 2 [(2, (.sl true 0 (fun _ => .bad))), (3, (eI (2 : Int)))] ?_
    refine bK ?_
    refine cJ (l := [(2, (eL aL ([]))), (3, (eI (2 : Int)))]) ⟨[(2, (.sl true 0 (fun _ => .bad))), (3, (eI (2 : Int)))], by kernel_rfl, rfl, ⟨dG, aZ.refl _, trivial⟩⟩ ?_
    obtain rfl := oI h0
    exact aJ (bN (aQ (QM0 (.inr rfl) (rs := [.tmp 2, .tmp 3]) (xs := [(eL aL ([])), (eI (2 : Int))]) (x := (.tup [(eL aL ([])), (eI (2 : Int))])) (by kernel_rfl) (FQ (x := (eL aL ([]))) (by kernel_rfl) (FQ (x := (eI (2 : Int))) (by kernel_rfl) uC)) (by kernel_rfl) ⟨rfl, hO.out⟩)))
  refine aO ?_
  refine aU aF 4 ?_
  refine bR 1 ?_
  obtain ⟨x5, hx6, h0⟩ := aW h0
  refine cA (XC l0 _ hx6) hO ?_
  intro H hO
  refine bC ?_
  refine bT [12] [(16, (aK (!x5)))] ?_
  refine bJ h0 (fun h0 => ?_) (fun h0 => ?_)
  · refine bV aF 2 [(2, (.sl true 0 (fun _ => .bad))), (3, (eI (20 : Int)))] ?_
    refine bK ?_
    refine cJ (l := [(2, (eL aL ([]))), (3, (eI (20 : Int)))]) ⟨[(2, (.sl true 0 (fun _ => .bad))), (3, (eI (20 : Int)))], by kernel_rfl, rfl, ⟨dG, aZ.refl _, trivial⟩⟩ ?_
    obtain rfl := oI h0
    exact aJ (bN (aQ (QM0 (.inr rfl) (rs := [.tmp 2, .tmp 3]) (xs := [(eL aL ([])), (eI (20 : Int))]) (x := (.tup [(eL aL ([])), (eI (20 : Int))])) (by kernel_rfl) (FQ (x := (eL aL ([]))) (by kernel_rfl) (FQ (x := (eI (20 : Int))) (by kernel_rfl) uC)) (by kernel_rfl) ⟨rfl, hO.out⟩)))
  refine bL ?_
  refine cN [(0, (eL aD l0))] ?_
  refine aJ (aV (aH (?_)))
  refine aO ?_
  refine aU aF 2 ?_
  refine nL 1 (eI 0) (by kernel_rfl) (by kernel_rfl) hO ?_
  intro lo9 H hO
  refine kB 0 lo9 1 0 (eI 0) (eI (0 : Int)) [(eI 0)] [(lo9, 1, [(eI (0 : Int))])] hO rfl (by kernel_rfl) ?_
  intro H hO
  refine cW ?_
  refine bT [] [(4, (.lp lo9 0 0))] ?_
  refine aO ?_
  refine aO ?_
  refine aU aF 2 ?_
  refine bR 1 ?_
  obtain ⟨x10, hx11, h0⟩ := aW h0
  refine cA (LJ l0 _ hx11) hO ?_
  intro H hO
  refine cW ?_
  refine bT [] [(21, (.fn (.func 47) [] [(.rp (eL aD x10))]))] ?_
  refine bO 1 ?_
  refine cL [(0, (eL aD l0)), (4, (.lp lo9 0 0)), (21, (.fn (.func 47) [] [(.rp (eL aD x10))]))] ?_
  refine cC (fun T H => ∃ n4 : Int, ∃ zO : (List aC), Has T [(0, (eL aD l0)), (4, (.lp lo9 0 0)), (21, (.fn (.func 47) [] [(.rp (eL aD zO))]))] ∧ aN ⟨H0, [], []⟩ H [(lo9, 1, [(eI n4)])] ∧ zN l0 n4 zO = some r) ?_ ⟨(0 : Int), x10, .eq (by kernel_rfl), hO, h0⟩
  clear hO h0
  rintro T H ⟨n4, zO, hT, hO, h0⟩
  refine bA (l := [(0, (eL aD l0)), (4, (.lp lo9 0 0)), (21, (.fn (.func 47) [] [(.rp (eL aD zO))]))]) hT ?_
  clear hT
  unfold zN at h0
  obtain ⟨o0, hl0, h0⟩ := aW h0
  refine HR (fid := 47) (ys := []) (cs := [(.rp (eL aD zO))]) #[22, 23] (fun (A : ET) (b lL : Nat) (st : (Int) ⊕ (Int)) (G' : Gs) => Sum.elim (fun (s : Int) => G' = (lL, .raw (kM b A .ready none)) :: (up [(lo9, 1, [(eI s)])] ++ [])) (fun (s : Int) => False) st) (.inl n4) o0 (.tup []) (by kernel_rfl) (by kernel_rfl) (by kernel_rfl) hO (fun _ _ => rfl) ?_ ?_
  · intro b lL
    clear hO h0
    refine GF _ b (fun st t22 t23 => rnd (fun (s : Int) => oY l0 zO s t22 t23) st) ?_ zO _ _ hl0
    intro st t22 t23 out1 rr hr
    obtain ⟨s, rfl, h1, rfl⟩ := XW hr
    clear hr
    intro Hr Gr hi hg
    obtain ⟨n4, rfl⟩ : ∃ x, x = s := ⟨_, rfl⟩
    dsimp only [Sum.elim_inl] at hi
    obtain rfl := hi
    replace h1 : oY l0 zO n4 t22 t23 = some out1 := h1
    unfold oY at h1
    obtain ⟨E1, hE, hO⟩ := AG hg
    refine AJ (HH (hO.gm 0 _ rfl).2 (by kernel_rfl) (by kernel_rfl) ?_)
    refine cL [(0, (eL aD l0)), (4, (.lp lo9 0 0)), (21, (.fn (.func 47) [] [(.rp (eL aD zO))])), (22, (eL aI t22)), (23, (eL aE t23))] ?_
    refine aU aF 1 ?_
    refine bC ?_
    refine cN [(4, (.lp lo9 0 0)), (6, (eL aE t23))] ?_
    refine aJ (⟨rfl, rfl, (hO.gm 0 _ rfl).2, ?_⟩)
    intro o1 ho1
    replace hO := hO.zS o1
    refine bO 2 ?_
    refine eS (eV [26]) aF 5 ?_
    refine lT 0 lo9 1 0 (eI n4) (eI n4) [(eI n4)] hO rfl ?_
    refine qH 2 ?_
    obtain ⟨x12, hx13, h1⟩ := aW h1
    refine yA (PA t23 _ hx13) hO ?_
    intro H hO
    refine qH 4 ?_
    refine vH 0 lo9 1 0 (eI n4) (eI (wR (n4 + x12))) [(eI n4)] [(lo9, 1, [(eI (wR (n4 + x12)))])] hO rfl (by kernel_rfl) ?_
    intro H hO
    refine DV (by kernel_rfl) ?_
    refine cN [(4, (.lp lo9 0 0))] ?_
    obtain rfl := oI h1
    exact aJ (aV (⟨(gS hO hE ho1 .dead).1, rfl, _, rfl, (gS hO hE ho1 _).2⟩))
  · intro b lD15 lL H' G' hi hO
    rcases o0 with s | s
    · dsimp only [Sum.elim_inl] at hi
      obtain rfl := hi
      replace h0 : (cond (decide ((4096 : Int) < s)) (some ([], (7 : Int))) (bI (0 ≤ s ∧ (40 : Int) * s ≤ 281474976710656 ∧ s ≤ 9223372036854775807) <| (rZ l0).bind fun x20 => uB ([] : List aM) x20)) = some r := h0
      obtain ⟨hlL, hO⟩ := sW hO
      refine ⟨_, _, hlL, (by intro e; cases e), ?_⟩
      refine cN [(0, (eL aD l0)), (4, (.lp lo9 0 0))] ?_
      refine aJ (aV (aH (?_)))
      refine aO ?_
      refine aO ?_
      refine aU aF 2 ?_
      refine kQ 0 lo9 1 0 (eI s) (eI s) [(eI s)] hO rfl ?_
      refine bC ?_
      refine bT [] [(29, (aK (decide ((4096 : Int) < s))))] ?_
      refine bJ h0 (fun h0 => ?_) (fun h0 => ?_)
      · refine aO ?_
        refine aU aF 2 ?_
        refine bC ?_
        refine cN [(2, (.sl true 0 (fun _ => .bad))), (3, (eI (7 : Int)))] ?_
        replace hO := hO.pick (L' := []) [] (by decide) (by kernel_rfl)
        refine aJ (aH (?_))
        refine bK ?_
        refine cJ (l := [(2, (eL aL ([]))), (3, (eI (7 : Int)))]) ⟨[(2, (.sl true 0 (fun _ => .bad))), (3, (eI (7 : Int)))], by kernel_rfl, rfl, ⟨dG, aZ.refl _, trivial⟩⟩ ?_
        obtain rfl := oI h0
        have hD := (hO.gm 0 _ rfl).2
        replace hO := (hO.zS .dead).zA
        exact aJ (aQ (QM1 (.inr rfl) hD (rs := [.tmp 2, .tmp 3]) (xs := [(eL aL ([])), (eI (7 : Int))]) (x := (.tup [(eL aL ([])), (eI (7 : Int))])) (by kernel_rfl) (FQ (x := (eL aL ([]))) (by kernel_rfl) (FQ (x := (eI (7 : Int))) (by kernel_rfl) uC)) (by kernel_rfl) ⟨rfl, hO.out⟩))
      refine bL ?_
      refine bH [(0, (eL aD l0)), (4, (.lp lo9 0 0))] ?_
      refine aO ?_
      refine aU aF 4 ?_
      refine kQ 0 lo9 1 0 (eI s) (eI s) [(eI s)] hO rfl ?_
      obtain ⟨c17, h0⟩ := bE h0
      refine NZ 3 40 s (by kernel_rfl) (by kernel_rfl) c17 hO ?_
      intro lo18 H hO
      refine vG 1 (.sl true 0 (fun _ => .bad)) (eL aL ([])) (by kernel_rfl) (by kernel_rfl) (by kernel_rfl) (dG) (by kernel_rfl) (by kernel_rfl) hO ?_
      intro lo19 H hO
      refine kB 2 lo19 1 0 (eL aL ([])) (.msl 3 lo18 0 (List.length ([] : List aM))) [(eL aL ([]))] [(lo9, 1, [(eI s)]), (lo18, 3, List.map aL ([] : List aM)), (lo19, 1, [(.msl 3 lo18 0 (List.length ([] : List aM)))])] hO rfl (by kernel_rfl) ?_
      intro H hO
      refine cW ?_
      replace hO := hO.pick (L' := [(lo19, 1, [(.msl 3 lo18 0 (List.length ([] : List aM)))]), (lo18, 3, List.map aL ([] : List aM))]) [2, 1] (by decide) (by kernel_rfl)
      refine bT [4] [(7, (.lp lo19 0 0))] ?_
      refine aO ?_
      refine aO ?_
      refine aU aF 2 ?_
      refine bR 1 ?_
      obtain ⟨x20, hx21, h0⟩ := aW h0
      refine cA (LJ l0 _ hx21) hO ?_
      intro H hO
      refine cW ?_
      refine bT [0] [(33, (.fn (.func 47) [] [(.rp (eL aD x20))]))] ?_
      refine bO 3 ?_
      refine cL [(7, (.lp lo19 0 0)), (33, (.fn (.func 47) [] [(.rp (eL aD x20))]))] ?_
      refine cC (fun T H => ∃ out7 : List aM, ∃ zP : (List aC), ∃ lo22 : Nat, Has T [(7, (.lp lo19 0 0)), (33, (.fn (.func 47) [] [(.rp (eL aD zP))]))] ∧ aN ⟨H0, [], (lD15, .raw zZ) :: []⟩ H [(lo19, 1, [(.msl 3 lo22 0 (List.length out7))]), (lo22, 3, List.map aL out7)] ∧ uB out7 zP = some r) ?_ ⟨([] : List aM), x20, lo18, .eq (by kernel_rfl), hO, h0⟩
      clear hO h0
      rintro T H ⟨out7, zP, lo22, hT, hO, h0⟩
      refine bA (l := [(7, (.lp lo19 0 0)), (33, (.fn (.func 47) [] [(.rp (eL aD zP))]))]) hT ?_
      clear hT
      unfold uB at h0
      obtain ⟨o0, hl0, h0⟩ := aW h0
      refine HR (fid := 47) (ys := []) (cs := [(.rp (eL aD zP))]) #[34, 35] (fun (A : ET) (b lL : Nat) (st : (List aM) ⊕ (List aM)) (G' : Gs) => Sum.elim (fun (s : List aM) => ∃ lo22 : Nat, G' = (lL, .raw (kM b A .ready none)) :: (up [(lo19, 1, [(.msl 3 lo22 0 (List.length s))]), (lo22, 3, List.map aL s)] ++ (lD15, .raw zZ) :: [])) (fun (s : List aM) => False) st) (.inl out7) o0 (.tup []) (by kernel_rfl) (by kernel_rfl) (by kernel_rfl) hO (fun _ _ => ⟨lo22, rfl⟩) ?_ ?_
      · intro b lL
        clear hO h0
        refine GF _ b (fun st t34 t35 => rnd (fun (s : List aM) => oZ zP s t34 t35) st) ?_ zP _ _ hl0
        intro st t34 t35 out1 rr hr
        obtain ⟨s, rfl, h1, rfl⟩ := XW hr
        clear hr
        intro Hr Gr hi hg
        obtain ⟨out7, rfl⟩ : ∃ x, x = s := ⟨_, rfl⟩
        dsimp only [Sum.elim_inl] at hi
        obtain ⟨lo22, rfl⟩ := hi
        replace h1 : oZ zP out7 t34 t35 = some out1 := h1
        unfold oZ at h1
        obtain ⟨E1, hE, hO⟩ := AG hg
        refine AJ (HH (hO.gm 0 _ rfl).2 (by kernel_rfl) (by kernel_rfl) ?_)
        refine cL [(7, (.lp lo19 0 0)), (33, (.fn (.func 47) [] [(.rp (eL aD zP))])), (34, (eL aI t34)), (35, (eL aE t35))] ?_
        refine aY aF 1 [33, 34] [(8, (eL aI t34))] ?_
        refine aU aF 1 ?_
        refine bC ?_
        refine cN [(7, (.lp lo19 0 0)), (8, (eL aI t34)), (9, (eL aE t35))] ?_
        refine aJ (⟨rfl, rfl, (hO.gm 0 _ rfl).2, ?_⟩)
        intro o1 ho1
        replace hO := hO.zS o1
        refine bO 4 ?_
        refine aO ?_
        refine aU aF 4 ?_
        refine bR 1 ?_
        obtain ⟨x23, hx24, h1⟩ := aW h1
        refine cA (YA t35 _ hx24) hO ?_
        intro H hO
        refine bC ?_
        refine bT [9] [(37, (eL bG x23)), (38, (eI (lN x23))), (39, (eI (0 : Int)))] ?_
        refine bO 5 ?_
        refine cL [(7, (.lp lo19 0 0)), (8, (eL aI t34)), (37, (eL bG x23)), (38, (eI (lN x23))), (39, (eI (0 : Int)))] ?_
        refine cC (fun T H => ∃ out7 : List aM, ∃ r8 : (List aG), ∃ t37 : (List aT), ∃ t38 : Int, ∃ t39 : Int, ∃ lo27 : Nat, Has T [(7, (.lp lo19 0 0)), (8, (eL aI r8)), (37, (eL bG t37)), (38, (eI t38)), (39, (eI t39))] ∧ aN ⟨Hr, E1, (lL, o1) :: (lD15, .raw zZ) :: []⟩ H [(lo19, 1, [(.msl 3 lo27 0 (List.length out7))]), (lo27, 3, List.map aL out7)] ∧ uL out7 r8 t37 t38 t39 = some out1) ?_ ⟨out7, t34, x23, (lN x23), (0 : Int), lo22, .eq (by kernel_rfl), hO, h1⟩
        clear hO h1
        rintro T H ⟨out7, r8, t37, t38, t39, lo27, hT, hO, h1⟩
        refine bA hT ?_
        clear hT
        unfold uL at h1
        obtain ⟨rr1, hl1, h1⟩ := aW h1
        refine bX (by kernel_rfl) (fun (s : List aM × Int) T H => ∃ lo27 : Nat, Has T [(7, (.lp lo19 0 0)), (8, (eL aI r8)), (37, (eL bG t37)), (38, (eI t38)), (39, (eI s.2))] ∧ aN ⟨Hr, E1, (lL, o1) :: (lD15, .raw zZ) :: []⟩ H [(lo19, 1, [(.msl 3 lo27 0 (List.length s.1))]), (lo27, 3, List.map aL s.1)]) hl1 ⟨lo27, .eq (by kernel_rfl), hO⟩ ?_
        clear hO
        rintro k1 s out2 T H ⟨lo27, hT, hO⟩ h2 ho1
        obtain ⟨out7, t39⟩ := s
        replace h2 : mR r8 t37 t38 out7 t39 = some out2 := h2
        try dsimp only at hT
        refine bA hT ?_
        clear hT
        unfold mR at h2
        refine aY aF 1 [] [(40, (aK (decide (t39 < t38))))] ?_
        refine aO ?_
        refine bJ h2 (fun h2 => ?_) (fun h2 => ?_)
        · refine bL ?_
          refine bH [(7, (.lp lo19 0 0)), (8, (eL aI r8)), (37, (eL bG t37)), (38, (eI t38)), (39, (eI t39))] ?_
          refine aO ?_
          refine bO 6 ?_
          refine aO ?_
          refine aU aF 4 ?_
          obtain ⟨c29, h2⟩ := bE h2
          refine jT 2 [0 ≤ t39 ∧ t39 < (lN t37)] ⟨c29, trivial⟩ ?_
          refine nL 2 (bG (aT.mk 0 0)) (by kernel_rfl) (by kernel_rfl) hO ?_
          intro lo30 H hO
          refine kB 2 lo30 2 0 (bG (aT.mk 0 0)) (bG (gD t37 t39)) [(bG (aT.mk 0 0))] [(lo19, 1, [(.msl 3 lo27 0 (List.length out7))]), (lo27, 3, List.map aL out7), (lo30, 2, [(bG (gD t37 t39))])] hO rfl (by kernel_rfl) ?_
          intro H hO
          refine cW ?_
          refine bT [] [(11, (.lp lo30 0 0))] ?_
          refine cL [(7, (.lp lo19 0 0)), (8, (eL aI r8)), (11, (.lp lo30 0 0)), (37, (eL bG t37)), (38, (eI t38)), (39, (eI t39))] ?_
          refine VB 2 2 11 2 lo30 (bG (gD t37 t39)) [(lo19, 1, [(.msl 3 lo27 0 (List.length out7))]), (lo27, 3, List.map aL out7)] hO (by kernel_rfl) (by kernel_rfl) (by kernel_rfl) ?_
          intro H hO
          refine eS (eV [45, 46, 48]) aF 8 ?_
          refine lT 0 lo19 1 0 (.msl 3 lo27 0 (List.length out7)) (.msl 3 lo27 0 (List.length out7)) [(.msl 3 lo27 0 (List.length out7))] hO rfl ?_
          refine qH 2 ?_
          obtain ⟨x31, hx32, h2⟩ := aW h2
          refine yA (KY r8 _ hx32) hO ?_
          intro H hO
          refine qH 5 ?_
          refine BK (xs := [(aL (aM.mk x31 (gD t37 t39)))]) (k := 3) (by kernel_rfl) (by kernel_rfl) ?_
          obtain ⟨c35, h2⟩ := bE h2
          refine zQ (e := aL) out7 ([aM.mk x31 (gD t37 t39)]) 1 lo27 3 40 (cZ [(aL (aM.mk x31 (gD t37 t39)))]) (fun lo34 => [(lo19, 1, [(.msl 3 lo27 0 (List.length out7))]), (lo34, 3, List.map aL (out7 ++ ([aM.mk x31 (gD t37 t39)])))]) (by kernel_rfl) (by kernel_rfl) hO (by kernel_rfl) (by kernel_rfl) c35 (fun _ => by kernel_rfl) ?_
          intro lo34 H hO
          refine vH 0 lo19 1 0 (.msl 3 lo27 0 (List.length out7)) (.msl 3 lo34 0 (List.length (out7 ++ ([aM.mk x31 (gD t37 t39)])))) [(.msl 3 lo27 0 (List.length out7))] [(lo19, 1, [(.msl 3 lo34 0 (List.length (out7 ++ ([aM.mk x31 (gD t37 t39)]))))]), (lo34, 3, List.map aL (out7 ++ ([aM.mk x31 (gD t37 t39)])))] hO rfl (by kernel_rfl) ?_
          intro H hO
          refine DV (by kernel_rfl) ?_
          refine cN [(7, (.lp lo19 0 0)), (8, (eL aI r8)), (37, (eL bG t37)), (38, (eI t38)), (39, (eI t39))] ?_
          refine aJ (aV (aH (?_)))
          refine aU aF 2 ?_
          refine bC ?_
          exact aJ (aH (⟨rfl, _, (oI h2).symm, _, .eq (by kernel_rfl), hO⟩))
        refine cV 5 ?_
        refine cN [(7, (.lp lo19 0 0))] ?_
        obtain rfl := oI h2
        obtain rfl : _ = rr1 := ho1
        replace h1 : some (.inl out7) = some out1 := h1
        obtain rfl := oI h1
        exact aJ (aS (aS (bM (aV (⟨(gS hO hE ho1 .dead).1, rfl, _, ⟨lo27, rfl⟩, (gS hO hE ho1 _).2⟩)))))
      · intro b lD36 lL H' G' hi hO
        rcases o0 with s | s
        · dsimp only [Sum.elim_inl] at hi
          obtain ⟨lo22, rfl⟩ := hi
          replace h0 : (some (s, (0 : Int))) = some r := h0
          obtain ⟨hlL, hO⟩ := sW hO
          refine ⟨_, _, hlL, (by intro e; cases e), ?_⟩
          refine cN [(7, (.lp lo19 0 0))] ?_
          refine aJ (aV (aH (?_)))
          refine aO ?_
          refine aU aF 3 ?_
          refine kQ 0 lo19 1 0 (.msl 3 lo22 0 (List.length s)) (.msl 3 lo22 0 (List.length s)) [(.msl 3 lo22 0 (List.length s))] hO rfl ?_
          refine bC ?_
          refine cN [(2, (.msl 3 lo22 0 (List.length s))), (3, (eI (0 : Int)))] ?_
          replace hO := hO.pick (L' := [(lo22, 3, List.map aL s)]) [1] (by decide) (by kernel_rfl)
          refine aJ (aH (?_))
          refine bK ?_
          refine cN [(2, (.msl 3 lo22 0 (List.length s))), (3, (eI (0 : Int)))] ?_
          refine tE (en := aL) s 0 0 2 3 lo22 (List.length s) hO (by kernel_rfl) (by kernel_rfl) (by kernel_rfl) (L' := []) (by kernel_rfl) ?_
          intro H37 hO
          obtain rfl := oI h0
          have hD := (hO.gm 0 _ rfl).2
          have hE := (hO.gm 1 _ rfl).2
          have hF := hO.gn 0 1 _ _ rfl rfl (by decide)
          replace hO := ((hO.zS .dead).zA.zS .dead).zA
          exact aJ (QM2 (.inr rfl) hD hE hF (rs := [.tmp 2, .tmp 3]) (xs := [(eL aL s), (eI (0 : Int))]) (x := (.tup [(eL aL s), (eI (0 : Int))])) (by kernel_rfl) (FQ (x := (eL aL s)) (by kernel_rfl) (FQ (x := (eI (0 : Int))) (by kernel_rfl) uC)) (by kernel_rfl) ⟨rfl, hO.out⟩)
        · exact hi.elim
    · exact hi.elim

theorem IZ (l0 : (List aM)) (r : ((List aM) × Int)) (h0 : tK l0 = some r) : bY Tryz.prog 13 [(eL aL l0)] (.tup [(eL aL r.1), (eI r.2)]) := by
  intro H0
  refine cF Tryz.func13 ?_
  have hO := aN.start H0
  unfold tK at h0
  refine aY aF 2 [] [] ?_
  refine aO ?_
  refine aU aF 7 ?_
  refine bR 1 ?_
  obtain ⟨x1, hx2, h0⟩ := aW h0
  refine cA (MH l0 _ hx2) hO ?_
  intro H hO
  refine bC ?_
  refine bH [(4, (eL aD x1.1)), (5, (eI x1.2))] ?_
  refine aO ?_
  refine aY aF 2 [] [(12, (aK (!decide (x1.2 = (0 : Int)))))] ?_
  refine bJ h0 (fun h0 => ?_) (fun h0 => ?_)
  · refine bV aF 3 [(2, (.sl true 0 (fun _ => .bad))), (3, (eI x1.2))] ?_
    refine bK ?_
    refine cJ (l := [(2, (eL aL ([]))), (3, (eI x1.2))]) ⟨[(2, (.sl true 0 (fun _ => .bad))), (3, (eI x1.2))], by kernel_rfl, rfl, ⟨dG, aZ.refl _, trivial⟩⟩ ?_
    obtain rfl := oI h0
    exact aJ (aQ (Q_r hO))
  refine bL ?_
  refine bH [(4, (eL aD x1.1))] ?_
  refine aO ?_
  refine aU aF 6 ?_
  refine bR 1 ?_
  obtain ⟨x5, hx6, h0⟩ := aW h0
  refine cA (WI x1.1 _ hx6) hO ?_
  intro H hO
  refine bC ?_
  refine bH [(2, (eL aL x5.1)), (3, (eI x5.2))] ?_
  refine bK ?_
  obtain rfl := oI h0
  exact aJ (Q_r hO)

theorem oK (s10 : (List aM)) (s21 : (List aM)) (eq2_f : Nat) (eq2_a eq2_c : List V) (eq2 : aM → aM → Option Bool) (eq2_h : ∀ a0 a1 r, eq2 a0 a1 = some r → bY Tryz.prog eq2_f (eq2_a ++ [(aL a0), (aL a1)] ++ eq2_c) (aK r)) (r : Bool) (h0 : dF s10 s21 eq2 = some r) : bY Tryz.prog 40 [(eL aL s10), (eL aL s21), (.fn (.func eq2_f) eq2_a eq2_c)] (aK r) := by
  intro H0
  refine cF Tryz.func40 ?_
  have hO := aN.start H0
  unfold dF at h0
  refine aY aF 1 [] [] ?_
  refine aO ?_
  refine aY aF 5 [] [(14, (aK (!decide ((lN s10) = (lN s21)))))] ?_
  refine bJ h0 (fun h0 => ?_) (fun h0 => ?_)
  · refine bV aF 1 [(6, (aK false))] ?_
    refine bK ?_
    obtain rfl := oI h0
    exact aJ (aQ (Q_r hO))
  refine bL ?_
  refine bH [(0, (eL aL s10)), (1, (eL aL s21)), (2, (.fn (.func eq2_f) eq2_a eq2_c))] ?_
  refine cH (fun T H => Has T [] ∧ aN ⟨H0, [], []⟩ H [] ∧ cR eq2  = some r) ?_ ?_
  · clear hO h0
    rintro T H ⟨hT, hO, h0⟩
    refine bA hT ?_
    clear hT
    unfold cR at h0
    refine bV aF 1 [(6, (aK true))] ?_
    refine bK ?_
    obtain rfl := oI h0
    exact aJ (Q_r hO)
  refine aY aF 3 [0] [(15, (eL aL s10)), (16, (eI (lN s10))), (17, (eI (0 : Int)))] ?_
  refine bO 0 ?_
  refine cL [(1, (eL aL s21)), (2, (.fn (.func eq2_f) eq2_a eq2_c)), (15, (eL aL s10)), (16, (eI (lN s10))), (17, (eI (0 : Int)))] ?_
  refine cC (fun T H => ∃ t15 : (List aM), ∃ t16 : Int, ∃ t17 : Int, Has T [(1, (eL aL s21)), (2, (.fn (.func eq2_f) eq2_a eq2_c)), (15, (eL aL t15)), (16, (eI t16)), (17, (eI t17))] ∧ aN ⟨H0, [], []⟩ H [] ∧ dD eq2 s21 t15 t16 t17 = some r) ?_ ⟨s10, (lN s10), (0 : Int), .eq (by kernel_rfl), hO, h0⟩
  clear hO h0
  rintro T H ⟨t15, t16, t17, hT, hO, h0⟩
  refine bA hT ?_
  clear hT
  unfold dD at h0
  obtain ⟨rr0, hl0, h0⟩ := aW h0
  refine bX (by kernel_rfl) (fun (s : Int) T H => Has T [(1, (eL aL s21)), (2, (.fn (.func eq2_f) eq2_a eq2_c)), (15, (eL aL t15)), (16, (eI t16)), (17, (eI s))] ∧ aN ⟨H0, [], []⟩ H []) hl0 ⟨.eq (by kernel_rfl), hO⟩ ?_
  clear hO
  rintro k0 s out1 T H ⟨hT, hO⟩ h1 ho0
  obtain ⟨t17, rfl⟩ : ∃ x, x = s := ⟨_, rfl⟩
  replace h1 : cG eq2 s21 t15 t16 t17 = some out1 := h1
  refine bA hT ?_
  clear hT
  unfold cG at h1
  refine aY aF 1 [] [(18, (aK (decide (t17 < t16))))] ?_
  refine aO ?_
  refine bJ h1 (fun h1 => ?_) (fun h1 => ?_)
  · refine bL ?_
    refine bH [(1, (eL aL s21)), (2, (.fn (.func eq2_f) eq2_a eq2_c)), (15, (eL aL t15)), (16, (eI t16)), (17, (eI t17))] ?_
    refine aO ?_
    refine bO 1 ?_
    refine aO ?_
    refine aU aF 6 ?_
    obtain ⟨c3, h1⟩ := bE h1
    refine jT 3 [0 ≤ t17 ∧ t17 < (lN t15)] ⟨c3, trivial⟩ ?_
    refine vG 3 (.agg [(.sl true 0 (fun _ => .bad)), (eI 0), (eI 0)]) (aL (aM.mk ([]) (aT.mk 0 0))) (by kernel_rfl) (by kernel_rfl) (by kernel_rfl) (LX (xs := [(.sl true 0 (fun _ => .bad)), (eI 0), (eI 0)]) (ys := [(eL aI ([])), (eI 0), (eI 0)]) ⟨dG, aZ.refl _, aZ.refl _, trivial⟩) (by kernel_rfl) (by kernel_rfl) hO ?_
    intro lo4 H hO
    refine bR 5 ?_
    refine kB 0 lo4 3 0 (aL (aM.mk ([]) (aT.mk 0 0))) (aL (gD t15 t17)) [(aL (aM.mk ([]) (aT.mk 0 0)))] [(lo4, 3, [(aL (gD t15 t17))])] hO rfl (by kernel_rfl) ?_
    intro H hO
    refine cW ?_
    refine bT [] [(7, (eI t17)), (8, (.lp lo4 0 0))] ?_
    refine aO ?_
    refine aU aF 6 ?_
    obtain ⟨c5, h1⟩ := bE h1
    refine jT 4 [0 ≤ t17 ∧ t17 < (lN s21)] ⟨c5, trivial⟩ ?_
    refine vG 3 (.agg [(.sl true 0 (fun _ => .bad)), (eI 0), (eI 0)]) (aL (aM.mk ([]) (aT.mk 0 0))) (by kernel_rfl) (by kernel_rfl) (by kernel_rfl) (LX (xs := [(.sl true 0 (fun _ => .bad)), (eI 0), (eI 0)]) (ys := [(eL aI ([])), (eI 0), (eI 0)]) ⟨dG, aZ.refl _, aZ.refl _, trivial⟩) (by kernel_rfl) (by kernel_rfl) hO ?_
    intro lo6 H hO
    refine kB 1 lo6 3 0 (aL (aM.mk ([]) (aT.mk 0 0))) (aL (gD s21 t17)) [(aL (aM.mk ([]) (aT.mk 0 0)))] [(lo4, 3, [(aL (gD t15 t17))]), (lo6, 3, [(aL (gD s21 t17))])] hO rfl (by kernel_rfl) ?_
    intro H hO
    refine cW ?_
    refine bT [7] [(9, (.lp lo6 0 0))] ?_
    refine aO ?_
    refine aU aF 5 ?_
    refine bR 1 ?_
    refine kQ 0 lo4 3 0 (aL (gD t15 t17)) (aL (gD t15 t17)) [(aL (gD t15 t17))] hO rfl ?_
    refine kQ 1 lo6 3 0 (aL (gD s21 t17)) (aL (gD s21 t17)) [(aL (gD s21 t17))] hO rfl ?_
    obtain ⟨x7, hx8, h1⟩ := aW h1
    refine cA (eq2_h (gD t15 t17) (gD s21 t17) _ hx8) hO ?_
    intro H hO
    refine bC ?_
    replace hO := hO.pick (L' := []) [] (by decide) (by kernel_rfl)
    refine bT [8, 9] [(30, (aK (!x7)))] ?_
    refine bJ h1 (fun h1 => ?_) (fun h1 => ?_)
    · refine bV aF 1 [(6, (aK false))] ?_
      refine bK ?_
      obtain rfl := oI h1
      obtain rfl : _ = rr0 := ho0
      replace h0 : some false = some r := h0
      obtain rfl := oI h0
      exact aJ (bN (aQ (aQ (bN (aQ (Q_r hO))))))
    refine bL ?_
    refine cN [(1, (eL aL s21)), (2, (.fn (.func eq2_f) eq2_a eq2_c)), (15, (eL aL t15)), (16, (eI t16)), (17, (eI t17))] ?_
    refine aJ (aV (aH (?_)))
    refine aU aF 2 ?_
    refine bC ?_
    exact aJ (aH (⟨rfl, _, (oI h1).symm, .eq (by kernel_rfl), hO⟩))
  refine cV 0 ?_
  obtain rfl := oI h1
  obtain rfl : _ = rr0 := ho0
  replace h0 : cR eq2  = some r := h0
  exact aJ (aS (aS (bM (aH (⟨rfl, .eq (by kernel_rfl), hO, h0⟩)))))

theorem WH (x0 : aM) (y1 : aM) (r : Bool) (h0 : qF x0 y1 = some r) : bY Tryz.prog 41 [(aL x0), (aL y1)] (aK r) := by
  intro H0
  refine cF Tryz.func41 ?_
  have hO := aN.start H0
  unfold qF at h0
  refine aO ?_
  refine aU aF 3 ?_
  refine fQ 3 (aL x0) (by kernel_rfl) (by kernel_rfl) ?_
  refine fQ 3 (aL y1) (by kernel_rfl) (by kernel_rfl) ?_
  refine bC ?_
  refine bH [(2, (.rp (aL x0))), (3, (.rp (aL y1)))] ?_
  refine aO ?_
  refine aU aF 13 ?_
  refine bR 10 ?_
  obtain ⟨x1, hx2, h0⟩ := aW h0
  refine fU [(10, true)] 42 [(eL aI x0.Row), (eL aI y1.Row)] (aK x1) ((decide (x0.Span.From = y1.Span.From)) && ((decide (x0.Span.To = y1.Span.To)) && true)) (by kernel_rfl) (by kernel_rfl) (by kernel_rfl) (fun hb3 => (RL x0.Row y1.Row _ (fP hx2 hb3))) hO ?_
  intro H hO
  refine bC ?_
  refine bH [(4, (aK (((decide (x0.Span.From = y1.Span.From)) && ((decide (x0.Span.To = y1.Span.To)) && true)) && x1)))] ?_
  refine bK ?_
  obtain rfl := oI h0
  exact aJ (Q_r hO)

theorem OT (a0 : (List aM)) (b1 : (List aM)) (r : Bool) (h0 : tN a0 b1 = some r) : bY Tryz.prog 17 [(eL aL a0), (eL aL b1)] (aK r) := by
  intro H0
  refine cF Tryz.func17 ?_
  have hO := aN.start H0
  unfold tN at h0
  refine aY aF 1 [] [] ?_
  refine aO ?_
  refine aU aF 4 ?_
  refine bR 2 ?_
  obtain ⟨x1, hx2, h0⟩ := aW h0
  refine cA (oK a0 b1 41 [] [] (fun y0 y1 => qF y0 y1) (fun y0 y1 r h => WH y0 y1 r h) _ hx2) hO ?_
  intro H hO
  refine bC ?_
  refine bH [(4, (aK x1))] ?_
  refine bK ?_
  obtain rfl := oI h0
  exact aJ (Q_r hO)

theorem DU (a0 : (List aG)) (b1 : (List aG)) (r : Bool) (h0 : pQ a0 b1 = some r) : bY Tryz.prog 30 [(eL aI a0), (eL aI b1)] (aK r) := by
  intro H0
  refine cF Tryz.func30 ?_
  have hO := aN.start H0
  unfold pQ at h0
  refine aY aF 1 [] [] ?_
  refine aO ?_
  refine aY aF 5 [] [(10, (aK (!decide ((lN a0) = (lN b1)))))] ?_
  refine bJ h0 (fun h0 => ?_) (fun h0 => ?_)
  · refine bV aF 1 [(4, (aK false))] ?_
    refine bK ?_
    obtain rfl := oI h0
    exact aJ (aQ (Q_r hO))
  refine bL ?_
  refine bH [(0, (eL aI a0)), (1, (eL aI b1))] ?_
  refine cH (fun T H => Has T [] ∧ aN ⟨H0, [], []⟩ H [] ∧ wP  = some r) ?_ ?_
  · clear hO h0
    rintro T H ⟨hT, hO, h0⟩
    refine bA hT ?_
    clear hT
    unfold wP at h0
    refine bV aF 1 [(4, (aK true))] ?_
    refine bK ?_
    obtain rfl := oI h0
    exact aJ (Q_r hO)
  refine aY aF 1 [] [(5, (eI (0 : Int)))] ?_
  refine bO 0 ?_
  refine cL [(0, (eL aI a0)), (1, (eL aI b1)), (5, (eI (0 : Int)))] ?_
  refine cC (fun T H => ∃ i5 : Int, Has T [(0, (eL aI a0)), (1, (eL aI b1)), (5, (eI i5))] ∧ aN ⟨H0, [], []⟩ H [] ∧ BC a0 b1 i5 = some r) ?_ ⟨(0 : Int), .eq (by kernel_rfl), hO, h0⟩
  clear hO h0
  rintro T H ⟨i5, hT, hO, h0⟩
  refine bA hT ?_
  clear hT
  unfold BC at h0
  obtain ⟨rr0, hl0, h0⟩ := aW h0
  refine bX (by kernel_rfl) (fun (s : Int) T H => Has T [(0, (eL aI a0)), (1, (eL aI b1)), (5, (eI s))] ∧ aN ⟨H0, [], []⟩ H []) hl0 ⟨.eq (by kernel_rfl), hO⟩ ?_
  clear hO
  rintro k0 s out1 T H ⟨hT, hO⟩ h1 ho0
  obtain ⟨i5, rfl⟩ : ∃ x, x = s := ⟨_, rfl⟩
  replace h1 : sC a0 b1 i5 = some out1 := h1
  refine bA hT ?_
  clear hT
  unfold sC at h1
  refine aO ?_
  refine aY aF 4 [] [(14, (aK (decide (i5 < (lN a0)))))] ?_
  refine bJ h1 (fun h1 => ?_) (fun h1 => ?_)
  · refine bL ?_
    refine bH [(0, (eL aI a0)), (1, (eL aI b1)), (5, (eI i5))] ?_
    refine aO ?_
    refine bO 1 ?_
    refine aO ?_
    refine eS (eV [20, 24]) aF 9 ?_
    obtain ⟨c3, h1⟩ := bE h1
    obtain ⟨c4, h1⟩ := bE h1
    refine IP (Ds := [0 ≤ i5 ∧ i5 < (lN a0), 0 ≤ i5 ∧ i5 < (lN b1)]) (by kernel_rfl) ⟨c3, c4, trivial⟩ ?_
    refine bT [] [(25, (aK (!((decide (((gD a0 i5).Kind) = ((gD b1 i5).Kind))) && ((decide (((gD a0 i5).Num) = ((gD b1 i5).Num))) && ((pK ((gD a0 i5).Text) ((gD b1 i5).Text)) && true))))))] ?_
    refine bJ h1 (fun h1 => ?_) (fun h1 => ?_)
    · refine bV aF 1 [(4, (aK false))] ?_
      refine bK ?_
      obtain rfl := oI h1
      obtain rfl : _ = rr0 := ho0
      replace h0 : some false = some r := h0
      obtain rfl := oI h0
      exact aJ (bN (aQ (aQ (bN (aQ (Q_r hO))))))
    refine bL ?_
    refine cN [(0, (eL aI a0)), (1, (eL aI b1)), (5, (eI i5))] ?_
    refine aJ (aV (aH (?_)))
    refine aU aF 3 ?_
    refine bC ?_
    exact aJ (aH (⟨rfl, _, (oI h1).symm, .eq (by kernel_rfl), hO⟩))
  refine cV 0 ?_
  obtain rfl := oI h1
  obtain rfl : _ = rr0 := ho0
  replace h0 : wP  = some r := h0
  exact aJ (aS (aS (bM (aH (⟨rfl, .eq (by kernel_rfl), hO, h0⟩)))))

theorem ML (a0 : (List aM)) (b1 : (List aM)) (r : Bool) (h0 : rL a0 b1 = some r) : bY Tryz.prog 9 [(eL aL a0), (eL aL b1)] (aK r) := by
  intro H0
  refine cF Tryz.func9 ?_
  have hO := aN.start H0
  unfold rL at h0
  refine aY aF 1 [] [] ?_
  refine aO ?_
  refine aY aF 5 [] [(10, (aK (!decide ((lN a0) = (lN b1)))))] ?_
  refine bJ h0 (fun h0 => ?_) (fun h0 => ?_)
  · refine bV aF 1 [(4, (aK false))] ?_
    refine bK ?_
    obtain rfl := oI h0
    exact aJ (aQ (Q_r hO))
  refine bL ?_
  refine bH [(0, (eL aL a0)), (1, (eL aL b1))] ?_
  refine cH (fun T H => Has T [] ∧ aN ⟨H0, [], []⟩ H [] ∧ wT  = some r) ?_ ?_
  · clear hO h0
    rintro T H ⟨hT, hO, h0⟩
    refine bA hT ?_
    clear hT
    unfold wT at h0
    refine bV aF 1 [(4, (aK true))] ?_
    refine bK ?_
    obtain rfl := oI h0
    exact aJ (Q_r hO)
  refine aY aF 1 [] [(5, (eI (0 : Int)))] ?_
  refine bO 0 ?_
  refine cL [(0, (eL aL a0)), (1, (eL aL b1)), (5, (eI (0 : Int)))] ?_
  refine cC (fun T H => ∃ i5 : Int, Has T [(0, (eL aL a0)), (1, (eL aL b1)), (5, (eI i5))] ∧ aN ⟨H0, [], []⟩ H [] ∧ AT a0 b1 i5 = some r) ?_ ⟨(0 : Int), .eq (by kernel_rfl), hO, h0⟩
  clear hO h0
  rintro T H ⟨i5, hT, hO, h0⟩
  refine bA hT ?_
  clear hT
  unfold AT at h0
  obtain ⟨rr0, hl0, h0⟩ := aW h0
  refine bX (by kernel_rfl) (fun (s : Int) T H => Has T [(0, (eL aL a0)), (1, (eL aL b1)), (5, (eI s))] ∧ aN ⟨H0, [], []⟩ H []) hl0 ⟨.eq (by kernel_rfl), hO⟩ ?_
  clear hO
  rintro k0 s out1 T H ⟨hT, hO⟩ h1 ho0
  obtain ⟨i5, rfl⟩ : ∃ x, x = s := ⟨_, rfl⟩
  replace h1 : sO a0 b1 i5 = some out1 := h1
  refine bA hT ?_
  clear hT
  unfold sO at h1
  refine aO ?_
  refine aY aF 4 [] [(14, (aK (decide (i5 < (lN a0)))))] ?_
  refine bJ h1 (fun h1 => ?_) (fun h1 => ?_)
  · refine bL ?_
    refine bH [(0, (eL aL a0)), (1, (eL aL b1)), (5, (eI i5))] ?_
    refine aO ?_
    refine bO 1 ?_
    refine aO ?_
    obtain ⟨c3, h1⟩ := bE h1
    obtain ⟨c4, h1⟩ := bE h1
    obtain ⟨c5, h1⟩ := bE h1
    obtain ⟨c6, h1⟩ := bE h1
    obtain ⟨x7, hx8, h1⟩ := aW h1
    refine eS (eV [21, 26, 33, 38]) aF 25 ?_
    refine yB (K := fun T H => Has (lift T) [(0, (eL aL a0)), (1, (eL aL b1)), (5, (eI i5)), (41, (aK ((!((decide ((((gD a0 i5).Span).From) = (((gD b1 i5).Span).From))) && ((decide ((((gD a0 i5).Span).To) = (((gD b1 i5).Span).To))) && true))) || (!x7))))] ∧ aN ⟨H0, [], []⟩ H []) ?_ ?_
    · refine dA 12 [0 ≤ i5 ∧ i5 < (lN a0), 0 ≤ i5 ∧ i5 < (lN b1)] ⟨c3, c4, trivial⟩ ?_
      refine sE (t := 28) (e := !((decide ((((gD a0 i5).Span).From) = (((gD b1 i5).Span).From))) && ((decide ((((gD a0 i5).Span).To) = (((gD b1 i5).Span).To))) && true))) (by kernel_rfl) (fun hg9 => ?_) (fun hg9 => ?_)
      · refine iJ ?_
        exact ⟨⟨[(0, (eL aL a0)), (1, (eL aL b1)), (5, (eI i5)), (41, (aK true))], by kernel_rfl, rfl, ⟨aZ.refl _, aZ.refl _, aZ.refl _, aZ.eq (congrArg aK (zY hg9 rfl).symm), trivial⟩⟩, hO⟩
      refine dA 22 [0 ≤ i5 ∧ i5 < (lN a0), 0 ≤ i5 ∧ i5 < (lN b1)] ⟨(c5 (yW hg9)), (c6 (yW hg9)), trivial⟩ ?_
      refine CN 30 [(eL aI ((gD a0 i5).Row)), (eL aI ((gD b1 i5).Row))] (aK x7) (by kernel_rfl) (by kernel_rfl) (DU ((gD a0 i5).Row) ((gD b1 i5).Row) _ (fP hx8 (yW hg9))) hO ?_
      intro H hO
      refine iJ ?_
      exact ⟨⟨[(0, (eL aL a0)), (1, (eL aL b1)), (5, (eI i5)), (41, (aK (!x7)))], by kernel_rfl, rfl, ⟨aZ.refl _, aZ.refl _, aZ.refl _, aZ.eq (congrArg aK (zY hg9 rfl).symm), trivial⟩⟩, hO⟩
    · rintro T H ⟨hT, hO⟩
      refine cJ hT ?_
      clear hT
      refine aJ (aH ?_)
      refine bJ h1 (fun h1 => ?_) (fun h1 => ?_)
      · refine bV aF 1 [(4, (aK false))] ?_
        refine bK ?_
        obtain rfl := oI h1
        obtain rfl : _ = rr0 := ho0
        replace h0 : some false = some r := h0
        obtain rfl := oI h0
        exact aJ (bN (aQ (aQ (bN (aQ (Q_r hO))))))
      refine bL ?_
      refine cN [(0, (eL aL a0)), (1, (eL aL b1)), (5, (eI i5))] ?_
      refine aJ (aV (aH (?_)))
      refine aU aF 3 ?_
      refine bC ?_
      exact aJ (aH (⟨rfl, _, (oI h1).symm, .eq (by kernel_rfl), hO⟩))
  refine cV 0 ?_
  obtain rfl := oI h1
  obtain rfl : _ = rr0 := ho0
  replace h0 : wT  = some r := h0
  exact aJ (aS (aS (bM (aH (⟨rfl, .eq (by kernel_rfl), hO, h0⟩)))))

theorem MI  (r : Bool) (h0 : uV  = some r) : bY Tryz.prog 6 [] (aK r) := by
  intro H0
  refine cF Tryz.func6 ?_
  have hO := aN.start H0
  unfold uV at h0
  refine bV aF 1 [] ?_
  refine aO ?_
  refine aU aF 9 ?_
  obtain ⟨x1, hx2, h0⟩ := aW h0
  refine cA (pI (5 : Int) (9 : Int) _ hx2) hO ?_
  intro H hO
  obtain ⟨x4, hx5, h0⟩ := aW h0
  refine cA (pI (2 : Int) (5 : Int) _ hx5) hO ?_
  intro H hO
  refine iM (xs := [(aL x1), (aL x4)]) (k := 3) (by kernel_rfl) (by kernel_rfl) ?_
  obtain ⟨x7, hx8, h0⟩ := aW h0
  refine aE5 13 [(cZ [(aL x1), (aL x4)])] (.tup [(eL aL x7.1), (eI x7.2)]) (bY.sub (IZ ([x1, x4]) _ hx8) ⟨HN (l := [x1, x4]), trivial⟩) hO ?_
  intro H hO
  refine bC ?_
  refine bH [(1, (eL aL x7.1)), (2, (eI x7.2))] ?_
  refine aO ?_
  refine aU aF 9 ?_
  obtain ⟨x10, hx11, h0⟩ := aW h0
  refine cA (pI (1 : Int) (10 : Int) _ hx11) hO ?_
  intro H hO
  obtain ⟨x13, hx14, h0⟩ := aW h0
  refine cA (pI (3 : Int) (5 : Int) _ hx14) hO ?_
  intro H hO
  refine iM (xs := [(aL x10), (aL x13)]) (k := 3) (by kernel_rfl) (by kernel_rfl) ?_
  obtain ⟨x16, hx17, h0⟩ := aW h0
  refine aE5 13 [(cZ [(aL x10), (aL x13)])] (.tup [(eL aL x16.1), (eI x16.2)]) (bY.sub (IZ ([x10, x13]) _ hx17) ⟨HN (l := [x10, x13]), trivial⟩) hO ?_
  intro H hO
  refine bC ?_
  refine bT [] [(3, (eL aL x16.1)), (4, (eI x16.2))] ?_
  refine aO ?_
  refine aU aF 29 ?_
  refine bR 8 ?_
  obtain ⟨x19, hx20, h0⟩ := aW h0
  refine fU [(25, true)] 18 [(eI (2 : Int)), (eI (9 : Int))] (aL x19) ((decide (x7.2 = (0 : Int))) && (decide (x16.2 = (0 : Int)))) (by kernel_rfl) (by kernel_rfl) (by kernel_rfl) (fun hb21 => (pI (2 : Int) (9 : Int) _ (fP hx20 hb21))) hO ?_
  intro H hO
  refine aCp [(25, true)] [(aL x19)] (by kernel_rfl) (by kernel_rfl) ?_
  obtain ⟨x22, hx23, h0⟩ := aW h0
  refine fU [(25, true)] 17 [(eL aL x7.1), (cZ [(aL x19)])] (aK x22) ((decide (x7.2 = (0 : Int))) && (decide (x16.2 = (0 : Int)))) (by kernel_rfl) (by kernel_rfl) (by kernel_rfl) (fun hb24 => (bY.sub (OT x7.1 ([x19]) _ (fP hx23 hb24)) ⟨aZ.refl _, HN (l := [x19]), trivial⟩)) hO ?_
  intro H hO
  refine bR 14 ?_
  obtain ⟨x25, hx26, h0⟩ := aW h0
  refine fU [(31, true)] 18 [(eI (1 : Int)), (eI (5 : Int))] (aL x25) (((decide (x7.2 = (0 : Int))) && (decide (x16.2 = (0 : Int)))) && x22) (by kernel_rfl) (by kernel_rfl) (by kernel_rfl) (fun hb27 => (pI (1 : Int) (5 : Int) _ (fP hx26 hb27))) hO ?_
  intro H hO
  obtain ⟨x28, hx29, h0⟩ := aW h0
  refine fU [(31, true)] 18 [(eI (3 : Int)), (eI (10 : Int))] (aL x28) (((decide (x7.2 = (0 : Int))) && (decide (x16.2 = (0 : Int)))) && x22) (by kernel_rfl) (by kernel_rfl) (by kernel_rfl) (fun hb30 => (pI (3 : Int) (10 : Int) _ (fP hx29 hb30))) hO ?_
  intro H hO
  refine aCp [(31, true)] [(aL x25), (aL x28)] (by kernel_rfl) (by kernel_rfl) ?_
  obtain ⟨x31, hx32, h0⟩ := aW h0
  refine fU [(31, true)] 9 [(eL aL x16.1), (cZ [(aL x25), (aL x28)])] (aK x31) (((decide (x7.2 = (0 : Int))) && (decide (x16.2 = (0 : Int)))) && x22) (by kernel_rfl) (by kernel_rfl) (by kernel_rfl) (fun hb33 => (bY.sub (ML x16.1 ([x25, x28]) _ (fP hx32 hb33)) ⟨aZ.refl _, HN (l := [x25, x28]), trivial⟩)) hO ?_
  intro H hO
  refine bR 20 ?_
  obtain ⟨x34, hx35, h0⟩ := aW h0
  refine fU [(38, true)] 18 [(eI (-1 : Int)), (eI (0 : Int))] (aL x34) ((((decide (x7.2 = (0 : Int))) && (decide (x16.2 = (0 : Int)))) && x22) && x31) (by kernel_rfl) (by kernel_rfl) (by kernel_rfl) (fun hb36 => (pI (-1 : Int) (0 : Int) _ (fP hx35 hb36))) hO ?_
  intro H hO
  obtain ⟨x37, hx38, h0⟩ := aW h0
  refine fU [(38, true)] 15 [(aL x34)] (aK x37) ((((decide (x7.2 = (0 : Int))) && (decide (x16.2 = (0 : Int)))) && x22) && x31) (by kernel_rfl) (by kernel_rfl) (by kernel_rfl) (fun hb39 => (GJ x34 _ (fP hx38 hb39))) hO ?_
  intro H hO
  refine bR 24 ?_
  obtain ⟨x40, hx41, h0⟩ := aW h0
  refine fU [(42, true)] 18 [(eI (3 : Int)), (eI (3 : Int))] (aL x40) (((((decide (x7.2 = (0 : Int))) && (decide (x16.2 = (0 : Int)))) && x22) && x31) && x37) (by kernel_rfl) (by kernel_rfl) (by kernel_rfl) (fun hb42 => (pI (3 : Int) (3 : Int) _ (fP hx41 hb42))) hO ?_
  intro H hO
  obtain ⟨x43, hx44, h0⟩ := aW h0
  refine fU [(42, true)] 15 [(aL x40)] (aK x43) (((((decide (x7.2 = (0 : Int))) && (decide (x16.2 = (0 : Int)))) && x22) && x31) && x37) (by kernel_rfl) (by kernel_rfl) (by kernel_rfl) (fun hb45 => (GJ x40 _ (fP hx44 hb45))) hO ?_
  intro H hO
  refine bC ?_
  refine bH [(0, (aK ((((((decide (x7.2 = (0 : Int))) && (decide (x16.2 = (0 : Int)))) && x22) && x31) && x37) && (!x43))))] ?_
  refine bK ?_
  obtain rfl := oI h0
  exact aJ (Q_r hO)

theorem JD (v0 : aG) (r : Bool) (h0 : tL v0 = some r) : bY Tryz.prog 72 [(aI v0)] (aK r) := by
  intro H0
  refine cF Tryz.func72 ?_
  have hO := aN.start H0
  unfold tL at h0
  refine aO ?_
  refine aU aF 2 ?_
  refine fQ 3 (aI v0) (by kernel_rfl) (by kernel_rfl) ?_
  refine bC ?_
  refine bH [(1, (.rp (aI v0)))] ?_
  refine aO ?_
  refine aY aF 3 [] [(5, (aK (decide (v0.Kind = (1 : Int)))))] ?_
  refine bJ h0 (fun h0 => ?_) (fun h0 => ?_)
  · refine bV aF 4 [(2, (aK (pK v0.Text (⟨#[]⟩ : ByteArray))))] ?_
    refine bK ?_
    obtain rfl := oI h0
    exact aJ (aQ (Q_r hO))
  refine bL ?_
  refine bH [(1, (.rp (aI v0)))] ?_
  refine bV aF 15 [(2, (aK (((decide (v0.Kind = (2 : Int))) && (decide (v0.Num = (0 : Int)))) && (decide (((ByteArray.size v0.Text : Nat) : Int) ≤ (64 : Int))))))] ?_
  refine bK ?_
  obtain rfl := oI h0
  exact aJ (Q_r hO)

theorem AA (r0 : (List aG)) (r : Bool) (h0 : pJ r0 = some r) : bY Tryz.prog 37 [(eL aI r0)] (aK r) := by
  intro H0
  refine cF Tryz.func37 ?_
  have hO := aN.start H0
  unfold pJ at h0
  refine aY aF 1 [] [] ?_
  refine cH (fun T H => Has T [(0, (eL aI r0))] ∧ aN ⟨H0, [], []⟩ H [] ∧ uN r0 = some r) ?_ ?_
  · clear hO h0
    rintro T H ⟨hT, hO, h0⟩
    refine bA hT ?_
    clear hT
    unfold uN at h0
    refine bV aF 4 [(2, (aK (decide ((lN r0) ≤ (8 : Int)))))] ?_
    refine bK ?_
    obtain rfl := oI h0
    exact aJ (Q_r hO)
  refine aY aF 1 [] [(3, (eI (0 : Int)))] ?_
  refine bO 0 ?_
  refine cL [(0, (eL aI r0)), (3, (eI (0 : Int)))] ?_
  refine cC (fun T H => ∃ i3 : Int, Has T [(0, (eL aI r0)), (3, (eI i3))] ∧ aN ⟨H0, [], []⟩ H [] ∧ DP r0 i3 = some r) ?_ ⟨(0 : Int), .eq (by kernel_rfl), hO, h0⟩
  clear hO h0
  rintro T H ⟨i3, hT, hO, h0⟩
  refine bA hT ?_
  clear hT
  unfold DP at h0
  obtain ⟨rr0, hl0, h0⟩ := aW h0
  refine bX (by kernel_rfl) (fun (s : Int) T H => Has T [(0, (eL aI r0)), (3, (eI s))] ∧ aN ⟨H0, [], []⟩ H []) hl0 ⟨.eq (by kernel_rfl), hO⟩ ?_
  clear hO
  rintro k0 s out1 T H ⟨hT, hO⟩ h1 ho0
  obtain ⟨i3, rfl⟩ : ∃ x, x = s := ⟨_, rfl⟩
  replace h1 : rM r0 i3 = some out1 := h1
  refine bA hT ?_
  clear hT
  unfold rM at h1
  refine aO ?_
  refine aY aF 8 [] [(11, (aK ((decide (i3 < (lN r0))) && (decide (i3 < (9 : Int))))))] ?_
  refine bJ h1 (fun h1 => ?_) (fun h1 => ?_)
  · refine bL ?_
    refine bH [(0, (eL aI r0)), (3, (eI i3))] ?_
    refine aO ?_
    refine bO 1 ?_
    refine aO ?_
    refine aU aF 6 ?_
    obtain ⟨c2, h1⟩ := bE h1
    refine jT 4 [0 ≤ i3 ∧ i3 < (lN r0)] ⟨c2, trivial⟩ ?_
    obtain ⟨x3, hx4, h1⟩ := aW h1
    refine cA (JD (gD r0 i3) _ hx4) hO ?_
    intro H hO
    refine bC ?_
    refine bT [] [(19, (aK (!x3)))] ?_
    refine bJ h1 (fun h1 => ?_) (fun h1 => ?_)
    · refine bV aF 1 [(2, (aK false))] ?_
      refine bK ?_
      obtain rfl := oI h1
      obtain rfl : _ = rr0 := ho0
      replace h0 : some false = some r := h0
      obtain rfl := oI h0
      exact aJ (bN (aQ (aQ (bN (aQ (Q_r hO))))))
    refine bL ?_
    refine cN [(0, (eL aI r0)), (3, (eI i3))] ?_
    refine aJ (aV (aH (?_)))
    refine aU aF 3 ?_
    refine bC ?_
    exact aJ (aH (⟨rfl, _, (oI h1).symm, .eq (by kernel_rfl), hO⟩))
  refine cV 0 ?_
  obtain rfl := oI h1
  obtain rfl : _ = rr0 := ho0
  replace h0 : uN r0 = some r := h0
  exact aJ (aS (aS (bM (aH (⟨rfl, .eq (by kernel_rfl), hO, h0⟩)))))

theorem EY (f0 : (List aA)) (r : Bool) (h0 : pL f0 = some r) : bY Tryz.prog 50 [(eL aE f0)] (aK r) := by
  intro H0
  refine cF Tryz.func50 ?_
  have hO := aN.start H0
  unfold pL at h0
  refine aY aF 1 [] [] ?_
  refine aO ?_
  refine aY aF 3 [] [(6, (aK (decide ((1024 : Int) < (lN f0)))))] ?_
  refine bJ h0 (fun h0 => ?_) (fun h0 => ?_)
  · refine bV aF 1 [(2, (aK false))] ?_
    refine bK ?_
    obtain rfl := oI h0
    exact aJ (aQ (Q_r hO))
  refine bL ?_
  refine bH [(0, (eL aE f0))] ?_
  refine cH (fun T H => Has T [] ∧ aN ⟨H0, [], []⟩ H [] ∧ xN  = some r) ?_ ?_
  · clear hO h0
    rintro T H ⟨hT, hO, h0⟩
    refine bA hT ?_
    clear hT
    unfold xN at h0
    refine bV aF 1 [(2, (aK true))] ?_
    refine bK ?_
    obtain rfl := oI h0
    exact aJ (Q_r hO)
  refine aY aF 1 [] [(3, (eI (0 : Int)))] ?_
  refine bO 0 ?_
  refine cL [(0, (eL aE f0)), (3, (eI (0 : Int)))] ?_
  refine cC (fun T H => ∃ i3 : Int, Has T [(0, (eL aE f0)), (3, (eI i3))] ∧ aN ⟨H0, [], []⟩ H [] ∧ CZ f0 i3 = some r) ?_ ⟨(0 : Int), .eq (by kernel_rfl), hO, h0⟩
  clear hO h0
  rintro T H ⟨i3, hT, hO, h0⟩
  refine bA hT ?_
  clear hT
  unfold CZ at h0
  obtain ⟨rr0, hl0, h0⟩ := aW h0
  refine bX (by kernel_rfl) (fun (s : Int) T H => Has T [(0, (eL aE f0)), (3, (eI s))] ∧ aN ⟨H0, [], []⟩ H []) hl0 ⟨.eq (by kernel_rfl), hO⟩ ?_
  clear hO
  rintro k0 s out1 T H ⟨hT, hO⟩ h1 ho0
  obtain ⟨i3, rfl⟩ : ∃ x, x = s := ⟨_, rfl⟩
  replace h1 : mF f0 i3 = some out1 := h1
  refine bA hT ?_
  clear hT
  unfold mF at h1
  refine aO ?_
  refine aY aF 4 [] [(10, (aK (decide (i3 < (lN f0)))))] ?_
  refine bJ h1 (fun h1 => ?_) (fun h1 => ?_)
  · refine bL ?_
    refine bH [(0, (eL aE f0)), (3, (eI i3))] ?_
    refine aO ?_
    refine bO 1 ?_
    refine aO ?_
    refine aO ?_
    refine aU aF 38 ?_
    obtain ⟨c3, h1⟩ := bE h1
    obtain ⟨c4, h1⟩ := bE h1
    obtain ⟨c5, h1⟩ := bE h1
    obtain ⟨c6, h1⟩ := bE h1
    obtain ⟨c7, h1⟩ := bE h1
    refine oN [0 ≤ i3 ∧ i3 < (lN f0), (((!(decide (((gD f0 i3).At) < (-1 : Int))))) = true → 0 ≤ i3 ∧ i3 < (lN f0)), (((!((decide (((gD f0 i3).At) < (-1 : Int))) || (decide ((1125899906842624 : Int) ≤ ((gD f0 i3).At)))))) = true → 0 ≤ i3 ∧ i3 < (lN f0)), (((!(((decide (((gD f0 i3).At) < (-1 : Int))) || (decide ((1125899906842624 : Int) ≤ ((gD f0 i3).At)))) || (decide (((gD f0 i3).Net) = (0 : Int)))))) = true → 0 ≤ i3 ∧ i3 < (lN f0)), (((!((((decide (((gD f0 i3).At) < (-1 : Int))) || (decide ((1125899906842624 : Int) ≤ ((gD f0 i3).At)))) || (decide (((gD f0 i3).Net) = (0 : Int)))) || (decide ((1048576 : Int) < ((gD f0 i3).Net)))))) = true → 0 ≤ i3 ∧ i3 < (lN f0))] ⟨c3, c4, c5, c6, c7, trivial⟩ ?_
    refine bT [] [(50, (aK (((((decide (((gD f0 i3).At) < (-1 : Int))) || (decide ((1125899906842624 : Int) ≤ ((gD f0 i3).At)))) || (decide (((gD f0 i3).Net) = (0 : Int)))) || (decide ((1048576 : Int) < ((gD f0 i3).Net)))) || (decide (((gD f0 i3).Net) < (-1048576 : Int))))))] ?_
    refine bJ h1 (fun h1 => ?_) (fun h1 => ?_)
    · refine bV aF 1 [(2, (aK false))] ?_
      refine bK ?_
      obtain rfl := oI h1
      obtain rfl : _ = rr0 := ho0
      replace h0 : some false = some r := h0
      obtain rfl := oI h0
      exact aJ (aQ (bN (aQ (aQ (bN (aQ (Q_r hO)))))))
    refine bL ?_
    refine bH [(0, (eL aE f0)), (3, (eI i3))] ?_
    refine aO ?_
    obtain ⟨c9, h1⟩ := bE h1
    obtain ⟨c10, h1⟩ := bE h1
    refine eS (eV [58, 64]) aF 16 ?_
    refine yB (K := fun T H => Has (lift T) [(0, (eL aE f0)), (3, (eI i3)), (66, (aK ((decide ((0 : Int) < i3)) && (decide (((gD f0 i3).At) ≤ ((gD f0 (wR (i3 - (1 : Int)))).At))))))] ∧ aN ⟨H0, [], []⟩ H []) ?_ ?_
    · refine qH 3 ?_
      refine sE (t := 53) (e := decide ((0 : Int) < i3)) (by kernel_rfl) (fun hg11 => ?_) (fun hg11 => ?_)
      · refine IP (Ds := [0 ≤ i3 ∧ i3 < (lN f0), 0 ≤ (wR (i3 - (1 : Int))) ∧ (wR (i3 - (1 : Int))) < (lN f0)]) (by kernel_rfl) ⟨(c9 hg11), (c10 hg11), trivial⟩ ?_
        exact ⟨⟨[(0, (eL aE f0)), (3, (eI i3)), (66, (aK (decide (((gD f0 i3).At) ≤ ((gD f0 (wR (i3 - (1 : Int)))).At)))))], by kernel_rfl, rfl, ⟨aZ.refl _, aZ.refl _, aZ.eq (congrArg aK (tT hg11 rfl).symm), trivial⟩⟩, hO⟩
      refine iJ ?_
      exact ⟨⟨[(0, (eL aE f0)), (3, (eI i3)), (66, (aK false))], by kernel_rfl, rfl, ⟨aZ.refl _, aZ.refl _, aZ.eq (congrArg aK (tT hg11 rfl).symm), trivial⟩⟩, hO⟩
    · rintro T H ⟨hT, hO⟩
      refine cJ hT ?_
      clear hT
      refine aJ (aH ?_)
      refine bJ h1 (fun h1 => ?_) (fun h1 => ?_)
      · refine bV aF 1 [(2, (aK false))] ?_
        refine bK ?_
        obtain rfl := oI h1
        obtain rfl : _ = rr0 := ho0
        replace h0 : some false = some r := h0
        obtain rfl := oI h0
        exact aJ (bN (aQ (aQ (bN (aQ (Q_r hO))))))
      refine bL ?_
      refine cN [(0, (eL aE f0)), (3, (eI i3))] ?_
      refine aJ (aV (aH (?_)))
      refine aU aF 3 ?_
      refine bC ?_
      exact aJ (aH (⟨rfl, _, (oI h1).symm, .eq (by kernel_rfl), hO⟩))
  refine cV 0 ?_
  obtain rfl := oI h1
  obtain rfl : _ = rr0 := ho0
  replace h0 : xN  = some r := h0
  exact aJ (aS (aS (bM (aH (⟨rfl, .eq (by kernel_rfl), hO, h0⟩)))))

theorem SA (a0 : aG) (b1 : aG) (r : Int) (h0 : sY a0 b1 = some r) : bY Tryz.prog 76 [(aI a0), (aI b1)] (eI r) := by
  intro H0
  refine cF Tryz.func76 ?_
  have hO := aN.start H0
  unfold sY at h0
  refine aO ?_
  refine aU aF 3 ?_
  refine fQ 3 (aI a0) (by kernel_rfl) (by kernel_rfl) ?_
  refine fQ 3 (aI b1) (by kernel_rfl) (by kernel_rfl) ?_
  refine bC ?_
  refine bH [(2, (.rp (aI a0))), (3, (.rp (aI b1)))] ?_
  refine aO ?_
  refine aO ?_
  refine aU aF 8 ?_
  refine bR 1 ?_
  obtain ⟨x1, hx2, h0⟩ := aW h0
  refine cA (JD a0 _ hx2) hO ?_
  intro H hO
  refine bR 5 ?_
  obtain ⟨x4, hx5, h0⟩ := aW h0
  refine fU [(9, false)] 72 [(aI b1)] (aK x4) (!(!x1)) (by kernel_rfl) (by kernel_rfl) (by kernel_rfl) (fun hb6 => (JD b1 _ (fP hx5 hb6))) hO ?_
  intro H hO
  refine bC ?_
  refine bT [] [(13, (aK ((!x1) || (!x4))))] ?_
  refine bJ h0 (fun h0 => ?_) (fun h0 => ?_)
  · refine bV aF 1 [(4, (eI (0 : Int)))] ?_
    refine bK ?_
    obtain rfl := oI h0
    exact aJ (aQ (Q_r hO))
  refine bL ?_
  refine bH [(2, (.rp (aI a0))), (3, (.rp (aI b1)))] ?_
  refine aO ?_
  refine aY aF 5 [] [(18, (aK (!decide (a0.Kind = b1.Kind))))] ?_
  refine bJ h0 (fun h0 => ?_) (fun h0 => ?_)
  · refine aO ?_
    refine bV aF 3 [(21, (aK (decide (a0.Kind = (1 : Int)))))] ?_
    refine bJ h0 (fun h0 => ?_) (fun h0 => ?_)
    · refine bV aF 1 [(4, (eI (-1 : Int)))] ?_
      refine bK ?_
      obtain rfl := oI h0
      exact aJ (aQ (aQ (Q_r hO)))
    refine bL ?_
    refine bH [] ?_
    refine bV aF 1 [(4, (eI (1 : Int)))] ?_
    refine bK ?_
    obtain rfl := oI h0
    exact aJ (aQ (Q_r hO))
  refine bL ?_
  refine bH [(2, (.rp (aI a0))), (3, (.rp (aI b1)))] ?_
  refine aO ?_
  refine aY aF 5 [] [(26, (aK (!decide (a0.Num = b1.Num))))] ?_
  refine bJ h0 (fun h0 => ?_) (fun h0 => ?_)
  · refine aO ?_
    refine bV aF 5 [(31, (aK (decide (a0.Num < b1.Num))))] ?_
    refine bJ h0 (fun h0 => ?_) (fun h0 => ?_)
    · refine bV aF 1 [(4, (eI (-1 : Int)))] ?_
      refine bK ?_
      obtain rfl := oI h0
      exact aJ (aQ (aQ (Q_r hO)))
    refine bL ?_
    refine bH [] ?_
    refine bV aF 1 [(4, (eI (1 : Int)))] ?_
    refine bK ?_
    obtain rfl := oI h0
    exact aJ (aQ (Q_r hO))
  refine bL ?_
  refine bH [(2, (.rp (aI a0))), (3, (.rp (aI b1)))] ?_
  refine cH (fun T H => ∃ a2 : aG, ∃ b3 : aG, Has T [(2, (.rp (aI a2))), (3, (.rp (aI b3)))] ∧ aN ⟨H0, [], []⟩ H [] ∧ rR a2 b3 = some r) ?_ ?_
  · clear hO h0
    rintro T H ⟨a2, b3, hT, hO, h0⟩
    refine bA hT ?_
    clear hT
    unfold rR at h0
    refine aO ?_
    refine aY aF 7 [] [(70, (aK (!decide (((ByteArray.size a2.Text : Nat) : Int) = ((ByteArray.size b3.Text : Nat) : Int)))))] ?_
    refine bJ h0 (fun h0 => ?_) (fun h0 => ?_)
    · refine aO ?_
      refine bV aF 7 [(77, (aK (decide (((ByteArray.size a2.Text : Nat) : Int) < ((ByteArray.size b3.Text : Nat) : Int)))))] ?_
      refine bJ h0 (fun h0 => ?_) (fun h0 => ?_)
      · refine bV aF 1 [(4, (eI (-1 : Int)))] ?_
        refine bK ?_
        obtain rfl := oI h0
        exact aJ (aQ (aQ (Q_r hO)))
      refine bL ?_
      refine bH [] ?_
      refine bV aF 1 [(4, (eI (1 : Int)))] ?_
      refine bK ?_
      obtain rfl := oI h0
      exact aJ (aQ (Q_r hO))
    refine bL ?_
    refine bH [] ?_
    refine bV aF 1 [(4, (eI (0 : Int)))] ?_
    refine bK ?_
    obtain rfl := oI h0
    exact aJ (Q_r hO)
  refine aY aF 1 [] [(5, (eI (0 : Int)))] ?_
  refine bO 0 ?_
  refine cL [(2, (.rp (aI a0))), (3, (.rp (aI b1))), (5, (eI (0 : Int)))] ?_
  refine cC (fun T H => ∃ a2 : aG, ∃ b3 : aG, ∃ i5 : Int, Has T [(2, (.rp (aI a2))), (3, (.rp (aI b3))), (5, (eI i5))] ∧ aN ⟨H0, [], []⟩ H [] ∧ vA a2 b3 i5 = some r) ?_ ⟨a0, b1, (0 : Int), .eq (by kernel_rfl), hO, h0⟩
  clear hO h0
  rintro T H ⟨a2, b3, i5, hT, hO, h0⟩
  refine bA hT ?_
  clear hT
  unfold vA at h0
  obtain ⟨rr0, hl0, h0⟩ := aW h0
  refine bX (by kernel_rfl) (fun (s : Int) T H => Has T [(2, (.rp (aI a2))), (3, (.rp (aI b3))), (5, (eI s))] ∧ aN ⟨H0, [], []⟩ H []) hl0 ⟨.eq (by kernel_rfl), hO⟩ ?_
  clear hO
  rintro k0 s out1 T H ⟨hT, hO⟩ h1 ho0
  obtain ⟨i5, rfl⟩ : ∃ x, x = s := ⟨_, rfl⟩
  replace h1 : gN a2 b3 i5 = some out1 := h1
  refine bA hT ?_
  clear hT
  unfold gN at h1
  refine aO ?_
  refine aY aF 12 [] [(43, (aK ((decide (i5 < ((ByteArray.size a2.Text : Nat) : Int))) && (decide (i5 < ((ByteArray.size b3.Text : Nat) : Int))))))] ?_
  refine bJ h1 (fun h1 => ?_) (fun h1 => ?_)
  · refine bL ?_
    refine bH [(2, (.rp (aI a2))), (3, (.rp (aI b3))), (5, (eI i5))] ?_
    refine aO ?_
    refine bO 1 ?_
    refine aO ?_
    refine eS (eV [47, 51]) aF 9 ?_
    obtain ⟨c15, h1⟩ := bE h1
    obtain ⟨c16, h1⟩ := bE h1
    refine IP (Ds := [0 ≤ i5 ∧ i5 < ((ByteArray.size a2.Text : Nat) : Int), 0 ≤ i5 ∧ i5 < ((ByteArray.size b3.Text : Nat) : Int)]) (by kernel_rfl) ⟨c15, c16, trivial⟩ ?_
    refine bT [] [(54, (aK (!decide ((bt a2.Text i5) = (bt b3.Text i5)))))] ?_
    refine bJ h1 (fun h1 => ?_) (fun h1 => ?_)
    · refine aO ?_
      refine aO ?_
      refine eS (eV [56, 60]) aF 9 ?_
      obtain ⟨c18, h1⟩ := bE h1
      obtain ⟨c19, h1⟩ := bE h1
      refine IP (Ds := [0 ≤ i5 ∧ i5 < ((ByteArray.size a2.Text : Nat) : Int), 0 ≤ i5 ∧ i5 < ((ByteArray.size b3.Text : Nat) : Int)]) (by kernel_rfl) ⟨c18, c19, trivial⟩ ?_
      refine bH [(63, (aK (decide ((bt a2.Text i5) < (bt b3.Text i5)))))] ?_
      refine bJ h1 (fun h1 => ?_) (fun h1 => ?_)
      · refine bV aF 1 [(4, (eI (-1 : Int)))] ?_
        refine bK ?_
        obtain rfl := oI h1
        obtain rfl : _ = rr0 := ho0
        replace h0 : some (-1 : Int) = some r := h0
        obtain rfl := oI h0
        exact aJ (aQ (bN (aQ (aQ (bN (aQ (Q_r hO)))))))
      refine bL ?_
      refine bH [] ?_
      refine bV aF 1 [(4, (eI (1 : Int)))] ?_
      refine bK ?_
      obtain rfl := oI h1
      obtain rfl : _ = rr0 := ho0
      replace h0 : some (1 : Int) = some r := h0
      obtain rfl := oI h0
      exact aJ (bN (aQ (aQ (bN (aQ (Q_r hO))))))
    refine bL ?_
    refine cN [(2, (.rp (aI a2))), (3, (.rp (aI b3))), (5, (eI i5))] ?_
    refine aJ (aV (aH (?_)))
    refine aU aF 3 ?_
    refine bC ?_
    exact aJ (aH (⟨rfl, _, (oI h1).symm, .eq (by kernel_rfl), hO⟩))
  refine cV 0 ?_
  obtain rfl := oI h1
  obtain rfl : _ = rr0 := ho0
  replace h0 : rR a2 b3 = some r := h0
  exact aJ (aS (aS (bM (aH (⟨rfl, _, _, .eq (by kernel_rfl), hO, h0⟩)))))

theorem HZ (a0 : (List aG)) (b1 : (List aG)) (r : Int) (h0 : pX a0 b1 = some r) : bY Tryz.prog 51 [(eL aI a0), (eL aI b1)] (eI r) := by
  intro H0
  refine cF Tryz.func51 ?_
  have hO := aN.start H0
  unfold pX at h0
  refine aY aF 1 [] [] ?_
  refine aO ?_
  refine aO ?_
  refine aU aF 8 ?_
  refine bR 1 ?_
  obtain ⟨x1, hx2, h0⟩ := aW h0
  refine cA (AA a0 _ hx2) hO ?_
  intro H hO
  refine bR 5 ?_
  obtain ⟨x4, hx5, h0⟩ := aW h0
  refine fU [(10, false)] 37 [(eL aI b1)] (aK x4) (!(!x1)) (by kernel_rfl) (by kernel_rfl) (by kernel_rfl) (fun hb6 => (AA b1 _ (fP hx5 hb6))) hO ?_
  intro H hO
  refine bC ?_
  refine bT [] [(14, (aK ((!x1) || (!x4))))] ?_
  refine bJ h0 (fun h0 => ?_) (fun h0 => ?_)
  · refine bV aF 1 [(4, (eI (0 : Int)))] ?_
    refine bK ?_
    obtain rfl := oI h0
    exact aJ (aQ (Q_r hO))
  refine bL ?_
  refine bH [(0, (eL aI a0)), (1, (eL aI b1))] ?_
  refine cH (fun T H => Has T [(0, (eL aI a0)), (1, (eL aI b1))] ∧ aN ⟨H0, [], []⟩ H [] ∧ rI a0 b1 = some r) ?_ ?_
  · clear hO h0
    rintro T H ⟨hT, hO, h0⟩
    refine bA hT ?_
    clear hT
    unfold rI at h0
    refine aO ?_
    refine aY aF 5 [] [(43, (aK (decide ((lN a0) < (lN b1)))))] ?_
    refine bJ h0 (fun h0 => ?_) (fun h0 => ?_)
    · refine bV aF 1 [(4, (eI (-1 : Int)))] ?_
      refine bK ?_
      obtain rfl := oI h0
      exact aJ (aQ (Q_r hO))
    refine bL ?_
    refine bH [(0, (eL aI a0)), (1, (eL aI b1))] ?_
    refine aO ?_
    refine bV aF 5 [(48, (aK (decide ((lN b1) < (lN a0)))))] ?_
    refine bJ h0 (fun h0 => ?_) (fun h0 => ?_)
    · refine bV aF 1 [(4, (eI (1 : Int)))] ?_
      refine bK ?_
      obtain rfl := oI h0
      exact aJ (aQ (Q_r hO))
    refine bL ?_
    refine bH [] ?_
    refine bV aF 1 [(4, (eI (0 : Int)))] ?_
    refine bK ?_
    obtain rfl := oI h0
    exact aJ (Q_r hO)
  refine aY aF 1 [] [(5, (eI (0 : Int)))] ?_
  refine bO 0 ?_
  refine cL [(0, (eL aI a0)), (1, (eL aI b1)), (5, (eI (0 : Int)))] ?_
  refine cC (fun T H => ∃ i5 : Int, Has T [(0, (eL aI a0)), (1, (eL aI b1)), (5, (eI i5))] ∧ aN ⟨H0, [], []⟩ H [] ∧ uZ a0 b1 i5 = some r) ?_ ⟨(0 : Int), .eq (by kernel_rfl), hO, h0⟩
  clear hO h0
  rintro T H ⟨i5, hT, hO, h0⟩
  refine bA hT ?_
  clear hT
  unfold uZ at h0
  obtain ⟨rr0, hl0, h0⟩ := aW h0
  refine bX (by kernel_rfl) (fun (s : Int) T H => Has T [(0, (eL aI a0)), (1, (eL aI b1)), (5, (eI s))] ∧ aN ⟨H0, [], []⟩ H []) hl0 ⟨.eq (by kernel_rfl), hO⟩ ?_
  clear hO
  rintro k0 s out1 T H ⟨hT, hO⟩ h1 ho0
  obtain ⟨i5, rfl⟩ : ∃ x, x = s := ⟨_, rfl⟩
  replace h1 : gM a0 b1 i5 = some out1 := h1
  refine bA hT ?_
  clear hT
  unfold gM at h1
  refine aO ?_
  refine aY aF 10 [] [(24, (aK ((decide (i5 < (lN a0))) && (decide (i5 < (lN b1))))))] ?_
  refine bJ h1 (fun h1 => ?_) (fun h1 => ?_)
  · refine bL ?_
    refine bH [(0, (eL aI a0)), (1, (eL aI b1)), (5, (eI i5))] ?_
    refine aO ?_
    refine bO 1 ?_
    refine aO ?_
    refine eS (eV [30, 34, 35]) aF 10 ?_
    obtain ⟨c11, h1⟩ := bE h1
    obtain ⟨c12, h1⟩ := bE h1
    refine dA 8 [0 ≤ i5 ∧ i5 < (lN a0), 0 ≤ i5 ∧ i5 < (lN b1)] ⟨c11, c12, trivial⟩ ?_
    obtain ⟨x13, hx14, h1⟩ := aW h1
    refine yA (SA (gD a0 i5) (gD b1 i5) _ hx14) hO ?_
    intro H hO
    refine iJ ?_
    refine bT [] [(6, (eI x13))] ?_
    refine aY aF 2 [] [(37, (aK (!decide (x13 = (0 : Int)))))] ?_
    refine bJ h1 (fun h1 => ?_) (fun h1 => ?_)
    · refine bV aF 2 [(4, (eI x13))] ?_
      refine bK ?_
      obtain rfl := oI h1
      obtain rfl : _ = rr0 := ho0
      replace h0 : some x13 = some r := h0
      obtain rfl := oI h0
      exact aJ (bN (aQ (aQ (bN (aQ (Q_r hO))))))
    refine bL ?_
    refine cN [(0, (eL aI a0)), (1, (eL aI b1)), (5, (eI i5))] ?_
    refine aJ (aV (aH (?_)))
    refine aU aF 3 ?_
    refine bC ?_
    exact aJ (aH (⟨rfl, _, (oI h1).symm, .eq (by kernel_rfl), hO⟩))
  refine cV 0 ?_
  obtain rfl := oI h1
  obtain rfl : _ = rr0 := ho0
  replace h0 : rI a0 b1 = some r := h0
  exact aJ (aS (aS (bM (aH (⟨rfl, .eq (by kernel_rfl), hO, h0⟩)))))

theorem DZ (l0 : (List aC)) (r : (List (List aG))) (h0 : pS l0 = some r) : bY Tryz.prog 27 [(eL aD l0)] (eL (eL aI) r) := by
  intro H0
  refine cF Tryz.func27 ?_
  have hO := aN.start H0
  unfold pS at h0
  refine aY aF 1 [] [] ?_
  refine aO ?_
  refine aU aF 2 ?_
  refine iM (xs := []) (k := 1) (by kernel_rfl) (by kernel_rfl) ?_
  refine bC ?_
  refine bT [] [(3, (.sl true 0 (fun _ => .bad)))] ?_
  refine cH (fun T H => ∃ bS : List (List aG), ∃ lo1 : Nat, Has T [(3, (.msl 1 lo1 0 (List.length bS)))] ∧ aN ⟨H0, [], []⟩ H [(lo1, 1, List.map (eL aI) bS)] ∧ BP bS = some r) ?_ ?_
  · clear hO h0
    rintro T H ⟨bS, lo1, hT, hO, h0⟩
    refine bA hT ?_
    clear hT
    unfold BP at h0
    refine bV aF 2 [(2, (.msl 1 lo1 0 (List.length bS)))] ?_
    refine bK ?_
    refine cN [(2, (.msl 1 lo1 0 (List.length bS)))] ?_
    refine tE (en := (eL aI)) bS 0 0 2 1 lo1 (List.length bS) hO (by kernel_rfl) (by kernel_rfl) (by kernel_rfl) (L' := []) (by kernel_rfl) ?_
    intro H2 hO
    obtain rfl := oI h0
    exact aJ (Q_r hO)
  refine aY aF 1 [] [(4, (eI (0 : Int)))] ?_
  refine bO 0 ?_
  refine cL [(0, (eL aD l0)), (3, (.sl true 0 (fun _ => .bad))), (4, (eI (0 : Int)))] ?_
  refine uM (el := (fun _ => .bad)) 1 3 1 hO (by kernel_rfl) ?_
  intro lo31 H32 hO
  refine cC (fun T H => ∃ bS : List (List aG), ∃ i4 : Int, ∃ lo4 : Nat, Has T [(0, (eL aD l0)), (3, (.msl 1 lo4 0 (List.length bS))), (4, (eI i4))] ∧ aN ⟨H0, [], []⟩ H [(lo4, 1, List.map (eL aI) bS)] ∧ AV l0 bS i4 = some r) ?_ ⟨([] : List (List aG)), (0 : Int), lo31, .eq (by kernel_rfl), hO, h0⟩
  clear hO h0
  rintro T H ⟨bS, i4, lo4, hT, hO, h0⟩
  refine bA hT ?_
  clear hT
  unfold AV at h0
  obtain ⟨rr0, hl0, h0⟩ := aW h0
  refine bX (by kernel_rfl) (fun (s : List (List aG) × Int) T H => ∃ lo4 : Nat, Has T [(0, (eL aD l0)), (3, (.msl 1 lo4 0 (List.length s.1))), (4, (eI s.2))] ∧ aN ⟨H0, [], []⟩ H [(lo4, 1, List.map (eL aI) s.1)]) hl0 ⟨lo4, .eq (by kernel_rfl), hO⟩ ?_
  clear hO
  rintro k0 s out1 T H ⟨lo4, hT, hO⟩ h1 ho0
  obtain ⟨bS, i4⟩ := s
  replace h1 : oE l0 bS i4 = some out1 := h1
  try dsimp only at hT
  refine bA hT ?_
  clear hT
  unfold oE at h1
  refine aO ?_
  refine aY aF 4 [] [(11, (aK (decide (i4 < (lN l0)))))] ?_
  refine bJ h1 (fun h1 => ?_) (fun h1 => ?_)
  · refine bL ?_
    refine bH [(0, (eL aD l0)), (3, (.msl 1 lo4 0 (List.length bS))), (4, (eI i4))] ?_
    refine cH (fun T H => ∃ bS : List (List aG), ∃ lo6 : Nat, Has T [(0, (eL aD l0)), (3, (.msl 1 lo6 0 (List.length bS))), (4, (eI i4))] ∧ aN ⟨H0, [], []⟩ H [(lo6, 1, List.map (eL aI) bS)] ∧ vS l0 bS i4 = some out1) ?_ ?_
    · clear hO h1
      rintro T H ⟨bS, lo6, hT, hO, h1⟩
      refine bA hT ?_
      clear hT
      unfold vS at h1
      refine aU aF 3 ?_
      refine bC ?_
      exact aJ (aH (⟨rfl, _, (oI h1).symm, _, .eq (by kernel_rfl), hO⟩))
    refine bO 1 ?_
    refine aY aF 1 [] [(5, (eI (0 : Int)))] ?_
    refine cH (fun T H => ∃ bS : List (List aG), ∃ at5 : Int, ∃ lo7 : Nat, Has T [(0, (eL aD l0)), (3, (.msl 1 lo7 0 (List.length bS))), (4, (eI i4)), (5, (eI at5))] ∧ aN ⟨H0, [], []⟩ H [(lo7, 1, List.map (eL aI) bS)] ∧ vZ l0 bS i4 at5 = some out1) ?_ ?_
    · clear hO h1
      rintro T H ⟨bS, at5, lo7, hT, hO, h1⟩
      refine bA hT ?_
      clear hT
      unfold vZ at h1
      refine aO ?_
      refine aO ?_
      obtain ⟨c8, h1⟩ := bE h1
      obtain ⟨c9, h1⟩ := bE h1
      obtain ⟨x10, hx11, h1⟩ := aW h1
      refine eS (eV [46]) aF 16 ?_
      refine yB (K := fun T H => Has (lift T) [(0, (eL aD l0)), (3, (.msl 1 lo7 0 (List.length bS))), (4, (eI i4)), (5, (eI at5)), (48, (aK ((decide (at5 < (lN bS))) && x10)))] ∧ aN ⟨H0, [], []⟩ H [(lo7, 1, List.map (eL aI) bS)]) ?_ ?_
      · refine qH 5 ?_
        refine sE (t := 37) (e := decide (at5 < (lN bS))) (by kernel_rfl) (fun hg12 => ?_) (fun hg12 => ?_)
        · refine dA 8 [0 ≤ at5 ∧ at5 < (lN bS)] ⟨(c8 hg12), trivial⟩ ?_
          refine CQ 0 lo7 1 (0 + Int.toNat at5) (eL aI (gD bS at5)) (eL aI (gD bS at5)) (List.map (eL aI) bS) (by kernel_rfl) (by kernel_rfl) (by kernel_rfl) hO (by kernel_rfl) (dB (c8 hg12)) ?_
          refine dA 14 [0 ≤ i4 ∧ i4 < (lN l0)] ⟨(c9 hg12), trivial⟩ ?_
          refine CN 30 [(eL aI (gD bS at5)), (eL aI ((gD l0 i4).Row))] (aK x10) (by kernel_rfl) (by kernel_rfl) (DU (gD bS at5) ((gD l0 i4).Row) _ (fP hx11 hg12)) hO ?_
          intro H hO
          refine iJ ?_
          exact ⟨⟨[(0, (eL aD l0)), (3, (.msl 1 lo7 0 (List.length bS))), (4, (eI i4)), (5, (eI at5)), (48, (aK x10))], by kernel_rfl, rfl, ⟨aZ.refl _, aZ.refl _, aZ.refl _, aZ.refl _, aZ.eq (congrArg aK (tT hg12 rfl).symm), trivial⟩⟩, hO⟩
        refine iJ ?_
        exact ⟨⟨[(0, (eL aD l0)), (3, (.msl 1 lo7 0 (List.length bS))), (4, (eI i4)), (5, (eI at5)), (48, (aK false))], by kernel_rfl, rfl, ⟨aZ.refl _, aZ.refl _, aZ.refl _, aZ.refl _, aZ.eq (congrArg aK (tT hg12 rfl).symm), trivial⟩⟩, hO⟩
      · rintro T H ⟨hT, hO⟩
        refine cJ hT ?_
        clear hT
        refine aJ (aH ?_)
        refine bJ h1 (fun h1 => ?_) (fun h1 => ?_)
        · refine cV 1 ?_
          exact aJ (aS (bM (aH (⟨rfl, _, _, .eq (by kernel_rfl), hO, h1⟩))))
        refine bL ?_
        refine bH [(0, (eL aD l0)), (3, (.msl 1 lo7 0 (List.length bS))), (4, (eI i4)), (5, (eI at5))] ?_
        refine aO ?_
        refine aU aF 6 ?_
        refine iM (xs := []) (k := 1) (by kernel_rfl) (by kernel_rfl) ?_
        obtain ⟨c14, h1⟩ := bE h1
        refine jT 4 [0 ≤ at5 ∧ at5 ≤ (lN bS)] ⟨c14, trivial⟩ ?_
        obtain ⟨c16, h1⟩ := bE h1
        refine TX (e := (eL aI)) (List.take (Int.toNat at5) bS) (fun _ => .bad) 1 24 (.msl 1 lo7 0 (Int.toNat at5)) (fun lo15 => [(lo7, 1, List.map (eL aI) bS), (lo15, 1, List.map (eL aI) (List.take (Int.toNat at5) bS))]) (by kernel_rfl) (by kernel_rfl) hO (ZR hO 0 (by kernel_rfl) (Int.toNat_le.2 (And.right c14))) c16 (fun _ => by kernel_rfl) ?_
        intro lo15 H hO
        refine bC ?_
        refine bT [] [(6, (.msl 1 lo15 0 (List.length (List.take (Int.toNat at5) bS))))] ?_
        refine aO ?_
        refine aU aF 9 ?_
        obtain ⟨c17, h1⟩ := bE h1
        refine jT 6 [0 ≤ i4 ∧ i4 < (lN l0)] ⟨c17, trivial⟩ ?_
        refine iM (xs := [(eL aI ((gD l0 i4).Row))]) (k := 1) (by kernel_rfl) (by kernel_rfl) ?_
        obtain ⟨c19, h1⟩ := bE h1
        refine rD (e := (eL aI)) (List.take (Int.toNat at5) bS) ([(gD l0 i4).Row]) 1 lo15 1 24 (cZ [(eL aI ((gD l0 i4).Row))]) (fun lo18 => [(lo7, 1, List.map (eL aI) bS), (lo18, 1, List.map (eL aI) ((List.take (Int.toNat at5) bS) ++ ([(gD l0 i4).Row])))]) (by kernel_rfl) (by kernel_rfl) hO (by kernel_rfl) (by kernel_rfl) c19 (fun _ => by kernel_rfl) ?_
        intro lo18 H hO
        refine bC ?_
        refine bT [6] [(6, (.msl 1 lo18 0 (List.length ((List.take (Int.toNat at5) bS) ++ ([(gD l0 i4).Row])))))] ?_
        refine aU aF 6 ?_
        obtain ⟨c20, h1⟩ := bE h1
        refine jT 4 [0 ≤ at5 ∧ at5 ≤ (lN bS)] ⟨c20, trivial⟩ ?_
        obtain ⟨c22, h1⟩ := bE h1
        refine rD (e := (eL aI)) ((List.take (Int.toNat at5) bS) ++ ([(gD l0 i4).Row])) (List.drop (Int.toNat at5) bS) 1 lo18 1 24 (.msl 1 lo7 (0 + Int.toNat at5) (List.length bS - Int.toNat at5)) (fun lo21 => [(lo7, 1, List.map (eL aI) bS), (lo21, 1, List.map (eL aI) (((List.take (Int.toNat at5) bS) ++ ([(gD l0 i4).Row])) ++ (List.drop (Int.toNat at5) bS)))]) (by kernel_rfl) (by kernel_rfl) hO (by kernel_rfl) (YO hO 0 (by kernel_rfl) rfl (Int.toNat_le.2 (And.right c20))) c22 (fun _ => by kernel_rfl) ?_
        intro lo21 H hO
        refine bC ?_
        replace hO := hO.pick (L' := [(lo21, 1, List.map (eL aI) (((List.take (Int.toNat at5) bS) ++ ([(gD l0 i4).Row])) ++ (List.drop (Int.toNat at5) bS)))]) [1] (by decide) (by kernel_rfl)
        exact aJ (aV (aH (⟨rfl, _, _, .eq (by kernel_rfl), hO, h1⟩)))
    refine bO 2 ?_
    refine cL [(0, (eL aD l0)), (3, (.msl 1 lo4 0 (List.length bS))), (4, (eI i4)), (5, (eI (0 : Int)))] ?_
    refine cC (fun T H => ∃ bS : List (List aG), ∃ at5 : Int, ∃ lo24 : Nat, Has T [(0, (eL aD l0)), (3, (.msl 1 lo24 0 (List.length bS))), (4, (eI i4)), (5, (eI at5))] ∧ aN ⟨H0, [], []⟩ H [(lo24, 1, List.map (eL aI) bS)] ∧ BL l0 bS i4 at5 = some out1) ?_ ⟨bS, (0 : Int), lo4, .eq (by kernel_rfl), hO, h1⟩
    clear hO h1
    rintro T H ⟨bS, at5, lo24, hT, hO, h1⟩
    refine bA hT ?_
    clear hT
    unfold BL at h1
    obtain ⟨rr1, hl1, h1⟩ := aW h1
    refine bX (by kernel_rfl) (fun (s : List (List aG) × Int) T H => ∃ lo24 : Nat, Has T [(0, (eL aD l0)), (3, (.msl 1 lo24 0 (List.length s.1))), (4, (eI i4)), (5, (eI s.2))] ∧ aN ⟨H0, [], []⟩ H [(lo24, 1, List.map (eL aI) s.1)]) hl1 ⟨lo24, .eq (by kernel_rfl), hO⟩ ?_
    clear hO
    rintro k1 s out2 T H ⟨lo24, hT, hO⟩ h2 ho1
    obtain ⟨bS, at5⟩ := s
    replace h2 : mI l0 i4 bS at5 = some out2 := h2
    try dsimp only at hT
    refine bA hT ?_
    clear hT
    unfold mI at h2
    refine aO ?_
    refine aO ?_
    obtain ⟨c25, h2⟩ := bE h2
    obtain ⟨c26, h2⟩ := bE h2
    obtain ⟨x27, hx28, h2⟩ := aW h2
    refine eS (eV [27]) aF 17 ?_
    refine yB (K := fun T H => Has (lift T) [(0, (eL aD l0)), (3, (.msl 1 lo24 0 (List.length bS))), (4, (eI i4)), (5, (eI at5)), (30, (aK ((decide (at5 < (lN bS))) && (decide (x27 < (0 : Int))))))] ∧ aN ⟨H0, [], []⟩ H [(lo24, 1, List.map (eL aI) bS)]) ?_ ?_
    · refine qH 5 ?_
      refine sE (t := 18) (e := decide (at5 < (lN bS))) (by kernel_rfl) (fun hg29 => ?_) (fun hg29 => ?_)
      · refine dA 8 [0 ≤ at5 ∧ at5 < (lN bS)] ⟨(c25 hg29), trivial⟩ ?_
        refine CQ 0 lo24 1 (0 + Int.toNat at5) (eL aI (gD bS at5)) (eL aI (gD bS at5)) (List.map (eL aI) bS) (by kernel_rfl) (by kernel_rfl) (by kernel_rfl) hO (by kernel_rfl) (dB (c25 hg29)) ?_
        refine dA 14 [0 ≤ i4 ∧ i4 < (lN l0)] ⟨(c26 hg29), trivial⟩ ?_
        refine CN 51 [(eL aI (gD bS at5)), (eL aI ((gD l0 i4).Row))] (eI x27) (by kernel_rfl) (by kernel_rfl) (HZ (gD bS at5) ((gD l0 i4).Row) _ (fP hx28 hg29)) hO ?_
        intro H hO
        refine iJ ?_
        exact ⟨⟨[(0, (eL aD l0)), (3, (.msl 1 lo24 0 (List.length bS))), (4, (eI i4)), (5, (eI at5)), (30, (aK (decide (x27 < (0 : Int)))))], by kernel_rfl, rfl, ⟨aZ.refl _, aZ.refl _, aZ.refl _, aZ.refl _, aZ.eq (congrArg aK (tT hg29 rfl).symm), trivial⟩⟩, hO⟩
      refine iJ ?_
      exact ⟨⟨[(0, (eL aD l0)), (3, (.msl 1 lo24 0 (List.length bS))), (4, (eI i4)), (5, (eI at5)), (30, (aK false))], by kernel_rfl, rfl, ⟨aZ.refl _, aZ.refl _, aZ.refl _, aZ.refl _, aZ.eq (congrArg aK (tT hg29 rfl).symm), trivial⟩⟩, hO⟩
    · rintro T H ⟨hT, hO⟩
      refine cJ hT ?_
      clear hT
      refine aJ (aH ?_)
      refine bJ h2 (fun h2 => ?_) (fun h2 => ?_)
      · refine bL ?_
        refine bH [(0, (eL aD l0)), (3, (.msl 1 lo24 0 (List.length bS))), (4, (eI i4)), (5, (eI at5))] ?_
        refine bO 3 ?_
        refine aU aF 3 ?_
        refine bC ?_
        exact aJ (aV (aH (⟨rfl, _, (oI h2).symm, _, .eq (by kernel_rfl), hO⟩)))
      refine cV 2 ?_
      obtain rfl := oI h2
      obtain rfl : _ = rr1 := ho1
      replace h1 : vZ l0 bS i4 at5 = some out1 := h1
      exact aJ (aS (aS (bM (aH (⟨rfl, _, _, _, .eq (by kernel_rfl), hO, h1⟩)))))
  refine cV 0 ?_
  obtain rfl := oI h1
  obtain rfl : _ = rr0 := ho0
  replace h0 : BP bS = some r := h0
  exact aJ (aS (aS (bM (aH (⟨rfl, _, _, .eq (by kernel_rfl), hO, h0⟩)))))

theorem BU (l0 : (List aC)) (r1 : (List aG)) (r : (List aA)) (h0 : oF l0 r1 = some r) : bY Tryz.prog 29 [(eL aD l0), (eL aI r1)] (eL aE r) := by
  intro H0
  refine cF Tryz.func29 ?_
  have hO := aN.start H0
  unfold oF at h0
  refine aY aF 1 [] [] ?_
  refine aO ?_
  refine aU aF 2 ?_
  refine iM (xs := []) (k := 2) (by kernel_rfl) (by kernel_rfl) ?_
  refine bC ?_
  refine bT [] [(5, (.sl true 0 (fun _ => .bad)))] ?_
  refine cH (fun T H => ∃ f5 : List aA, ∃ lo1 : Nat, Has T [(5, (.msl 2 lo1 0 (List.length f5)))] ∧ aN ⟨H0, [], []⟩ H [(lo1, 2, List.map aE f5)] ∧ zK f5 = some r) ?_ ?_
  · clear hO h0
    rintro T H ⟨f5, lo1, hT, hO, h0⟩
    refine bA hT ?_
    clear hT
    unfold zK at h0
    refine bV aF 2 [(4, (.msl 2 lo1 0 (List.length f5)))] ?_
    refine bK ?_
    refine cN [(4, (.msl 2 lo1 0 (List.length f5)))] ?_
    refine tE (en := aE) f5 0 0 4 2 lo1 (List.length f5) hO (by kernel_rfl) (by kernel_rfl) (by kernel_rfl) (L' := []) (by kernel_rfl) ?_
    intro H2 hO
    obtain rfl := oI h0
    exact aJ (Q_r hO)
  refine aY aF 1 [] [(6, (eI (0 : Int)))] ?_
  refine bO 0 ?_
  refine cL [(0, (eL aD l0)), (1, (eL aI r1)), (5, (.sl true 0 (fun _ => .bad))), (6, (eI (0 : Int)))] ?_
  refine uM (el := (fun _ => .bad)) 2 5 2 hO (by kernel_rfl) ?_
  intro lo16 H17 hO
  refine cC (fun T H => ∃ f5 : List aA, ∃ i6 : Int, ∃ lo4 : Nat, Has T [(0, (eL aD l0)), (1, (eL aI r1)), (5, (.msl 2 lo4 0 (List.length f5))), (6, (eI i6))] ∧ aN ⟨H0, [], []⟩ H [(lo4, 2, List.map aE f5)] ∧ yZ l0 r1 f5 i6 = some r) ?_ ⟨([] : List aA), (0 : Int), lo16, .eq (by kernel_rfl), hO, h0⟩
  clear hO h0
  rintro T H ⟨f5, i6, lo4, hT, hO, h0⟩
  refine bA hT ?_
  clear hT
  unfold yZ at h0
  obtain ⟨rr0, hl0, h0⟩ := aW h0
  refine bX (by kernel_rfl) (fun (s : List aA × Int) T H => ∃ lo4 : Nat, Has T [(0, (eL aD l0)), (1, (eL aI r1)), (5, (.msl 2 lo4 0 (List.length s.1))), (6, (eI s.2))] ∧ aN ⟨H0, [], []⟩ H [(lo4, 2, List.map aE s.1)]) hl0 ⟨lo4, .eq (by kernel_rfl), hO⟩ ?_
  clear hO
  rintro k0 s out1 T H ⟨lo4, hT, hO⟩ h1 ho0
  obtain ⟨f5, i6⟩ := s
  replace h1 : mY l0 r1 f5 i6 = some out1 := h1
  try dsimp only at hT
  refine bA hT ?_
  clear hT
  unfold mY at h1
  refine aO ?_
  refine aY aF 4 [] [(11, (aK (decide (i6 < (lN l0)))))] ?_
  refine bJ h1 (fun h1 => ?_) (fun h1 => ?_)
  · refine bL ?_
    refine bH [(0, (eL aD l0)), (1, (eL aI r1)), (5, (.msl 2 lo4 0 (List.length f5))), (6, (eI i6))] ?_
    refine cH (fun T H => ∃ f5 : List aA, ∃ lo6 : Nat, Has T [(0, (eL aD l0)), (1, (eL aI r1)), (5, (.msl 2 lo6 0 (List.length f5))), (6, (eI i6))] ∧ aN ⟨H0, [], []⟩ H [(lo6, 2, List.map aE f5)] ∧ uG l0 r1 f5 i6 = some out1) ?_ ?_
    · clear hO h1
      rintro T H ⟨f5, lo6, hT, hO, h1⟩
      refine bA hT ?_
      clear hT
      unfold uG at h1
      refine aU aF 3 ?_
      refine bC ?_
      exact aJ (aH (⟨rfl, _, (oI h1).symm, _, .eq (by kernel_rfl), hO⟩))
    refine bO 1 ?_
    refine aO ?_
    refine aU aF 7 ?_
    obtain ⟨c7, h1⟩ := bE h1
    refine jT 6 [0 ≤ i6 ∧ i6 < (lN l0)] ⟨c7, trivial⟩ ?_
    obtain ⟨x8, hx9, h1⟩ := aW h1
    refine cA (DU ((gD l0 i6).Row) r1 _ hx9) hO ?_
    intro H hO
    refine cW ?_
    refine bT [] [(20, (aK x8))] ?_
    refine bJ h1 (fun h1 => ?_) (fun h1 => ?_)
    · refine eS (eV [26, 31, 33]) aF 15 ?_
      obtain ⟨c12, h1⟩ := bE h1
      obtain ⟨c13, h1⟩ := bE h1
      refine dA 12 [0 ≤ i6 ∧ i6 < (lN l0), 0 ≤ i6 ∧ i6 < (lN l0)] ⟨c12, c13, trivial⟩ ?_
      refine BK (xs := [(aE (aA.mk ((gD l0 i6).At) ((gD l0 i6).Net)))]) (k := 2) (by kernel_rfl) (by kernel_rfl) ?_
      obtain ⟨c15, h1⟩ := bE h1
      refine zQ (e := aE) f5 ([aA.mk ((gD l0 i6).At) ((gD l0 i6).Net)]) 0 lo4 2 16 (cZ [(aE (aA.mk ((gD l0 i6).At) ((gD l0 i6).Net)))]) (fun lo14 => [(lo14, 2, List.map aE (f5 ++ ([aA.mk ((gD l0 i6).At) ((gD l0 i6).Net)])))]) (by kernel_rfl) (by kernel_rfl) hO (by kernel_rfl) (by kernel_rfl) c15 (fun _ => by kernel_rfl) ?_
      intro lo14 H hO
      refine iJ ?_
      exact aJ (aV (aH (⟨rfl, _, _, .eq (by kernel_rfl), hO, h1⟩)))
    refine bL ?_
    exact aJ (aV (aH (⟨rfl, _, _, .eq (by kernel_rfl), hO, h1⟩)))
  refine cV 0 ?_
  obtain rfl := oI h1
  obtain rfl : _ = rr0 := ho0
  replace h0 : zK f5 = some r := h0
  exact aJ (aS (aS (bM (aH (⟨rfl, _, _, .eq (by kernel_rfl), hO, h0⟩)))))

theorem OU (l0 : (List aC)) (r : Bool) (h0 : xB l0 = some r) : bY Tryz.prog 25 [(eL aD l0)] (aK r) := by
  intro H0
  refine cF Tryz.func25 ?_
  have hO := aN.start H0
  unfold xB at h0
  refine aY aF 1 [] [] ?_
  refine aO ?_
  refine aY aF 3 [] [(9, (aK (decide ((4096 : Int) < (lN l0)))))] ?_
  refine bJ h0 (fun h0 => ?_) (fun h0 => ?_)
  · refine bV aF 1 [(2, (aK false))] ?_
    refine bK ?_
    obtain rfl := oI h0
    exact aJ (aQ (Q_r hO))
  refine bL ?_
  refine bH [(0, (eL aD l0))] ?_
  refine cH (fun T H => Has T [(0, (eL aD l0))] ∧ aN ⟨H0, [], []⟩ H [] ∧ xY l0 = some r) ?_ ?_
  · clear hO h0
    rintro T H ⟨hT, hO, h0⟩
    refine bA hT ?_
    clear hT
    unfold xY at h0
    refine aO ?_
    refine aU aF 3 ?_
    refine bR 1 ?_
    obtain ⟨x2, hx3, h0⟩ := aW h0
    refine cA (DZ l0 _ hx3) hO ?_
    intro H hO
    refine bC ?_
    refine bT [] [(5, (eL (eL aI) x2))] ?_
    refine cH (fun T H => Has T [] ∧ aN ⟨H0, [], []⟩ H [] ∧ DL  = some r) ?_ ?_
    · clear hO h0
      rintro T H ⟨hT, hO, h0⟩
      refine bA hT ?_
      clear hT
      unfold DL at h0
      refine bV aF 1 [(2, (aK true))] ?_
      refine bK ?_
      obtain rfl := oI h0
      exact aJ (Q_r hO)
    refine aY aF 1 [] [(6, (eI (0 : Int)))] ?_
    refine bO 2 ?_
    refine cL [(0, (eL aD l0)), (5, (eL (eL aI) x2)), (6, (eI (0 : Int)))] ?_
    refine cC (fun T H => ∃ cU : (List (List aG)), ∃ i6 : Int, Has T [(0, (eL aD l0)), (5, (eL (eL aI) cU)), (6, (eI i6))] ∧ aN ⟨H0, [], []⟩ H [] ∧ DY l0 cU i6 = some r) ?_ ⟨x2, (0 : Int), .eq (by kernel_rfl), hO, h0⟩
    clear hO h0
    rintro T H ⟨cU, i6, hT, hO, h0⟩
    refine bA hT ?_
    clear hT
    unfold DY at h0
    obtain ⟨rr0, hl0, h0⟩ := aW h0
    refine bX (by kernel_rfl) (fun (s : Int) T H => Has T [(0, (eL aD l0)), (5, (eL (eL aI) cU)), (6, (eI s))] ∧ aN ⟨H0, [], []⟩ H []) hl0 ⟨.eq (by kernel_rfl), hO⟩ ?_
    clear hO
    rintro k0 s out1 T H ⟨hT, hO⟩ h1 ho0
    obtain ⟨i6, rfl⟩ : ∃ x, x = s := ⟨_, rfl⟩
    replace h1 : rK l0 cU i6 = some out1 := h1
    refine bA hT ?_
    clear hT
    unfold rK at h1
    refine aO ?_
    refine aY aF 4 [] [(78, (aK (decide (i6 < (lN cU)))))] ?_
    refine bJ h1 (fun h1 => ?_) (fun h1 => ?_)
    · refine bL ?_
      refine bH [(0, (eL aD l0)), (5, (eL (eL aI) cU)), (6, (eI i6))] ?_
      refine aO ?_
      refine bO 3 ?_
      refine aO ?_
      refine aU aF 8 ?_
      obtain ⟨c6, h1⟩ := bE h1
      refine jT 5 [0 ≤ i6 ∧ i6 < (lN cU)] ⟨c6, trivial⟩ ?_
      obtain ⟨x7, hx8, h1⟩ := aW h1
      refine cA (BU l0 (gD cU i6) _ hx8) hO ?_
      intro H hO
      refine bC ?_
      refine bT [] [(88, (aK (decide ((1024 : Int) < (lN x7)))))] ?_
      refine bJ h1 (fun h1 => ?_) (fun h1 => ?_)
      · refine bV aF 1 [(2, (aK false))] ?_
        refine bK ?_
        obtain rfl := oI h1
        obtain rfl : _ = rr0 := ho0
        replace h0 : some false = some r := h0
        obtain rfl := oI h0
        exact aJ (bN (aQ (aQ (bN (aQ (Q_r hO))))))
      refine bL ?_
      refine cN [(0, (eL aD l0)), (5, (eL (eL aI) cU)), (6, (eI i6))] ?_
      refine aJ (aV (aH (?_)))
      refine aU aF 3 ?_
      refine bC ?_
      exact aJ (aH (⟨rfl, _, (oI h1).symm, .eq (by kernel_rfl), hO⟩))
    refine cV 2 ?_
    obtain rfl := oI h1
    obtain rfl : _ = rr0 := ho0
    replace h0 : DL  = some r := h0
    exact aJ (aS (aS (bM (aH (⟨rfl, .eq (by kernel_rfl), hO, h0⟩)))))
  refine aY aF 1 [] [(3, (eI (0 : Int)))] ?_
  refine bO 0 ?_
  refine cL [(0, (eL aD l0)), (3, (eI (0 : Int)))] ?_
  refine cC (fun T H => ∃ i3 : Int, Has T [(0, (eL aD l0)), (3, (eI i3))] ∧ aN ⟨H0, [], []⟩ H [] ∧ DX l0 i3 = some r) ?_ ⟨(0 : Int), .eq (by kernel_rfl), hO, h0⟩
  clear hO h0
  rintro T H ⟨i3, hT, hO, h0⟩
  refine bA hT ?_
  clear hT
  unfold DX at h0
  obtain ⟨rr0, hl0, h0⟩ := aW h0
  refine bX (by kernel_rfl) (fun (s : Int) T H => Has T [(0, (eL aD l0)), (3, (eI s))] ∧ aN ⟨H0, [], []⟩ H []) hl0 ⟨.eq (by kernel_rfl), hO⟩ ?_
  clear hO
  rintro k0 s out1 T H ⟨hT, hO⟩ h1 ho0
  obtain ⟨i3, rfl⟩ : ∃ x, x = s := ⟨_, rfl⟩
  replace h1 : pV l0 i3 = some out1 := h1
  refine bA hT ?_
  clear hT
  unfold pV at h1
  refine aO ?_
  refine aY aF 4 [] [(13, (aK (decide (i3 < (lN l0)))))] ?_
  refine bJ h1 (fun h1 => ?_) (fun h1 => ?_)
  · refine bL ?_
    refine bH [(0, (eL aD l0)), (3, (eI i3))] ?_
    refine cH (fun T H => Has T [(0, (eL aD l0)), (3, (eI i3))] ∧ aN ⟨H0, [], []⟩ H [] ∧ uR l0 i3 = some out1) ?_ ?_
    · clear hO h1
      rintro T H ⟨hT, hO, h1⟩
      refine bA hT ?_
      clear hT
      unfold uR at h1
      refine aU aF 3 ?_
      refine bC ?_
      exact aJ (aH (⟨rfl, _, (oI h1).symm, .eq (by kernel_rfl), hO⟩))
    refine bO 1 ?_
    refine aO ?_
    refine aO ?_
    obtain ⟨c12, h1⟩ := bE h1
    obtain ⟨x13, hx14, h1⟩ := aW h1
    obtain ⟨c15, h1⟩ := bE h1
    obtain ⟨c16, h1⟩ := bE h1
    obtain ⟨x17, hx18, h1⟩ := aW h1
    refine eS (eV [20, 28, 33]) aF 23 ?_
    refine yB (K := fun T H => Has (lift T) [(0, (eL aD l0)), (3, (eI i3)), (38, (aK ((!x13) || (!x17))))] ∧ aN ⟨H0, [], []⟩ H []) ?_ ?_
    · refine dA 5 [0 ≤ i3 ∧ i3 < (lN l0)] ⟨c12, trivial⟩ ?_
      refine CN 37 [(eL aI ((gD l0 i3).Row))] (aK x13) (by kernel_rfl) (by kernel_rfl) (AA ((gD l0 i3).Row) _ hx14) hO ?_
      intro H hO
      refine qH 8 ?_
      refine sE (t := 23) (e := !x13) (by kernel_rfl) (fun hg19 => ?_) (fun hg19 => ?_)
      · refine iJ ?_
        exact ⟨⟨[(0, (eL aD l0)), (3, (eI i3)), (38, (aK true))], by kernel_rfl, rfl, ⟨aZ.refl _, aZ.refl _, aZ.eq (congrArg aK (zY hg19 rfl).symm), trivial⟩⟩, hO⟩
      refine dA 19 [0 ≤ i3 ∧ i3 < (lN l0), 0 ≤ i3 ∧ i3 < (lN l0)] ⟨(c15 (yW hg19)), (c16 (yW hg19)), trivial⟩ ?_
      refine aEQ (xs := [(aE (aA.mk ((gD l0 i3).At) ((gD l0 i3).Net)))]) (by kernel_rfl) (by kernel_rfl) ?_
      refine CN 50 [(cZ [(aE (aA.mk ((gD l0 i3).At) ((gD l0 i3).Net)))])] (aK x17) (by kernel_rfl) (by kernel_rfl) (bY.sub (EY ([aA.mk ((gD l0 i3).At) ((gD l0 i3).Net)]) _ (fP hx18 (yW hg19))) ⟨HN (l := [aA.mk ((gD l0 i3).At) ((gD l0 i3).Net)]), trivial⟩) hO ?_
      intro H hO
      refine iJ ?_
      exact ⟨⟨[(0, (eL aD l0)), (3, (eI i3)), (38, (aK (!x17)))], by kernel_rfl, rfl, ⟨aZ.refl _, aZ.refl _, aZ.eq (congrArg aK (zY hg19 rfl).symm), trivial⟩⟩, hO⟩
    · rintro T H ⟨hT, hO⟩
      refine cJ hT ?_
      clear hT
      refine aJ (aH ?_)
      refine bJ h1 (fun h1 => ?_) (fun h1 => ?_)
      · refine bV aF 1 [(2, (aK false))] ?_
        refine bK ?_
        obtain rfl := oI h1
        obtain rfl : _ = rr0 := ho0
        replace h0 : some false = some r := h0
        obtain rfl := oI h0
        exact aJ (aQ (bN (aQ (aQ (bN (aQ (Q_r hO)))))))
      refine bL ?_
      refine bH [(0, (eL aD l0)), (3, (eI i3))] ?_
      refine aO ?_
      refine aY aF 2 [] [(40, (aK (decide (i3 = (0 : Int)))))] ?_
      refine bJ h1 (fun h1 => ?_) (fun h1 => ?_)
      · refine cV 1 ?_
        exact aJ (aS (bM (aH (⟨rfl, .eq (by kernel_rfl), hO, h1⟩))))
      refine bL ?_
      refine bH [(0, (eL aD l0)), (3, (eI i3))] ?_
      refine aO ?_
      refine eS (eV [46, 51, 52]) aF 13 ?_
      obtain ⟨c22, h1⟩ := bE h1
      obtain ⟨c23, h1⟩ := bE h1
      refine dA 11 [0 ≤ (wR (i3 - (1 : Int))) ∧ (wR (i3 - (1 : Int))) < (lN l0), 0 ≤ i3 ∧ i3 < (lN l0)] ⟨c22, c23, trivial⟩ ?_
      obtain ⟨x24, hx25, h1⟩ := aW h1
      refine yA (HZ ((gD l0 (wR (i3 - (1 : Int)))).Row) ((gD l0 i3).Row) _ hx25) hO ?_
      intro H hO
      refine iJ ?_
      refine bT [] [(4, (eI x24))] ?_
      refine aO ?_
      obtain ⟨c27, h1⟩ := bE h1
      obtain ⟨c28, h1⟩ := bE h1
      refine eS (eV [64, 69]) aF 20 ?_
      refine yB (K := fun T H => Has (lift T) [(0, (eL aD l0)), (3, (eI i3)), (72, (aK ((decide ((0 : Int) < x24)) || ((decide (x24 = (0 : Int))) && (decide (((gD l0 i3).At) ≤ ((gD l0 (wR (i3 - (1 : Int)))).At)))))))] ∧ aN ⟨H0, [], []⟩ H []) ?_ ?_
      · refine qH 3 ?_
        refine sE (t := 55) (e := decide ((0 : Int) < x24)) (by kernel_rfl) (fun hg29 => ?_) (fun hg29 => ?_)
        · refine iJ ?_
          exact ⟨⟨[(0, (eL aD l0)), (3, (eI i3)), (72, (aK true))], by kernel_rfl, rfl, ⟨aZ.refl _, aZ.refl _, aZ.eq (congrArg aK (zY hg29 rfl).symm), trivial⟩⟩, hO⟩
        refine qH 6 ?_
        refine sE (t := 58) (e := decide (x24 = (0 : Int))) (by kernel_rfl) (fun hg30 => ?_) (fun hg30 => ?_)
        · refine IP (Ds := [0 ≤ (wR (i3 - (1 : Int))) ∧ (wR (i3 - (1 : Int))) < (lN l0), 0 ≤ i3 ∧ i3 < (lN l0)]) (by kernel_rfl) ⟨(c27 (tT hg30 (yW hg29))), (c28 (tT hg30 (yW hg29))), trivial⟩ ?_
          exact ⟨⟨[(0, (eL aD l0)), (3, (eI i3)), (72, (aK (decide (((gD l0 i3).At) ≤ ((gD l0 (wR (i3 - (1 : Int)))).At)))))], by kernel_rfl, rfl, ⟨aZ.refl _, aZ.refl _, aZ.eq (congrArg aK (zY hg29 (tT hg30 rfl)).symm), trivial⟩⟩, hO⟩
        refine iJ ?_
        exact ⟨⟨[(0, (eL aD l0)), (3, (eI i3)), (72, (aK false))], by kernel_rfl, rfl, ⟨aZ.refl _, aZ.refl _, aZ.eq (congrArg aK (zY hg29 (tT hg30 rfl)).symm), trivial⟩⟩, hO⟩
      · rintro T H ⟨hT, hO⟩
        refine cJ hT ?_
        clear hT
        refine aJ (aH ?_)
        refine bJ h1 (fun h1 => ?_) (fun h1 => ?_)
        · refine bV aF 1 [(2, (aK false))] ?_
          refine bK ?_
          obtain rfl := oI h1
          obtain rfl : _ = rr0 := ho0
          replace h0 : some false = some r := h0
          obtain rfl := oI h0
          exact aJ (bN (aQ (aQ (bN (aQ (Q_r hO))))))
        refine bL ?_
        exact aJ (aV (aH (⟨rfl, .eq (by kernel_rfl), hO, h1⟩)))
  refine cV 0 ?_
  obtain rfl := oI h1
  obtain rfl : _ = rr0 := ho0
  replace h0 : xY l0 = some r := h0
  exact aJ (aS (aS (bM (aH (⟨rfl, .eq (by kernel_rfl), hO, h0⟩)))))

theorem CB (f0 : (List aA)) (t1 : Int) (r : Int) (h0 : mH f0 t1 = some r) : bY Tryz.prog 77 [(eL aE f0), (eI t1)] (eI r) := by
  intro H0
  refine cF Tryz.func77 ?_
  have hO := aN.start H0
  unfold mH at h0
  refine aY aF 1 [] [] ?_
  refine aY aF 1 [] [(5, (eI (0 : Int)))] ?_
  refine cH (fun T H => ∃ v5 : Int, Has T [(5, (eI v5))] ∧ aN ⟨H0, [], []⟩ H [] ∧ uT v5 = some r) ?_ ?_
  · clear hO h0
    rintro T H ⟨v5, hT, hO, h0⟩
    refine bA hT ?_
    clear hT
    unfold uT at h0
    refine bV aF 2 [(4, (eI v5))] ?_
    refine bK ?_
    obtain rfl := oI h0
    exact aJ (Q_r hO)
  refine aY aF 1 [] [(6, (eI (0 : Int)))] ?_
  refine bO 0 ?_
  refine cL [(0, (eL aE f0)), (1, (eI t1)), (5, (eI (0 : Int))), (6, (eI (0 : Int)))] ?_
  refine cC (fun T H => ∃ v5 : Int, ∃ i6 : Int, Has T [(0, (eL aE f0)), (1, (eI t1)), (5, (eI v5)), (6, (eI i6))] ∧ aN ⟨H0, [], []⟩ H [] ∧ zE f0 t1 v5 i6 = some r) ?_ ⟨(0 : Int), (0 : Int), .eq (by kernel_rfl), hO, h0⟩
  clear hO h0
  rintro T H ⟨v5, i6, hT, hO, h0⟩
  refine bA hT ?_
  clear hT
  unfold zE at h0
  obtain ⟨rr0, hl0, h0⟩ := aW h0
  refine bX (by kernel_rfl) (fun (s : Int × Int) T H => Has T [(0, (eL aE f0)), (1, (eI t1)), (5, (eI s.1)), (6, (eI s.2))] ∧ aN ⟨H0, [], []⟩ H []) hl0 ⟨.eq (by kernel_rfl), hO⟩ ?_
  clear hO
  rintro k0 s out1 T H ⟨hT, hO⟩ h1 ho0
  obtain ⟨v5, i6⟩ := s
  replace h1 : jW f0 t1 v5 i6 = some out1 := h1
  try dsimp only at hT
  refine bA hT ?_
  clear hT
  unfold jW at h1
  refine aO ?_
  refine aY aF 4 [] [(10, (aK (decide (i6 < (lN f0)))))] ?_
  refine bJ h1 (fun h1 => ?_) (fun h1 => ?_)
  · refine bL ?_
    refine bH [(0, (eL aE f0)), (1, (eI t1)), (5, (eI v5)), (6, (eI i6))] ?_
    refine cH (fun T H => ∃ v5 : Int, Has T [(0, (eL aE f0)), (1, (eI t1)), (5, (eI v5)), (6, (eI i6))] ∧ aN ⟨H0, [], []⟩ H [] ∧ rA f0 t1 v5 i6 = some out1) ?_ ?_
    · clear hO h1
      rintro T H ⟨v5, hT, hO, h1⟩
      refine bA hT ?_
      clear hT
      unfold rA at h1
      refine aU aF 3 ?_
      refine bC ?_
      exact aJ (aH (⟨rfl, _, (oI h1).symm, .eq (by kernel_rfl), hO⟩))
    refine bO 1 ?_
    refine aO ?_
    refine aU aF 7 ?_
    obtain ⟨c2, h1⟩ := bE h1
    refine oN [0 ≤ i6 ∧ i6 < (lN f0)] ⟨c2, trivial⟩ ?_
    refine bT [] [(19, (aK (decide (((gD f0 i6).At) ≤ t1))))] ?_
    refine bJ h1 (fun h1 => ?_) (fun h1 => ?_)
    · refine aU aF 8 ?_
      obtain ⟨c4, h1⟩ := bE h1
      refine oN [0 ≤ i6 ∧ i6 < (lN f0)] ⟨c4, trivial⟩ ?_
      exact aJ (aV (aH (⟨rfl, _, .eq (by kernel_rfl), hO, h1⟩)))
    refine bL ?_
    exact aJ (aV (aH (⟨rfl, _, .eq (by kernel_rfl), hO, h1⟩)))
  refine cV 0 ?_
  obtain rfl := oI h1
  obtain rfl : _ = rr0 := ho0
  replace h0 : uT v5 = some r := h0
  exact aJ (aS (aS (bM (aH (⟨rfl, _, .eq (by kernel_rfl), hO, h0⟩)))))

theorem LU (f0 : (List aA)) (r : Int) (h0 : sI f0 = some r) : bY Tryz.prog 52 [(eL aE f0)] (eI r) := by
  intro H0
  refine cF Tryz.func52 ?_
  have hO := aN.start H0
  unfold sI at h0
  refine aY aF 1 [] [] ?_
  refine aO ?_
  refine aO ?_
  refine aU aF 3 ?_
  refine bR 1 ?_
  obtain ⟨x1, hx2, h0⟩ := aW h0
  refine cA (EY f0 _ hx2) hO ?_
  intro H hO
  refine bC ?_
  refine bT [] [(7, (aK (!x1)))] ?_
  refine bJ h0 (fun h0 => ?_) (fun h0 => ?_)
  · refine bV aF 1 [(2, (eI (0 : Int)))] ?_
    refine bK ?_
    obtain rfl := oI h0
    exact aJ (aQ (Q_r hO))
  refine bL ?_
  refine bH [(0, (eL aE f0))] ?_
  refine aO ?_
  refine aU aF 3 ?_
  refine bR 1 ?_
  obtain ⟨x5, hx6, h0⟩ := aW h0
  refine cA (CB f0 (-1 : Int) _ hx6) hO ?_
  intro H hO
  refine bC ?_
  refine bT [] [(3, (eI x5))] ?_
  refine cH (fun T H => ∃ m3 : Int, Has T [(3, (eI m3))] ∧ aN ⟨H0, [], []⟩ H [] ∧ uF m3 = some r) ?_ ?_
  · clear hO h0
    rintro T H ⟨m3, hT, hO, h0⟩
    refine bA hT ?_
    clear hT
    unfold uF at h0
    refine bV aF 2 [(2, (eI m3))] ?_
    refine bK ?_
    obtain rfl := oI h0
    exact aJ (Q_r hO)
  refine aY aF 1 [] [(4, (eI (0 : Int)))] ?_
  refine bO 0 ?_
  refine cL [(0, (eL aE f0)), (3, (eI x5)), (4, (eI (0 : Int)))] ?_
  refine cC (fun T H => ∃ m3 : Int, ∃ i4 : Int, Has T [(0, (eL aE f0)), (3, (eI m3)), (4, (eI i4))] ∧ aN ⟨H0, [], []⟩ H [] ∧ zG f0 m3 i4 = some r) ?_ ⟨x5, (0 : Int), .eq (by kernel_rfl), hO, h0⟩
  clear hO h0
  rintro T H ⟨m3, i4, hT, hO, h0⟩
  refine bA hT ?_
  clear hT
  unfold zG at h0
  obtain ⟨rr0, hl0, h0⟩ := aW h0
  refine bX (by kernel_rfl) (fun (s : Int × Int) T H => Has T [(0, (eL aE f0)), (3, (eI s.1)), (4, (eI s.2))] ∧ aN ⟨H0, [], []⟩ H []) hl0 ⟨.eq (by kernel_rfl), hO⟩ ?_
  clear hO
  rintro k0 s out1 T H ⟨hT, hO⟩ h1 ho0
  obtain ⟨m3, i4⟩ := s
  replace h1 : mZ f0 m3 i4 = some out1 := h1
  try dsimp only at hT
  refine bA hT ?_
  clear hT
  unfold mZ at h1
  refine aO ?_
  refine aY aF 4 [] [(13, (aK (decide (i4 < (lN f0)))))] ?_
  refine bJ h1 (fun h1 => ?_) (fun h1 => ?_)
  · refine bL ?_
    refine bH [(0, (eL aE f0)), (3, (eI m3)), (4, (eI i4))] ?_
    refine cH (fun T H => ∃ m3 : Int, Has T [(0, (eL aE f0)), (3, (eI m3)), (4, (eI i4))] ∧ aN ⟨H0, [], []⟩ H [] ∧ uK f0 m3 i4 = some out1) ?_ ?_
    · clear hO h1
      rintro T H ⟨m3, hT, hO, h1⟩
      refine bA hT ?_
      clear hT
      unfold uK at h1
      refine aU aF 3 ?_
      refine bC ?_
      exact aJ (aH (⟨rfl, _, (oI h1).symm, .eq (by kernel_rfl), hO⟩))
    refine bO 1 ?_
    refine aO ?_
    refine aU aF 9 ?_
    obtain ⟨c9, h1⟩ := bE h1
    refine jT 6 [0 ≤ i4 ∧ i4 < (lN f0)] ⟨c9, trivial⟩ ?_
    obtain ⟨x10, hx11, h1⟩ := aW h1
    refine cA (CB f0 ((gD f0 i4).At) _ hx11) hO ?_
    intro H hO
    refine bC ?_
    refine bT [] [(24, (aK (decide (x10 < m3))))] ?_
    refine bJ h1 (fun h1 => ?_) (fun h1 => ?_)
    · refine aU aF 8 ?_
      obtain ⟨c14, h1⟩ := bE h1
      refine jT 6 [0 ≤ i4 ∧ i4 < (lN f0)] ⟨c14, trivial⟩ ?_
      obtain ⟨x15, hx16, h1⟩ := aW h1
      refine cA (CB f0 ((gD f0 i4).At) _ hx16) hO ?_
      intro H hO
      refine bC ?_
      exact aJ (aV (aH (⟨rfl, _, .eq (by kernel_rfl), hO, h1⟩)))
    refine bL ?_
    exact aJ (aV (aH (⟨rfl, _, .eq (by kernel_rfl), hO, h1⟩)))
  refine cV 0 ?_
  obtain rfl := oI h1
  obtain rfl : _ = rr0 := ho0
  replace h0 : uF m3 = some r := h0
  exact aJ (aS (aS (bM (aH (⟨rfl, _, .eq (by kernel_rfl), hO, h0⟩)))))

end Go.Abs
namespace Go.Abs
open Go Go.RowKit Go.Proofs
theorem VX (l0 : (List aC)) (r : Bool) (h0 : vU l0 = some r) : bY Tryz.prog 26 [(eL aD l0)] (aK r) := by
  intro H0
  refine cF Tryz.func26 ?_
  have hO := aN.start H0
  unfold vU at h0
  refine aY aF 1 [] [] ?_
  refine aO ?_
  refine aO ?_
  refine aU aF 3 ?_
  refine bR 1 ?_
  obtain ⟨x1, hx2, h0⟩ := aW h0
  refine cA (OU l0 _ hx2) hO ?_
  intro H hO
  refine bC ?_
  refine bT [] [(7, (aK (!x1)))] ?_
  refine bJ h0 (fun h0 => ?_) (fun h0 => ?_)
  · refine bV aF 1 [(2, (aK false))] ?_
    refine bK ?_
    obtain rfl := oI h0
    exact aJ (aQ (Q_r hO))
  refine bL ?_
  refine bH [(0, (eL aD l0))] ?_
  refine aO ?_
  refine aU aF 3 ?_
  refine bR 1 ?_
  obtain ⟨x5, hx6, h0⟩ := aW h0
  refine cA (DZ l0 _ hx6) hO ?_
  intro H hO
  refine bC ?_
  refine bT [] [(3, (eL (eL aI) x5))] ?_
  refine cH (fun T H => Has T [] ∧ aN ⟨H0, [], []⟩ H [] ∧ zR  = some r) ?_ ?_
  · clear hO h0
    rintro T H ⟨hT, hO, h0⟩
    refine bA hT ?_
    clear hT
    unfold zR at h0
    refine bV aF 1 [(2, (aK true))] ?_
    refine bK ?_
    obtain rfl := oI h0
    exact aJ (Q_r hO)
  refine aY aF 1 [] [(4, (eI (0 : Int)))] ?_
  refine bO 0 ?_
  refine cL [(0, (eL aD l0)), (3, (eL (eL aI) x5)), (4, (eI (0 : Int)))] ?_
  refine cC (fun T H => ∃ bS : (List (List aG)), ∃ i4 : Int, Has T [(0, (eL aD l0)), (3, (eL (eL aI) bS)), (4, (eI i4))] ∧ aN ⟨H0, [], []⟩ H [] ∧ yY l0 bS i4 = some r) ?_ ⟨x5, (0 : Int), .eq (by kernel_rfl), hO, h0⟩
  clear hO h0
  rintro T H ⟨bS, i4, hT, hO, h0⟩
  refine bA hT ?_
  clear hT
  unfold yY at h0
  obtain ⟨rr0, hl0, h0⟩ := aW h0
  refine bX (by kernel_rfl) (fun (s : Int) T H => Has T [(0, (eL aD l0)), (3, (eL (eL aI) bS)), (4, (eI s))] ∧ aN ⟨H0, [], []⟩ H []) hl0 ⟨.eq (by kernel_rfl), hO⟩ ?_
  clear hO
  rintro k0 s out1 T H ⟨hT, hO⟩ h1 ho0
  obtain ⟨i4, rfl⟩ : ∃ x, x = s := ⟨_, rfl⟩
  replace h1 : oX l0 bS i4 = some out1 := h1
  refine bA hT ?_
  clear hT
  unfold oX at h1
  refine aO ?_
  refine aY aF 4 [] [(13, (aK (decide (i4 < (lN bS)))))] ?_
  refine bJ h1 (fun h1 => ?_) (fun h1 => ?_)
  · refine bL ?_
    refine bH [(0, (eL aD l0)), (3, (eL (eL aI) bS)), (4, (eI i4))] ?_
    refine aO ?_
    refine bO 1 ?_
    refine aO ?_
    refine aU aF 8 ?_
    obtain ⟨c9, h1⟩ := bE h1
    refine jT 5 [0 ≤ i4 ∧ i4 < (lN bS)] ⟨c9, trivial⟩ ?_
    obtain ⟨x10, hx11, h1⟩ := aW h1
    refine cA (BU l0 (gD bS i4) _ hx11) hO ?_
    intro H hO
    obtain ⟨x13, hx14, h1⟩ := aW h1
    refine cA (LU x10 _ hx14) hO ?_
    intro H hO
    refine bC ?_
    refine bT [] [(23, (aK (decide (x13 < (0 : Int)))))] ?_
    refine bJ h1 (fun h1 => ?_) (fun h1 => ?_)
    · refine bV aF 1 [(2, (aK false))] ?_
      refine bK ?_
      obtain rfl := oI h1
      obtain rfl : _ = rr0 := ho0
      replace h0 : some false = some r := h0
      obtain rfl := oI h0
      exact aJ (bN (aQ (aQ (bN (aQ (Q_r hO))))))
    refine bL ?_
    refine cN [(0, (eL aD l0)), (3, (eL (eL aI) bS)), (4, (eI i4))] ?_
    refine aJ (aV (aH (?_)))
    refine aU aF 3 ?_
    refine bC ?_
    exact aJ (aH (⟨rfl, _, (oI h1).symm, .eq (by kernel_rfl), hO⟩))
  refine cV 0 ?_
  obtain rfl := oI h1
  obtain rfl : _ = rr0 := ho0
  replace h0 : zR  = some r := h0
  exact aJ (aS (aS (bM (aH (⟨rfl, .eq (by kernel_rfl), hO, h0⟩)))))

theorem WA (f0 : (List aA)) (r : ((List aT) × Int)) (h0 : vO f0 = some r) : bY Tryz.prog 28 [(eL aE f0)] (.tup [(eL bG r.1), (eI r.2)]) := by
  intro H0
  refine cF Tryz.func28 ?_
  have hO := aN.start H0
  unfold vO at h0
  refine aY aF 2 [] [] ?_
  refine aO ?_
  refine aO ?_
  refine aU aF 3 ?_
  refine bR 1 ?_
  obtain ⟨x1, hx2, h0⟩ := aW h0
  refine cA (EY f0 _ hx2) hO ?_
  intro H hO
  refine bC ?_
  refine bT [] [(16, (aK (!x1)))] ?_
  refine bJ h0 (fun h0 => ?_) (fun h0 => ?_)
  · refine bV aF 2 [(2, (.sl true 0 (fun _ => .bad))), (3, (eI (2 : Int)))] ?_
    refine bK ?_
    refine cJ (l := [(2, (eL bG ([]))), (3, (eI (2 : Int)))]) ⟨[(2, (.sl true 0 (fun _ => .bad))), (3, (eI (2 : Int)))], by kernel_rfl, rfl, ⟨dG, aZ.refl _, trivial⟩⟩ ?_
    obtain rfl := oI h0
    exact aJ (aQ (Q_r hO))
  refine bL ?_
  refine bH [(0, (eL aE f0))] ?_
  refine aO ?_
  refine aO ?_
  refine aU aF 3 ?_
  refine bR 1 ?_
  obtain ⟨x5, hx6, h0⟩ := aW h0
  refine cA (LU f0 _ hx6) hO ?_
  intro H hO
  refine bC ?_
  refine bT [] [(19, (aK (decide (x5 < (0 : Int)))))] ?_
  refine bJ h0 (fun h0 => ?_) (fun h0 => ?_)
  · refine bV aF 2 [(2, (.sl true 0 (fun _ => .bad))), (3, (eI (20 : Int)))] ?_
    refine bK ?_
    refine cJ (l := [(2, (eL bG ([]))), (3, (eI (20 : Int)))]) ⟨[(2, (.sl true 0 (fun _ => .bad))), (3, (eI (20 : Int)))], by kernel_rfl, rfl, ⟨dG, aZ.refl _, trivial⟩⟩ ?_
    obtain rfl := oI h0
    exact aJ (aQ (Q_r hO))
  refine bL ?_
  refine bH [(0, (eL aE f0))] ?_
  refine aO ?_
  refine aU aF 2 ?_
  refine iM (xs := []) (k := 1) (by kernel_rfl) (by kernel_rfl) ?_
  refine bC ?_
  refine bT [] [(4, (.sl true 0 (fun _ => .bad)))] ?_
  refine aO ?_
  refine aU aF 2 ?_
  refine iM (xs := []) (k := 1) (by kernel_rfl) (by kernel_rfl) ?_
  refine bC ?_
  refine bT [] [(5, (.sl true 0 (fun _ => .bad)))] ?_
  refine aY aF 1 [] [(6, (eI (0 : Int)))] ?_
  refine cH (fun T H => ∃ bF : List Int, ∃ bQ : List Int, ∃ n6 : Int, ∃ lo9 : Nat, ∃ lo10 : Nat, Has T [(0, (eL aE f0)), (4, (.msl 1 lo9 0 (List.length bF))), (5, (.msl 1 lo10 0 (List.length bQ))), (6, (eI n6))] ∧ aN ⟨H0, [], []⟩ H [(lo9, 1, List.map (eI) bF), (lo10, 1, List.map (eI) bQ)] ∧ rB f0 bF bQ n6 = some r) ?_ ?_
  · clear hO h0
    rintro T H ⟨bF, bQ, n6, lo9, lo10, hT, hO, h0⟩
    refine bA hT ?_
    clear hT
    unfold rB at h0
    refine aO ?_
    refine aY aF 2 [6] [(42, (aK (decide ((4096 : Int) < n6))))] ?_
    refine bJ h0 (fun h0 => ?_) (fun h0 => ?_)
    · refine aO ?_
      refine aU aF 2 ?_
      refine bC ?_
      refine cN [(2, (.sl true 0 (fun _ => .bad))), (3, (eI (7 : Int)))] ?_
      replace hO := hO.pick (L' := []) [] (by decide) (by kernel_rfl)
      refine aJ (aH (?_))
      refine bK ?_
      refine cJ (l := [(2, (eL bG ([]))), (3, (eI (7 : Int)))]) ⟨[(2, (.sl true 0 (fun _ => .bad))), (3, (eI (7 : Int)))], by kernel_rfl, rfl, ⟨dG, aZ.refl _, trivial⟩⟩ ?_
      obtain rfl := oI h0
      exact aJ (aQ (Q_r hO))
    refine bL ?_
    refine bH [(0, (eL aE f0)), (4, (.msl 1 lo9 0 (List.length bF))), (5, (.msl 1 lo10 0 (List.length bQ)))] ?_
    refine cH (fun T H => ∃ bF : List Int, ∃ bQ : List Int, ∃ lo12 : Nat, ∃ lo13 : Nat, Has T [(4, (.msl 1 lo12 0 (List.length bF))), (5, (.msl 1 lo13 0 (List.length bQ)))] ∧ aN ⟨H0, [], []⟩ H [(lo12, 1, List.map (eI) bF), (lo13, 1, List.map (eI) bQ)] ∧ uO bF bQ = some r) ?_ ?_
    · clear hO h0
      rintro T H ⟨bF, bQ, lo12, lo13, hT, hO, h0⟩
      refine bA hT ?_
      clear hT
      unfold uO at h0
      refine aO ?_
      refine aU aF 2 ?_
      refine iM (xs := []) (k := 2) (by kernel_rfl) (by kernel_rfl) ?_
      refine bC ?_
      refine bT [] [(11, (.sl true 0 (fun _ => .bad)))] ?_
      refine cH (fun T H => ∃ eM : List aT, ∃ lo14 : Nat, Has T [(11, (.msl 2 lo14 0 (List.length eM)))] ∧ aN ⟨H0, [], []⟩ H [(lo14, 2, List.map bG eM)] ∧ zD eM = some r) ?_ ?_
      · clear hO h0
        rintro T H ⟨eM, lo14, hT, hO, h0⟩
        refine bA hT ?_
        clear hT
        unfold zD at h0
        refine bV aF 3 [(2, (.msl 2 lo14 0 (List.length eM))), (3, (eI (0 : Int)))] ?_
        refine bK ?_
        refine cN [(2, (.msl 2 lo14 0 (List.length eM))), (3, (eI (0 : Int)))] ?_
        refine tE (en := bG) eM 0 0 2 2 lo14 (List.length eM) hO (by kernel_rfl) (by kernel_rfl) (by kernel_rfl) (L' := []) (by kernel_rfl) ?_
        intro H15 hO
        obtain rfl := oI h0
        exact aJ (Q_r hO)
      refine aY aF 1 [] [(12, (eI (0 : Int)))] ?_
      refine bO 8 ?_
      refine cL [(4, (.msl 1 lo12 0 (List.length bF))), (5, (.msl 1 lo13 0 (List.length bQ))), (11, (.sl true 0 (fun _ => .bad))), (12, (eI (0 : Int)))] ?_
      refine uM (el := (fun _ => .bad)) 2 11 2 hO (by kernel_rfl) ?_
      intro lo32 H33 hO
      refine cC (fun T H => ∃ bF : List Int, ∃ bQ : List Int, ∃ eM : List aT, ∃ i12 : Int, ∃ lo19 : Nat, ∃ lo20 : Nat, ∃ lo21 : Nat, Has T [(4, (.msl 1 lo19 0 (List.length bF))), (5, (.msl 1 lo20 0 (List.length bQ))), (11, (.msl 2 lo21 0 (List.length eM))), (12, (eI i12))] ∧ aN ⟨H0, [], []⟩ H [(lo19, 1, List.map (eI) bF), (lo20, 1, List.map (eI) bQ), (lo21, 2, List.map bG eM)] ∧ tW bF bQ eM i12 = some r) ?_ ⟨bF, bQ, ([] : List aT), (0 : Int), lo12, lo13, lo32, .eq (by kernel_rfl), hO, h0⟩
      clear hO h0
      rintro T H ⟨bF, bQ, eM, i12, lo19, lo20, lo21, hT, hO, h0⟩
      refine bA hT ?_
      clear hT
      unfold tW at h0
      obtain ⟨rr0, hl0, h0⟩ := aW h0
      refine bX (by kernel_rfl) (fun (s : List Int × List Int × List aT × Int) T H => ∃ lo19 : Nat, ∃ lo20 : Nat, ∃ lo21 : Nat, Has T [(4, (.msl 1 lo19 0 (List.length s.1))), (5, (.msl 1 lo20 0 (List.length s.2.1))), (11, (.msl 2 lo21 0 (List.length s.2.2.1))), (12, (eI s.2.2.2))] ∧ aN ⟨H0, [], []⟩ H [(lo19, 1, List.map (eI) s.1), (lo20, 1, List.map (eI) s.2.1), (lo21, 2, List.map bG s.2.2.1)]) hl0 ⟨lo19, lo20, lo21, .eq (by kernel_rfl), hO⟩ ?_
      clear hO
      rintro k0 s out1 T H ⟨lo19, lo20, lo21, hT, hO⟩ h1 ho0
      obtain ⟨bF, bQ, eM, i12⟩ := s
      replace h1 : jV bF bQ eM i12 = some out1 := h1
      try dsimp only at hT
      refine bA hT ?_
      clear hT
      unfold jV at h1
      refine aO ?_
      refine aY aF 4 [] [(88, (aK (decide (i12 < (lN bF)))))] ?_
      refine bJ h1 (fun h1 => ?_) (fun h1 => ?_)
      · refine bL ?_
        refine bH [(4, (.msl 1 lo19 0 (List.length bF))), (5, (.msl 1 lo20 0 (List.length bQ))), (11, (.msl 2 lo21 0 (List.length eM))), (12, (eI i12))] ?_
        refine aO ?_
        refine bO 9 ?_
        refine aO ?_
        refine aU aF 7 ?_
        obtain ⟨c23, h1⟩ := bE h1
        refine jT 3 [0 ≤ i12 ∧ i12 < (lN bF)] ⟨c23, trivial⟩ ?_
        refine kQ 0 lo19 1 (0 + Int.toNat i12) (eI (gD bF i12)) (eI (gD bF i12)) (List.map (eI) bF) hO (dB c23) ?_
        refine bR 5 ?_
        refine nL 2 (bG (aT.mk 0 0)) (by kernel_rfl) (by kernel_rfl) hO ?_
        intro lo24 H hO
        refine kB 3 lo24 2 0 (bG (aT.mk 0 0)) (bG (aT.mk (gD bF i12) (1125899906842624 : Int))) [(bG (aT.mk 0 0))] [(lo19, 1, List.map (eI) bF), (lo20, 1, List.map (eI) bQ), (lo21, 2, List.map bG eM), (lo24, 2, [(bG (aT.mk (gD bF i12) (1125899906842624 : Int)))])] hO rfl (by kernel_rfl) ?_
        intro H hO
        refine cW ?_
        refine bT [] [(13, (.lp lo24 0 0))] ?_
        refine cH (fun T H => ∃ bF : List Int, ∃ bQ : List Int, ∃ eM : List aT, ∃ s13 : aT, ∃ lo25 : Nat, ∃ lo26 : Nat, ∃ lo27 : Nat, Has T [(4, (.msl 1 lo25 0 (List.length bF))), (5, (.msl 1 lo26 0 (List.length bQ))), (11, (.msl 2 lo27 0 (List.length eM))), (12, (eI i12)), (13, (.lp lo24 0 0))] ∧ aN ⟨H0, [], []⟩ H [(lo25, 1, List.map (eI) bF), (lo26, 1, List.map (eI) bQ), (lo27, 2, List.map bG eM), (lo24, 2, [(bG s13)])] ∧ rE bF bQ eM i12 s13 = some out1) ?_ ?_
        · clear hO h1
          rintro T H ⟨bF, bQ, eM, s13, lo25, lo26, lo27, hT, hO, h1⟩
          refine bA hT ?_
          clear hT
          unfold rE at h1
          refine aU aF 5 ?_
          refine bR 1 ?_
          refine kQ 3 lo24 2 0 (bG s13) (bG s13) [(bG s13)] hO rfl ?_
          refine iM (xs := [(bG s13)]) (k := 2) (by kernel_rfl) (by kernel_rfl) ?_
          obtain ⟨c29, h1⟩ := bE h1
          refine rD (e := bG) eM ([s13]) 2 lo27 2 16 (cZ [(bG s13)]) (fun lo28 => [(lo25, 1, List.map (eI) bF), (lo26, 1, List.map (eI) bQ), (lo28, 2, List.map bG (eM ++ ([s13]))), (lo24, 2, [(bG s13)])]) (by kernel_rfl) (by kernel_rfl) hO (by kernel_rfl) (by kernel_rfl) c29 (fun _ => by kernel_rfl) ?_
          intro lo28 H hO
          refine bC ?_
          refine cN [(4, (.msl 1 lo25 0 (List.length bF))), (5, (.msl 1 lo26 0 (List.length bQ))), (11, (.msl 2 lo28 0 (List.length (eM ++ ([s13]))))), (12, (eI i12))] ?_
          replace hO := hO.pick (L' := [(lo25, 1, List.map (eI) bF), (lo26, 1, List.map (eI) bQ), (lo28, 2, List.map bG (eM ++ ([s13])))]) [0, 1, 2] (by decide) (by kernel_rfl)
          refine aJ (aV (aH (?_)))
          refine aU aF 3 ?_
          refine bC ?_
          exact aJ (aH (⟨rfl, _, (oI h1).symm, _, _, _, .eq (by kernel_rfl), hO⟩))
        refine aY aF 4 [] [(99, (aK (decide (i12 < (lN bQ)))))] ?_
        refine bJ h1 (fun h1 => ?_) (fun h1 => ?_)
        · refine aU aF 6 ?_
          obtain ⟨c31, h1⟩ := bE h1
          refine jT 3 [0 ≤ i12 ∧ i12 < (lN bQ)] ⟨c31, trivial⟩ ?_
          refine kQ 1 lo20 1 (0 + Int.toNat i12) (eI (gD bQ i12)) (eI (gD bQ i12)) (List.map (eI) bQ) hO (dB c31) ?_
          refine bR 5 ?_
          refine kB 3 lo24 2 0 (bG (aT.mk (gD bF i12) (1125899906842624 : Int))) (bG (aT.mk (aT.mk (gD bF i12) (1125899906842624 : Int)).From (gD bQ i12))) [(bG (aT.mk (gD bF i12) (1125899906842624 : Int)))] [(lo19, 1, List.map (eI) bF), (lo20, 1, List.map (eI) bQ), (lo21, 2, List.map bG eM), (lo24, 2, [(bG (aT.mk (aT.mk (gD bF i12) (1125899906842624 : Int)).From (gD bQ i12)))])] hO rfl (by kernel_rfl) ?_
          intro H hO
          refine cW ?_
          exact aJ (aH (⟨rfl, _, _, _, _, _, _, _, .eq (by kernel_rfl), hO, h1⟩))
        refine bL ?_
        exact aJ (aH (⟨rfl, _, _, _, _, _, _, _, .eq (by kernel_rfl), hO, h1⟩))
      refine cV 8 ?_
      replace hO := hO.pick (L' := [(lo21, 2, List.map bG eM)]) [2] (by decide) (by kernel_rfl)
      obtain rfl := oI h1
      obtain rfl : _ = rr0 := ho0
      replace h0 : zD eM = some r := h0
      exact aJ (aS (aS (bM (aH (⟨rfl, _, _, .eq (by kernel_rfl), hO, h0⟩)))))
    refine aY aF 1 [] [(8, (eI (0 : Int)))] ?_
    refine bO 2 ?_
    refine cL [(0, (eL aE f0)), (4, (.msl 1 lo9 0 (List.length bF))), (5, (.msl 1 lo10 0 (List.length bQ))), (8, (eI (0 : Int)))] ?_
    refine cC (fun T H => ∃ bF : List Int, ∃ bQ : List Int, ∃ i8 : Int, ∃ lo36 : Nat, ∃ lo37 : Nat, Has T [(0, (eL aE f0)), (4, (.msl 1 lo36 0 (List.length bF))), (5, (.msl 1 lo37 0 (List.length bQ))), (8, (eI i8))] ∧ aN ⟨H0, [], []⟩ H [(lo36, 1, List.map (eI) bF), (lo37, 1, List.map (eI) bQ)] ∧ tZ f0 bF bQ i8 = some r) ?_ ⟨bF, bQ, (0 : Int), lo9, lo10, .eq (by kernel_rfl), hO, h0⟩
    clear hO h0
    rintro T H ⟨bF, bQ, i8, lo36, lo37, hT, hO, h0⟩
    refine bA hT ?_
    clear hT
    unfold tZ at h0
    obtain ⟨rr0, hl0, h0⟩ := aW h0
    refine bX (by kernel_rfl) (fun (s : List Int × List Int × Int) T H => ∃ lo36 : Nat, ∃ lo37 : Nat, Has T [(0, (eL aE f0)), (4, (.msl 1 lo36 0 (List.length s.1))), (5, (.msl 1 lo37 0 (List.length s.2.1))), (8, (eI s.2.2))] ∧ aN ⟨H0, [], []⟩ H [(lo36, 1, List.map (eI) s.1), (lo37, 1, List.map (eI) s.2.1)]) hl0 ⟨lo36, lo37, .eq (by kernel_rfl), hO⟩ ?_
    clear hO
    rintro k0 s out1 T H ⟨lo36, lo37, hT, hO⟩ h1 ho0
    obtain ⟨bF, bQ, i8⟩ := s
    replace h1 : mV f0 bF bQ i8 = some out1 := h1
    try dsimp only at hT
    refine bA hT ?_
    clear hT
    unfold mV at h1
    refine aO ?_
    refine aY aF 4 [] [(46, (aK (decide (i8 < (lN f0)))))] ?_
    refine bJ h1 (fun h1 => ?_) (fun h1 => ?_)
    · refine bL ?_
      refine bH [(0, (eL aE f0)), (4, (.msl 1 lo36 0 (List.length bF))), (5, (.msl 1 lo37 0 (List.length bQ))), (8, (eI i8))] ?_
      refine cH (fun T H => ∃ bF : List Int, ∃ bQ : List Int, ∃ lo39 : Nat, ∃ lo40 : Nat, Has T [(0, (eL aE f0)), (4, (.msl 1 lo39 0 (List.length bF))), (5, (.msl 1 lo40 0 (List.length bQ))), (8, (eI i8))] ∧ aN ⟨H0, [], []⟩ H [(lo39, 1, List.map (eI) bF), (lo40, 1, List.map (eI) bQ)] ∧ tY f0 bF bQ i8 = some out1) ?_ ?_
      · clear hO h1
        rintro T H ⟨bF, bQ, lo39, lo40, hT, hO, h1⟩
        refine bA hT ?_
        clear hT
        unfold tY at h1
        refine aU aF 3 ?_
        refine bC ?_
        exact aJ (aH (⟨rfl, _, (oI h1).symm, _, _, .eq (by kernel_rfl), hO⟩))
      refine bO 3 ?_
      refine cH (fun T H => ∃ bF : List Int, ∃ bQ : List Int, ∃ lo41 : Nat, ∃ lo42 : Nat, Has T [(0, (eL aE f0)), (4, (.msl 1 lo41 0 (List.length bF))), (5, (.msl 1 lo42 0 (List.length bQ))), (8, (eI i8))] ∧ aN ⟨H0, [], []⟩ H [(lo41, 1, List.map (eI) bF), (lo42, 1, List.map (eI) bQ)] ∧ uD f0 bF bQ i8 = some out1) ?_ ?_
      · clear hO h1
        rintro T H ⟨bF, bQ, lo41, lo42, hT, hO, h1⟩
        refine bA hT ?_
        clear hT
        unfold uD at h1
        refine aY aF 1 [] [(10, (eI (0 : Int)))] ?_
        refine bO 6 ?_
        refine cL [(0, (eL aE f0)), (4, (.msl 1 lo41 0 (List.length bF))), (5, (.msl 1 lo42 0 (List.length bQ))), (8, (eI i8)), (10, (eI (0 : Int)))] ?_
        refine cC (fun T H => ∃ bF : List Int, ∃ bQ : List Int, ∃ k10 : Int, ∃ lo45 : Nat, ∃ lo46 : Nat, Has T [(0, (eL aE f0)), (4, (.msl 1 lo45 0 (List.length bF))), (5, (.msl 1 lo46 0 (List.length bQ))), (8, (eI i8)), (10, (eI k10))] ∧ aN ⟨H0, [], []⟩ H [(lo45, 1, List.map (eI) bF), (lo46, 1, List.map (eI) bQ)] ∧ zB f0 bF bQ i8 k10 = some out1) ?_ ⟨bF, bQ, (0 : Int), lo41, lo42, .eq (by kernel_rfl), hO, h1⟩
        clear hO h1
        rintro T H ⟨bF, bQ, k10, lo45, lo46, hT, hO, h1⟩
        refine bA hT ?_
        clear hT
        unfold zB at h1
        obtain ⟨rr1, hl1, h1⟩ := aW h1
        refine bX (by kernel_rfl) (fun (s : List Int × List Int × Int) T H => ∃ lo45 : Nat, ∃ lo46 : Nat, Has T [(0, (eL aE f0)), (4, (.msl 1 lo45 0 (List.length s.1))), (5, (.msl 1 lo46 0 (List.length s.2.1))), (8, (eI i8)), (10, (eI s.2.2))] ∧ aN ⟨H0, [], []⟩ H [(lo45, 1, List.map (eI) s.1), (lo46, 1, List.map (eI) s.2.1)]) hl1 ⟨lo45, lo46, .eq (by kernel_rfl), hO⟩ ?_
        clear hO
        rintro k1 s out2 T H ⟨lo45, lo46, hT, hO⟩ h2 ho1
        obtain ⟨bF, bQ, k10⟩ := s
        replace h2 : mS f0 i8 bF bQ k10 = some out2 := h2
        try dsimp only at hT
        refine bA hT ?_
        clear hT
        unfold mS at h2
        refine aO ?_
        refine aO ?_
        refine aU aF 8 ?_
        obtain ⟨c47, h2⟩ := bE h2
        refine oN [0 ≤ i8 ∧ i8 < (lN f0)] ⟨c47, trivial⟩ ?_
        refine bT [] [(73, (aK (decide (k10 < (wR (0 - ((gD f0 i8).Net)))))))] ?_
        refine bJ h2 (fun h2 => ?_) (fun h2 => ?_)
        · refine bL ?_
          refine bH [(0, (eL aE f0)), (4, (.msl 1 lo45 0 (List.length bF))), (5, (.msl 1 lo46 0 (List.length bQ))), (8, (eI i8)), (10, (eI k10))] ?_
          refine aO ?_
          refine bO 7 ?_
          refine aU aF 9 ?_
          obtain ⟨c49, h2⟩ := bE h2
          refine jT 6 [0 ≤ i8 ∧ i8 < (lN f0)] ⟨c49, trivial⟩ ?_
          refine iM (xs := [(eI ((gD f0 i8).At))]) (k := 1) (by kernel_rfl) (by kernel_rfl) ?_
          obtain ⟨c51, h2⟩ := bE h2
          refine rD (e := (eI)) bQ ([(gD f0 i8).At]) 1 lo46 1 8 (cZ [(eI ((gD f0 i8).At))]) (fun lo50 => [(lo45, 1, List.map (eI) bF), (lo50, 1, List.map (eI) (bQ ++ ([(gD f0 i8).At])))]) (by kernel_rfl) (by kernel_rfl) hO (by kernel_rfl) (by kernel_rfl) c51 (fun _ => by kernel_rfl) ?_
          intro lo50 H hO
          refine bC ?_
          refine cN [(0, (eL aE f0)), (4, (.msl 1 lo45 0 (List.length bF))), (5, (.msl 1 lo50 0 (List.length (bQ ++ ([(gD f0 i8).At]))))), (8, (eI i8)), (10, (eI k10))] ?_
          refine aJ (aV (aH (?_)))
          refine aU aF 3 ?_
          refine bC ?_
          exact aJ (aH (⟨rfl, _, (oI h2).symm, _, _, .eq (by kernel_rfl), hO⟩))
        refine cV 6 ?_
        obtain rfl := oI h2
        obtain rfl : _ = rr1 := ho1
        replace h1 : tY f0 bF bQ i8 = some out1 := h1
        exact aJ (aS (aS (bM (aV (aH (⟨rfl, _, _, _, _, .eq (by kernel_rfl), hO, h1⟩))))))
      refine aY aF 1 [] [(9, (eI (0 : Int)))] ?_
      refine bO 4 ?_
      refine cL [(0, (eL aE f0)), (4, (.msl 1 lo36 0 (List.length bF))), (5, (.msl 1 lo37 0 (List.length bQ))), (8, (eI i8)), (9, (eI (0 : Int)))] ?_
      refine cC (fun T H => ∃ bF : List Int, ∃ bQ : List Int, ∃ k9 : Int, ∃ lo54 : Nat, ∃ lo55 : Nat, Has T [(0, (eL aE f0)), (4, (.msl 1 lo54 0 (List.length bF))), (5, (.msl 1 lo55 0 (List.length bQ))), (8, (eI i8)), (9, (eI k9))] ∧ aN ⟨H0, [], []⟩ H [(lo54, 1, List.map (eI) bF), (lo55, 1, List.map (eI) bQ)] ∧ xK f0 bF bQ i8 k9 = some out1) ?_ ⟨bF, bQ, (0 : Int), lo36, lo37, .eq (by kernel_rfl), hO, h1⟩
      clear hO h1
      rintro T H ⟨bF, bQ, k9, lo54, lo55, hT, hO, h1⟩
      refine bA hT ?_
      clear hT
      unfold xK at h1
      obtain ⟨rr1, hl1, h1⟩ := aW h1
      refine bX (by kernel_rfl) (fun (s : List Int × List Int × Int) T H => ∃ lo54 : Nat, ∃ lo55 : Nat, Has T [(0, (eL aE f0)), (4, (.msl 1 lo54 0 (List.length s.1))), (5, (.msl 1 lo55 0 (List.length s.2.1))), (8, (eI i8)), (9, (eI s.2.2))] ∧ aN ⟨H0, [], []⟩ H [(lo54, 1, List.map (eI) s.1), (lo55, 1, List.map (eI) s.2.1)]) hl1 ⟨lo54, lo55, .eq (by kernel_rfl), hO⟩ ?_
      clear hO
      rintro k1 s out2 T H ⟨lo54, lo55, hT, hO⟩ h2 ho1
      obtain ⟨bF, bQ, k9⟩ := s
      replace h2 : lZ f0 i8 bF bQ k9 = some out2 := h2
      try dsimp only at hT
      refine bA hT ?_
      clear hT
      unfold lZ at h2
      refine aO ?_
      refine aO ?_
      refine aU aF 7 ?_
      obtain ⟨c56, h2⟩ := bE h2
      refine oN [0 ≤ i8 ∧ i8 < (lN f0)] ⟨c56, trivial⟩ ?_
      refine bT [] [(55, (aK (decide (k9 < ((gD f0 i8).Net)))))] ?_
      refine bJ h2 (fun h2 => ?_) (fun h2 => ?_)
      · refine bL ?_
        refine bH [(0, (eL aE f0)), (4, (.msl 1 lo54 0 (List.length bF))), (5, (.msl 1 lo55 0 (List.length bQ))), (8, (eI i8)), (9, (eI k9))] ?_
        refine aO ?_
        refine bO 5 ?_
        refine aU aF 9 ?_
        obtain ⟨c58, h2⟩ := bE h2
        refine jT 6 [0 ≤ i8 ∧ i8 < (lN f0)] ⟨c58, trivial⟩ ?_
        refine iM (xs := [(eI ((gD f0 i8).At))]) (k := 1) (by kernel_rfl) (by kernel_rfl) ?_
        obtain ⟨c60, h2⟩ := bE h2
        refine rD (e := (eI)) bF ([(gD f0 i8).At]) 0 lo54 1 8 (cZ [(eI ((gD f0 i8).At))]) (fun lo59 => [(lo59, 1, List.map (eI) (bF ++ ([(gD f0 i8).At]))), (lo55, 1, List.map (eI) bQ)]) (by kernel_rfl) (by kernel_rfl) hO (by kernel_rfl) (by kernel_rfl) c60 (fun _ => by kernel_rfl) ?_
        intro lo59 H hO
        refine bC ?_
        refine cN [(0, (eL aE f0)), (4, (.msl 1 lo59 0 (List.length (bF ++ ([(gD f0 i8).At]))))), (5, (.msl 1 lo55 0 (List.length bQ))), (8, (eI i8)), (9, (eI k9))] ?_
        refine aJ (aV (aH (?_)))
        refine aU aF 3 ?_
        refine bC ?_
        exact aJ (aH (⟨rfl, _, (oI h2).symm, _, _, .eq (by kernel_rfl), hO⟩))
      refine cV 4 ?_
      obtain rfl := oI h2
      obtain rfl : _ = rr1 := ho1
      replace h1 : uD f0 bF bQ i8 = some out1 := h1
      exact aJ (aS (aS (bM (aH (⟨rfl, _, _, _, _, .eq (by kernel_rfl), hO, h1⟩)))))
    refine cV 2 ?_
    obtain rfl := oI h1
    obtain rfl : _ = rr0 := ho0
    replace h0 : uO bF bQ = some r := h0
    exact aJ (aS (aS (bM (aH (⟨rfl, _, _, _, _, .eq (by kernel_rfl), hO, h0⟩)))))
  refine aY aF 1 [] [(7, (eI (0 : Int)))] ?_
  refine bO 0 ?_
  refine cL [(0, (eL aE f0)), (4, (.sl true 0 (fun _ => .bad))), (5, (.sl true 0 (fun _ => .bad))), (6, (eI (0 : Int))), (7, (eI (0 : Int)))] ?_
  refine uM (el := (fun _ => .bad)) 1 4 1 hO (by kernel_rfl) ?_
  intro lo71 H72 hO
  refine uM (el := (fun _ => .bad)) 2 5 1 hO (by kernel_rfl) ?_
  intro lo73 H74 hO
  refine cC (fun T H => ∃ bF : List Int, ∃ bQ : List Int, ∃ n6 : Int, ∃ i7 : Int, ∃ lo63 : Nat, ∃ lo64 : Nat, Has T [(0, (eL aE f0)), (4, (.msl 1 lo63 0 (List.length bF))), (5, (.msl 1 lo64 0 (List.length bQ))), (6, (eI n6)), (7, (eI i7))] ∧ aN ⟨H0, [], []⟩ H [(lo63, 1, List.map (eI) bF), (lo64, 1, List.map (eI) bQ)] ∧ sX f0 bF bQ n6 i7 = some r) ?_ ⟨([] : List Int), ([] : List Int), (0 : Int), (0 : Int), lo71, lo73, .eq (by kernel_rfl), hO, h0⟩
  clear hO h0
  rintro T H ⟨bF, bQ, n6, i7, lo63, lo64, hT, hO, h0⟩
  refine bA hT ?_
  clear hT
  unfold sX at h0
  obtain ⟨rr0, hl0, h0⟩ := aW h0
  refine bX (by kernel_rfl) (fun (s : List Int × List Int × Int × Int) T H => ∃ lo63 : Nat, ∃ lo64 : Nat, Has T [(0, (eL aE f0)), (4, (.msl 1 lo63 0 (List.length s.1))), (5, (.msl 1 lo64 0 (List.length s.2.1))), (6, (eI s.2.2.1)), (7, (eI s.2.2.2))] ∧ aN ⟨H0, [], []⟩ H [(lo63, 1, List.map (eI) s.1), (lo64, 1, List.map (eI) s.2.1)]) hl0 ⟨lo63, lo64, .eq (by kernel_rfl), hO⟩ ?_
  clear hO
  rintro k0 s out1 T H ⟨lo63, lo64, hT, hO⟩ h1 ho0
  obtain ⟨bF, bQ, n6, i7⟩ := s
  replace h1 : mA f0 bF bQ n6 i7 = some out1 := h1
  try dsimp only at hT
  refine bA hT ?_
  clear hT
  unfold mA at h1
  refine aO ?_
  refine aY aF 4 [] [(25, (aK (decide (i7 < (lN f0)))))] ?_
  refine bJ h1 (fun h1 => ?_) (fun h1 => ?_)
  · refine bL ?_
    refine bH [(0, (eL aE f0)), (4, (.msl 1 lo63 0 (List.length bF))), (5, (.msl 1 lo64 0 (List.length bQ))), (6, (eI n6)), (7, (eI i7))] ?_
    refine cH (fun T H => ∃ bF : List Int, ∃ bQ : List Int, ∃ n6 : Int, ∃ lo66 : Nat, ∃ lo67 : Nat, Has T [(0, (eL aE f0)), (4, (.msl 1 lo66 0 (List.length bF))), (5, (.msl 1 lo67 0 (List.length bQ))), (6, (eI n6)), (7, (eI i7))] ∧ aN ⟨H0, [], []⟩ H [(lo66, 1, List.map (eI) bF), (lo67, 1, List.map (eI) bQ)] ∧ pZ f0 bF bQ n6 i7 = some out1) ?_ ?_
    · clear hO h1
      rintro T H ⟨bF, bQ, n6, lo66, lo67, hT, hO, h1⟩
      refine bA hT ?_
      clear hT
      unfold pZ at h1
      refine aU aF 3 ?_
      refine bC ?_
      exact aJ (aH (⟨rfl, _, (oI h1).symm, _, _, .eq (by kernel_rfl), hO⟩))
    refine bO 1 ?_
    refine aO ?_
    refine aU aF 6 ?_
    obtain ⟨c68, h1⟩ := bE h1
    refine oN [0 ≤ i7 ∧ i7 < (lN f0)] ⟨c68, trivial⟩ ?_
    refine bT [] [(33, (aK (decide ((0 : Int) < ((gD f0 i7).Net)))))] ?_
    refine bJ h1 (fun h1 => ?_) (fun h1 => ?_)
    · refine aU aF 8 ?_
      obtain ⟨c70, h1⟩ := bE h1
      refine oN [0 ≤ i7 ∧ i7 < (lN f0)] ⟨c70, trivial⟩ ?_
      exact aJ (aV (aH (⟨rfl, _, _, _, _, _, .eq (by kernel_rfl), hO, h1⟩)))
    refine bL ?_
    exact aJ (aV (aH (⟨rfl, _, _, _, _, _, .eq (by kernel_rfl), hO, h1⟩)))
  refine cV 0 ?_
  obtain rfl := oI h1
  obtain rfl : _ = rr0 := ho0
  replace h0 : rB f0 bF bQ n6 = some r := h0
  exact aJ (aS (aS (bM (aH (⟨rfl, _, _, _, _, _, .eq (by kernel_rfl), hO, h0⟩)))))

end Go.Abs
