/- What the law EdgeOf stands on: the framework, the given functions as plain functions, their walks, and the plain laws; part 4. -/
import Derived.Test.YtbnnpfncgndidaaEdgeOfZ3
set_option linter.unusedSimpArgs false
set_option linter.unusedVariables false
namespace Go.Abs
open Go Go.RowKit Go.Proofs
theorem sW (cmp4_f : Nat) (cmp4_a cmp4_c : List V) (cmp4 : aB → aB → Option Int) (cmp4_h : ∀ a0 a1 r, cmp4 a0 a1 = some r → bR Try.prog cmp4_f (cmp4_a ++ [(aE a0), (aE a1)] ++ cmp4_c) (eI r)) (rec : (List aB) → Int → Int → Int → Option (List aB)) (ih : ∀ (lo0p : Nat) (aA : (List aB)) (a1 : Int) (m2 : Int) (b3 : Int) (r : List aB), rec aA a1 m2 b3 = some r → lF Try.prog 122 lo0p 2 (List.map aE aA) (List.map aE r) [(.msl 2 lo0p 0 (List.length aA)), (eI a1), (eI m2), (eI b3), (.fn (.func cmp4_f) cmp4_a cmp4_c)] (.tup [])) (lo0p : Nat) (aA : (List aB)) (a1 : Int) (m2 : Int) (b3 : Int) (r : List aB) (h0 : dR cmp4 rec aA a1 m2 b3 = some r) : lF Try.prog 122 lo0p 2 (List.map aE aA) (List.map aE r) [(.msl 2 lo0p 0 (List.length aA)), (eI a1), (eI m2), (eI b3), (.fn (.func cmp4_f) cmp4_a cmp4_c)] (.tup []) := by
  intro H0 hl0
  refine bY Try.func122 ?_
  have hO := aL.pI hl0
  clear hl0
  obtain ⟨N0, hN0⟩ : ∃ n, n = List.length aA := ⟨_, rfl⟩
  have hN : List.length aA = N0 := hN0.symm
  unfold dR at h0
  refine cL (fun T H => ∃ aA : List aB, Has T [(0, (.msl 2 lo0p 0 (List.length aA))), (1, (eI a1)), (2, (eI m2)), (3, (eI b3)), (4, (.fn (.func cmp4_f) cmp4_a cmp4_c))] ∧ aL ⟨H0, [lo0p], []⟩ H [(lo0p, 2, List.map aE aA)] ∧ List.length aA = N0 ∧ kY cmp4 rec aA a1 m2 b3 = some r) ?_ ?_
  · clear hO hN h0
    rintro T H ⟨aA, hT, hO, hN, h0⟩
    refine aZ hT ?_
    clear hT
    unfold kY at h0
    refine cL (fun T H => ∃ aA : List aB, Has T [(0, (.msl 2 lo0p 0 (List.length aA))), (1, (eI a1)), (2, (eI m2)), (3, (eI b3)), (4, (.fn (.func cmp4_f) cmp4_a cmp4_c))] ∧ aL ⟨H0, [lo0p], []⟩ H [(lo0p, 2, List.map aE aA)] ∧ List.length aA = N0 ∧ lC cmp4 rec aA a1 m2 b3 = some r) ?_ ?_
    · clear hO hN h0
      rintro T H ⟨aA, hT, hO, hN, h0⟩
      refine aZ hT ?_
      clear hT
      unfold lC at h0
      refine aO ?_
      refine aT aH 7 ?_
      obtain ⟨c1, h0⟩ := bA h0
      refine nG [0 ≤ (1 : Int)] ⟨c1, trivial⟩ ?_
      refine bP [] [(18, (eI (wR (Int.fdiv (IntKind.u64.wrap (wR (a1 + b3))) (2 ^ (min (Int.toNat (1 : Int)) 64))))))] ?_
      refine aU aH 4 [] [(19, (eI (wR ((wR (Int.fdiv (IntKind.u64.wrap (wR (a1 + b3))) (2 ^ (min (Int.toNat (1 : Int)) 64)))) + m2))))] ?_
      refine aU aH 2 [] [] ?_
      refine cL (fun T H => ∃ aA : List aB, ∃ bQ : Int, ∃ n19 : Int, ∃ aQ : Int, ∃ r21 : Int, Has T [(0, (.msl 2 lo0p 0 (List.length aA))), (1, (eI a1)), (2, (eI m2)), (3, (eI b3)), (4, (.fn (.func cmp4_f) cmp4_a cmp4_c)), (18, (eI bQ)), (19, (eI n19)), (20, (eI aQ)), (21, (eI r21))] ∧ aL ⟨H0, [lo0p], []⟩ H [(lo0p, 2, List.map aE aA)] ∧ List.length aA = N0 ∧ gH cmp4 rec aA a1 m2 b3 bQ n19 aQ r21 = some r) ?_ ?_
      · clear hO hN h0
        rintro T H ⟨aA, bQ, n19, aQ, r21, hT, hO, hN, h0⟩
        refine aZ hT ?_
        clear hT
        unfold gH at h0
        refine aU aH 3 [] [(22, (eI (wR (n19 - (1 : Int)))))] ?_
        refine cL (fun T H => ∃ aA : List aB, ∃ aQ : Int, Has T [(0, (.msl 2 lo0p 0 (List.length aA))), (1, (eI a1)), (2, (eI m2)), (3, (eI b3)), (4, (.fn (.func cmp4_f) cmp4_a cmp4_c)), (18, (eI bQ)), (19, (eI n19)), (20, (eI aQ))] ∧ aL ⟨H0, [lo0p], []⟩ H [(lo0p, 2, List.map aE aA)] ∧ List.length aA = N0 ∧ gP cmp4 rec aA a1 m2 b3 bQ n19 aQ = some r) ?_ ?_
        · clear hO hN h0
          rintro T H ⟨aA, aQ, hT, hO, hN, h0⟩
          refine aZ hT ?_
          clear hT
          unfold gP at h0
          refine aU aH 4 [19] [(24, (eI (wR (n19 - aQ))))] ?_
          refine cL (fun T H => ∃ aA : List aB, ∃ dV : Int, Has T [(0, (.msl 2 lo0p 0 (List.length aA))), (1, (eI a1)), (3, (eI b3)), (4, (.fn (.func cmp4_f) cmp4_a cmp4_c)), (18, (eI bQ)), (20, (eI aQ)), (24, (eI dV))] ∧ aL ⟨H0, [lo0p], []⟩ H [(lo0p, 2, List.map aE aA)] ∧ List.length aA = N0 ∧ gO cmp4 rec aA a1 b3 bQ aQ dV = some r) ?_ ?_
          · clear hO hN h0
            rintro T H ⟨aA, dV, hT, hO, hN, h0⟩
            refine aZ hT ?_
            clear hT
            unfold gO at h0
            refine cL (fun T H => ∃ aA : List aB, Has T [(0, (.msl 2 lo0p 0 (List.length aA))), (3, (eI b3)), (4, (.fn (.func cmp4_f) cmp4_a cmp4_c)), (18, (eI bQ)), (24, (eI dV))] ∧ aL ⟨H0, [lo0p], []⟩ H [(lo0p, 2, List.map aE aA)] ∧ List.length aA = N0 ∧ gW cmp4 rec aA b3 bQ dV = some r) ?_ ?_
            · clear hO hN h0
              rintro T H ⟨aA, hT, hO, hN, h0⟩
              refine aZ hT ?_
              clear hT
              unfold gW at h0
              refine aU aH 8 [] [(213, (aK ((decide (bQ < dV)) && (decide (dV < b3)))))] ?_
              refine bF h0 (fun h0 => ?_) (fun h0 => ?_)
              · refine aT aH 6 ?_
                refine bO 5 ?_
                obtain ⟨x3, hx4, h0⟩ := aX h0
                refine oJ [(lo0p, 2, List.map aE x3)] 0 (ih lo0p aA bQ dV b3 _ hx4) hO ?_
                intro H hO hl5
                simp only [List.length_map] at hl5
                replace hN := hl5.trans hN
                refine cU ?_
                refine cH (l := [(0, (.msl 2 lo0p 0 (List.length x3)))]) ⟨[(0, (.msl 2 lo0p 0 (List.length aA)))], by kernel_rfl, rfl, ⟨aS.eq (by simp [hl5]), trivial⟩⟩ ?_
                obtain rfl := oI h0
                exact aJ (rD (x := (.tup [])) (by kernel_rfl) (aS.refl _) ⟨rfl, hO.ext, hO.at 0 (by kernel_rfl), by simp only [List.length_map]; exact hN.trans hN0⟩)
              refine bH ?_
              obtain rfl := oI h0
              exact aJ (rD (x := (.tup [])) (by kernel_rfl) (aS.refl _) ⟨rfl, hO.ext, hO.at 0 (by kernel_rfl), by simp only [List.length_map]; exact hN.trans hN0⟩)
            refine aU aH 8 [] [(199, (aK ((decide (a1 < aQ)) && (decide (aQ < bQ)))))] ?_
            refine bF h0 (fun h0 => ?_) (fun h0 => ?_)
            · refine aT aH 6 ?_
              refine bO 5 ?_
              obtain ⟨x7, hx8, h0⟩ := aX h0
              refine oJ [(lo0p, 2, List.map aE x7)] 0 (ih lo0p aA a1 aQ bQ _ hx8) hO ?_
              intro H hO hl9
              simp only [List.length_map] at hl9
              replace hN := hl9.trans hN
              refine cU ?_
              refine cH (l := [(0, (.msl 2 lo0p 0 (List.length x7))), (3, (eI b3)), (4, (.fn (.func cmp4_f) cmp4_a cmp4_c)), (18, (eI bQ)), (24, (eI dV))]) ⟨[(0, (.msl 2 lo0p 0 (List.length aA))), (3, (eI b3)), (4, (.fn (.func cmp4_f) cmp4_a cmp4_c)), (18, (eI bQ)), (24, (eI dV))], by kernel_rfl, rfl, ⟨aS.eq (by simp [hl9]), aS.refl _, aS.refl _, aS.refl _, aS.refl _, trivial⟩⟩ ?_
              exact aJ (aI (⟨rfl, _, .eq (by kernel_rfl), hO, hN, h0⟩))
            refine bH ?_
            exact aJ (aI (⟨rfl, _, .eq (by kernel_rfl), hO, hN, h0⟩))
          refine aU aH 8 [] [(185, (aK ((decide (aQ < m2)) && (decide (m2 < (wR (n19 - aQ)))))))] ?_
          refine bF h0 (fun h0 => ?_) (fun h0 => ?_)
          · refine aT aH 6 ?_
            refine bO 5 ?_
            obtain ⟨x11, hx12, h0⟩ := aX h0
            refine oJ [(lo0p, 2, List.map aE x11)] 0 (xD lo0p aA aQ m2 (wR (n19 - aQ)) cmp4_f cmp4_a cmp4_c cmp4 cmp4_h _ hx12) hO ?_
            intro H hO hl13
            simp only [List.length_map] at hl13
            replace hN := hl13.trans hN
            refine cU ?_
            refine cH (l := [(0, (.msl 2 lo0p 0 (List.length x11))), (1, (eI a1)), (3, (eI b3)), (4, (.fn (.func cmp4_f) cmp4_a cmp4_c)), (18, (eI bQ)), (20, (eI aQ)), (24, (eI (wR (n19 - aQ))))]) ⟨[(0, (.msl 2 lo0p 0 (List.length aA))), (1, (eI a1)), (3, (eI b3)), (4, (.fn (.func cmp4_f) cmp4_a cmp4_c)), (18, (eI bQ)), (20, (eI aQ)), (24, (eI (wR (n19 - aQ))))], by kernel_rfl, rfl, ⟨aS.eq (by simp [hl13]), aS.refl _, aS.refl _, aS.refl _, aS.refl _, aS.refl _, aS.refl _, trivial⟩⟩ ?_
            exact aJ (aI (⟨rfl, _, _, .eq (by kernel_rfl), hO, hN, h0⟩))
          refine bH ?_
          exact aJ (aI (⟨rfl, _, _, .eq (by kernel_rfl), hO, hN, h0⟩))
        refine bN 8 ?_
        refine cR [(0, (.msl 2 lo0p 0 (List.length aA))), (1, (eI a1)), (2, (eI m2)), (3, (eI b3)), (4, (.fn (.func cmp4_f) cmp4_a cmp4_c)), (18, (eI bQ)), (19, (eI n19)), (20, (eI aQ)), (21, (eI r21)), (22, (eI (wR (n19 - (1 : Int)))))] ?_
        refine cG (fun T H => ∃ aA : List aB, ∃ aQ : Int, ∃ r21 : Int, ∃ p22 : Int, Has T [(0, (.msl 2 lo0p 0 (List.length aA))), (1, (eI a1)), (2, (eI m2)), (3, (eI b3)), (4, (.fn (.func cmp4_f) cmp4_a cmp4_c)), (18, (eI bQ)), (19, (eI n19)), (20, (eI aQ)), (21, (eI r21)), (22, (eI p22))] ∧ aL ⟨H0, [lo0p], []⟩ H [(lo0p, 2, List.map aE aA)] ∧ List.length aA = N0 ∧ lE cmp4 rec aA a1 m2 b3 bQ n19 aQ r21 p22 = some r) ?_ ⟨aA, aQ, r21, wR (n19 - (1 : Int)), .eq (by kernel_rfl), hO, hN, h0⟩
        clear hO hN h0
        rintro T H ⟨aA, aQ, r21, p22, hT, hO, hN, h0⟩
        refine aZ hT ?_
        clear hT
        unfold lE at h0
        obtain ⟨rr0, hl0, h0⟩ := aX h0
        refine bV (by kernel_rfl) (fun (s : List aB × Int × Int) T H => Has T [(0, (.msl 2 lo0p 0 (List.length s.1))), (1, (eI a1)), (2, (eI m2)), (3, (eI b3)), (4, (.fn (.func cmp4_f) cmp4_a cmp4_c)), (18, (eI bQ)), (19, (eI n19)), (20, (eI s.2.1)), (21, (eI s.2.2)), (22, (eI p22))] ∧ aL ⟨H0, [lo0p], []⟩ H [(lo0p, 2, List.map aE s.1)] ∧ List.length s.1 = N0) hl0 ⟨.eq (by kernel_rfl), hO, hN⟩ ?_
        clear hO hN
        rintro k0 s out1 T H ⟨hT, hO, hN⟩ h1 ho0
        obtain ⟨aA, aQ, r21⟩ := s
        replace h1 : lB cmp4 rec a1 m2 b3 bQ n19 p22 aA aQ r21 = some out1 := h1
        dsimp only at hT
        refine aZ hT ?_
        clear hT
        unfold lB at h1
        refine aO ?_
        refine aU aH 3 [] [(151, (aK (decide (aQ < r21))))] ?_
        refine bF h1 (fun h1 => ?_) (fun h1 => ?_)
        · refine bH ?_
          refine bD [(0, (.msl 2 lo0p 0 (List.length aA))), (1, (eI a1)), (2, (eI m2)), (3, (eI b3)), (4, (.fn (.func cmp4_f) cmp4_a cmp4_c)), (18, (eI bQ)), (19, (eI n19)), (20, (eI aQ)), (21, (eI r21)), (22, (eI p22))] ?_
          refine bN 9 ?_
          refine aO ?_
          refine aT aH 7 ?_
          obtain ⟨c15, h1⟩ := bA h1
          refine nG [0 ≤ (1 : Int)] ⟨c15, trivial⟩ ?_
          refine bP [] [(23, (eI (wR (Int.fdiv (IntKind.u64.wrap (wR (aQ + r21))) (2 ^ (min (Int.toNat (1 : Int)) 64))))))] ?_
          refine aO ?_
          refine hU (hM []) aH 14 ?_
          obtain ⟨c16, h1⟩ := bA h1
          refine cV 6 [0 ≤ (wR (p22 - (wR (Int.fdiv (IntKind.u64.wrap (wR (aQ + r21))) (2 ^ (min (Int.toNat (1 : Int)) 64)))))) ∧ (wR (p22 - (wR (Int.fdiv (IntKind.u64.wrap (wR (aQ + r21))) (2 ^ (min (Int.toNat (1 : Int)) 64)))))) < (lN aA)] ⟨c16, trivial⟩ ?_
          refine lR 0 lo0p 2 (0 + Int.toNat (wR (p22 - (wR (Int.fdiv (IntKind.u64.wrap (wR (aQ + r21))) (2 ^ (min (Int.toNat (1 : Int)) 64))))))) (aE (gD aA (wR (p22 - (wR (Int.fdiv (IntKind.u64.wrap (wR (aQ + r21))) (2 ^ (min (Int.toNat (1 : Int)) 64)))))))) (aE (gD aA (wR (p22 - (wR (Int.fdiv (IntKind.u64.wrap (wR (aQ + r21))) (2 ^ (min (Int.toNat (1 : Int)) 64)))))))) (List.map aE aA) hO (cM c16) ?_
          obtain ⟨c17, h1⟩ := bA h1
          refine cV 10 [0 ≤ (wR (Int.fdiv (IntKind.u64.wrap (wR (aQ + r21))) (2 ^ (min (Int.toNat (1 : Int)) 64)))) ∧ (wR (Int.fdiv (IntKind.u64.wrap (wR (aQ + r21))) (2 ^ (min (Int.toNat (1 : Int)) 64)))) < (lN aA)] ⟨c17, trivial⟩ ?_
          refine lR 0 lo0p 2 (0 + Int.toNat (wR (Int.fdiv (IntKind.u64.wrap (wR (aQ + r21))) (2 ^ (min (Int.toNat (1 : Int)) 64))))) (aE (gD aA (wR (Int.fdiv (IntKind.u64.wrap (wR (aQ + r21))) (2 ^ (min (Int.toNat (1 : Int)) 64)))))) (aE (gD aA (wR (Int.fdiv (IntKind.u64.wrap (wR (aQ + r21))) (2 ^ (min (Int.toNat (1 : Int)) 64)))))) (List.map aE aA) hO (cM c17) ?_
          obtain ⟨x18, hx19, h1⟩ := aX h1
          refine AB (cmp4_h (gD aA (wR (p22 - (wR (Int.fdiv (IntKind.u64.wrap (wR (aQ + r21))) (2 ^ (min (Int.toNat (1 : Int)) 64))))))) (gD aA (wR (Int.fdiv (IntKind.u64.wrap (wR (aQ + r21))) (2 ^ (min (Int.toNat (1 : Int)) 64))))) _ hx19) hO ?_
          intro H hO
          refine jN ?_
          refine bP [] [(171, (aK (!(decide (x18 < (0 : Int))))))] ?_
          refine bF h1 (fun h1 => ?_) (fun h1 => ?_)
          · refine aT aH 3 ?_
            refine bB ?_
            exact aJ (aV (aI (⟨rfl, _, (oI h1).symm, .eq (by kernel_rfl), hO, hN⟩)))
          refine aT aH 2 ?_
          refine bB ?_
          exact aJ (aV (aI (⟨rfl, _, (oI h1).symm, .eq (by kernel_rfl), hO, hN⟩)))
        refine dG 8 ?_
        obtain rfl := oI h1
        obtain rfl : _ = rr0 := ho0
        replace h0 : gP cmp4 rec aA a1 m2 b3 bQ n19 aQ = some r := h0
        exact aJ (aR (aR (bL (aI (⟨rfl, _, _, .eq (by kernel_rfl), hO, hN, h0⟩)))))
      refine aU aH 3 [] [(140, (aK (decide ((wR (Int.fdiv (IntKind.u64.wrap (wR (a1 + b3))) (2 ^ (min (Int.toNat (1 : Int)) 64)))) < m2))))] ?_
      refine bF h0 (fun h0 => ?_) (fun h0 => ?_)
      · refine bM aH 4 [(0, (.msl 2 lo0p 0 (List.length aA))), (1, (eI a1)), (2, (eI m2)), (3, (eI b3)), (4, (.fn (.func cmp4_f) cmp4_a cmp4_c)), (18, (eI (wR (Int.fdiv (IntKind.u64.wrap (wR (a1 + b3))) (2 ^ (min (Int.toNat (1 : Int)) 64)))))), (19, (eI (wR ((wR (Int.fdiv (IntKind.u64.wrap (wR (a1 + b3))) (2 ^ (min (Int.toNat (1 : Int)) 64)))) + m2)))), (20, (eI (wR ((wR ((wR (Int.fdiv (IntKind.u64.wrap (wR (a1 + b3))) (2 ^ (min (Int.toNat (1 : Int)) 64)))) + m2)) - b3))))] ?_
        refine aT aH 2 ?_
        refine bB ?_
        exact aJ (aI (⟨rfl, _, _, _, _, _, .eq (by kernel_rfl), hO, hN, h0⟩))
      refine bM aH 2 [(0, (.msl 2 lo0p 0 (List.length aA))), (1, (eI a1)), (2, (eI m2)), (3, (eI b3)), (4, (.fn (.func cmp4_f) cmp4_a cmp4_c)), (18, (eI (wR (Int.fdiv (IntKind.u64.wrap (wR (a1 + b3))) (2 ^ (min (Int.toNat (1 : Int)) 64)))))), (19, (eI (wR ((wR (Int.fdiv (IntKind.u64.wrap (wR (a1 + b3))) (2 ^ (min (Int.toNat (1 : Int)) 64)))) + m2)))), (20, (eI a1))] ?_
      refine aT aH 2 ?_
      refine bB ?_
      exact aJ (aI (⟨rfl, _, _, _, _, _, .eq (by kernel_rfl), hO, hN, h0⟩))
    refine aU aH 4 [] [(80, (aK (decide ((wR (b3 - m2)) = (1 : Int)))))] ?_
    refine bF h0 (fun h0 => ?_) (fun h0 => ?_)
    · refine aU aH 2 [1, 3, 80] [(14, (eI a1))] ?_
      refine aU aH 2 [] [(15, (eI m2))] ?_
      refine cL (fun T H => ∃ aA : List aB, ∃ i14 : Int, Has T [(0, (.msl 2 lo0p 0 (List.length aA))), (2, (eI m2)), (14, (eI i14))] ∧ aL ⟨H0, [lo0p], []⟩ H [(lo0p, 2, List.map aE aA)] ∧ List.length aA = N0 ∧ gQ cmp4 rec aA m2 i14 = some r) ?_ ?_
      · clear hO hN h0
        rintro T H ⟨aA, i14, hT, hO, hN, h0⟩
        refine aZ hT ?_
        clear hT
        unfold gQ at h0
        refine cL (fun T H => ∃ aA : List aB, Has T [(0, (.msl 2 lo0p 0 (List.length aA)))] ∧ aL ⟨H0, [lo0p], []⟩ H [(lo0p, 2, List.map aE aA)] ∧ List.length aA = N0 ∧ gK cmp4 rec aA = some r) ?_ ?_
        · clear hO hN h0
          rintro T H ⟨aA, hT, hO, hN, h0⟩
          refine aZ hT ?_
          clear hT
          unfold gK at h0
          refine bE ?_
          obtain rfl := oI h0
          exact aJ (aP (oK (x := (.tup [])) (by kernel_rfl) (aS.refl _) ⟨rfl, hO.ext, hO.at 0 (by kernel_rfl), by simp only [List.length_map]; exact hN.trans hN0⟩))
        refine aU aH 2 [2] [(17, (eI m2))] ?_
        refine bN 6 ?_
        refine cR [(0, (.msl 2 lo0p 0 (List.length aA))), (14, (eI i14)), (17, (eI m2))] ?_
        refine cG (fun T H => ∃ aA : List aB, ∃ k17 : Int, Has T [(0, (.msl 2 lo0p 0 (List.length aA))), (14, (eI i14)), (17, (eI k17))] ∧ aL ⟨H0, [lo0p], []⟩ H [(lo0p, 2, List.map aE aA)] ∧ List.length aA = N0 ∧ kF cmp4 rec aA i14 k17 = some r) ?_ ⟨aA, m2, .eq (by kernel_rfl), hO, hN, h0⟩
        clear hO hN h0
        rintro T H ⟨aA, k17, hT, hO, hN, h0⟩
        refine aZ hT ?_
        clear hT
        unfold kF at h0
        obtain ⟨rr0, hl0, h0⟩ := aX h0
        refine bV (by kernel_rfl) (fun (s : List aB × Int) T H => Has T [(0, (.msl 2 lo0p 0 (List.length s.1))), (14, (eI i14)), (17, (eI s.2))] ∧ aL ⟨H0, [lo0p], []⟩ H [(lo0p, 2, List.map aE s.1)] ∧ List.length s.1 = N0) hl0 ⟨.eq (by kernel_rfl), hO, hN⟩ ?_
        clear hO hN
        rintro k0 s out1 T H ⟨hT, hO, hN⟩ h1 ho0
        obtain ⟨aA, k17⟩ := s
        replace h1 : kD cmp4 rec i14 aA k17 = some out1 := h1
        dsimp only at hT
        refine aZ hT ?_
        clear hT
        unfold kD at h1
        refine aO ?_
        refine aU aH 3 [] [(110, (aK (decide (i14 < k17))))] ?_
        refine bF h1 (fun h1 => ?_) (fun h1 => ?_)
        · refine bH ?_
          refine bD [(0, (.msl 2 lo0p 0 (List.length aA))), (14, (eI i14)), (17, (eI k17))] ?_
          refine aO ?_
          refine bN 7 ?_
          refine hU (hM []) aH 18 ?_
          obtain ⟨c25, h1⟩ := bA h1
          refine cV 9 [0 ≤ (wR (k17 - (1 : Int))) ∧ (wR (k17 - (1 : Int))) < (lN aA)] ⟨c25, trivial⟩ ?_
          refine lR 0 lo0p 2 (0 + Int.toNat (wR (k17 - (1 : Int)))) (aE (gD aA (wR (k17 - (1 : Int))))) (aE (gD aA (wR (k17 - (1 : Int))))) (List.map aE aA) hO (cM c25) ?_
          obtain ⟨c26, h1⟩ := bA h1
          refine cV 13 [0 ≤ k17 ∧ k17 < (lN aA)] ⟨c26, trivial⟩ ?_
          refine lR 0 lo0p 2 (0 + Int.toNat k17) (aE (gD aA k17)) (aE (gD aA k17)) (List.map aE aA) hO (cM c26) ?_
          obtain ⟨c27, h1⟩ := bA h1
          refine cV 15 [0 ≤ k17 ∧ k17 < (lN aA)] ⟨c27, trivial⟩ ?_
          refine tT 0 lo0p 2 (0 + Int.toNat k17) (aE (gD aA k17)) (aE (gD aA (wR (k17 - (1 : Int))))) (List.map aE aA) [(lo0p, 2, List.map aE (List.set aA (Int.toNat k17) (gD aA (wR (k17 - (1 : Int))))))] hO (cM c27) (by simp only [List.set, oD]) ?_
          intro H hO
          replace hN : List.length (List.set aA (Int.toNat k17) (gD aA (wR (k17 - (1 : Int))))) = N0 := by simpa using hN
          obtain ⟨c28, h1⟩ := bA h1
          refine cV 17 [0 ≤ (wR (k17 - (1 : Int))) ∧ (wR (k17 - (1 : Int))) < (lN aA)] ⟨c28, trivial⟩ ?_
          refine tT 0 lo0p 2 (0 + Int.toNat (wR (k17 - (1 : Int)))) (aE (gD (List.set aA (Int.toNat k17) (gD aA (wR (k17 - (1 : Int))))) (wR (k17 - (1 : Int))))) (aE (gD aA k17)) (List.map aE (List.set aA (Int.toNat k17) (gD aA (wR (k17 - (1 : Int)))))) [(lo0p, 2, List.map aE (List.set (List.set aA (Int.toNat k17) (gD aA (wR (k17 - (1 : Int))))) (Int.toNat (wR (k17 - (1 : Int)))) (gD aA k17)))] hO (wT c28 (by simp [])) (by simp only [List.set, oD]) ?_
          intro H hO
          replace hN : List.length (List.set (List.set aA (Int.toNat k17) (gD aA (wR (k17 - (1 : Int))))) (Int.toNat (wR (k17 - (1 : Int)))) (gD aA k17)) = N0 := by simpa using hN
          refine AU (by kernel_rfl) ?_
          refine cH (l := [(0, (.msl 2 lo0p 0 (List.length (List.set (List.set aA (Int.toNat k17) (gD aA (wR (k17 - (1 : Int))))) (Int.toNat (wR (k17 - (1 : Int)))) (gD aA k17))))), (14, (eI i14)), (17, (eI k17))]) ⟨[(0, (.msl 2 lo0p 0 (List.length aA))), (14, (eI i14)), (17, (eI k17))], by kernel_rfl, rfl, ⟨aS.eq (by simp []), aS.refl _, aS.refl _, trivial⟩⟩ ?_
          refine aJ (aV (aI (?_)))
          refine aT aH 3 ?_
          refine bB ?_
          exact aJ (aI (⟨rfl, _, (oI h1).symm, .eq (by kernel_rfl), hO, hN⟩))
        refine dG 6 ?_
        obtain rfl := oI h1
        obtain rfl : _ = rr0 := ho0
        replace h0 : gK cmp4 rec aA = some r := h0
        exact aJ (aR (aR (bL (aI (⟨rfl, _, .eq (by kernel_rfl), hO, hN, h0⟩)))))
      refine bN 4 ?_
      refine cR [(0, (.msl 2 lo0p 0 (List.length aA))), (2, (eI m2)), (4, (.fn (.func cmp4_f) cmp4_a cmp4_c)), (14, (eI a1)), (15, (eI m2))] ?_
      refine cG (fun T H => ∃ aA : List aB, ∃ i14 : Int, ∃ j15 : Int, Has T [(0, (.msl 2 lo0p 0 (List.length aA))), (2, (eI m2)), (4, (.fn (.func cmp4_f) cmp4_a cmp4_c)), (14, (eI i14)), (15, (eI j15))] ∧ aL ⟨H0, [lo0p], []⟩ H [(lo0p, 2, List.map aE aA)] ∧ List.length aA = N0 ∧ kL cmp4 rec aA m2 i14 j15 = some r) ?_ ⟨aA, a1, m2, .eq (by kernel_rfl), hO, hN, h0⟩
      clear hO hN h0
      rintro T H ⟨aA, i14, j15, hT, hO, hN, h0⟩
      refine aZ hT ?_
      clear hT
      unfold kL at h0
      obtain ⟨rr0, hl0, h0⟩ := aX h0
      refine bV (by kernel_rfl) (fun (s : List aB × Int × Int) T H => Has T [(0, (.msl 2 lo0p 0 (List.length s.1))), (2, (eI m2)), (4, (.fn (.func cmp4_f) cmp4_a cmp4_c)), (14, (eI s.2.1)), (15, (eI s.2.2))] ∧ aL ⟨H0, [lo0p], []⟩ H [(lo0p, 2, List.map aE s.1)] ∧ List.length s.1 = N0) hl0 ⟨.eq (by kernel_rfl), hO, hN⟩ ?_
      clear hO hN
      rintro k0 s out1 T H ⟨hT, hO, hN⟩ h1 ho0
      obtain ⟨aA, i14, j15⟩ := s
      replace h1 : jY cmp4 rec m2 aA i14 j15 = some out1 := h1
      dsimp only at hT
      refine aZ hT ?_
      clear hT
      unfold jY at h1
      refine aO ?_
      refine aU aH 3 [] [(85, (aK (decide (i14 < j15))))] ?_
      refine bF h1 (fun h1 => ?_) (fun h1 => ?_)
      · refine bH ?_
        refine bD [(0, (.msl 2 lo0p 0 (List.length aA))), (2, (eI m2)), (4, (.fn (.func cmp4_f) cmp4_a cmp4_c)), (14, (eI i14)), (15, (eI j15))] ?_
        refine bN 5 ?_
        refine aO ?_
        refine aT aH 7 ?_
        obtain ⟨c30, h1⟩ := bA h1
        refine nG [0 ≤ (1 : Int)] ⟨c30, trivial⟩ ?_
        refine bP [] [(16, (eI (wR (Int.fdiv (IntKind.u64.wrap (wR (i14 + j15))) (2 ^ (min (Int.toNat (1 : Int)) 64))))))] ?_
        refine aO ?_
        refine hU (hM []) aH 12 ?_
        obtain ⟨c31, h1⟩ := bA h1
        refine cV 4 [0 ≤ m2 ∧ m2 < (lN aA)] ⟨c31, trivial⟩ ?_
        refine lR 0 lo0p 2 (0 + Int.toNat m2) (aE (gD aA m2)) (aE (gD aA m2)) (List.map aE aA) hO (cM c31) ?_
        obtain ⟨c32, h1⟩ := bA h1
        refine cV 8 [0 ≤ (wR (Int.fdiv (IntKind.u64.wrap (wR (i14 + j15))) (2 ^ (min (Int.toNat (1 : Int)) 64)))) ∧ (wR (Int.fdiv (IntKind.u64.wrap (wR (i14 + j15))) (2 ^ (min (Int.toNat (1 : Int)) 64)))) < (lN aA)] ⟨c32, trivial⟩ ?_
        refine lR 0 lo0p 2 (0 + Int.toNat (wR (Int.fdiv (IntKind.u64.wrap (wR (i14 + j15))) (2 ^ (min (Int.toNat (1 : Int)) 64))))) (aE (gD aA (wR (Int.fdiv (IntKind.u64.wrap (wR (i14 + j15))) (2 ^ (min (Int.toNat (1 : Int)) 64)))))) (aE (gD aA (wR (Int.fdiv (IntKind.u64.wrap (wR (i14 + j15))) (2 ^ (min (Int.toNat (1 : Int)) 64)))))) (List.map aE aA) hO (cM c32) ?_
        obtain ⟨x33, hx34, h1⟩ := aX h1
        refine AB (cmp4_h (gD aA m2) (gD aA (wR (Int.fdiv (IntKind.u64.wrap (wR (i14 + j15))) (2 ^ (min (Int.toNat (1 : Int)) 64))))) _ hx34) hO ?_
        intro H hO
        refine jN ?_
        refine bP [] [(103, (aK (!(decide (x33 < (0 : Int))))))] ?_
        refine bF h1 (fun h1 => ?_) (fun h1 => ?_)
        · refine aT aH 3 ?_
          refine bB ?_
          exact aJ (aV (aI (⟨rfl, _, (oI h1).symm, .eq (by kernel_rfl), hO, hN⟩)))
        refine aT aH 2 ?_
        refine bB ?_
        exact aJ (aV (aI (⟨rfl, _, (oI h1).symm, .eq (by kernel_rfl), hO, hN⟩)))
      refine dG 4 ?_
      obtain rfl := oI h1
      obtain rfl : _ = rr0 := ho0
      replace h0 : gQ cmp4 rec aA m2 i14 = some r := h0
      exact aJ (aR (aR (bL (aI (⟨rfl, _, _, .eq (by kernel_rfl), hO, hN, h0⟩)))))
    refine bH ?_
    exact aJ (aI (⟨rfl, _, .eq (by kernel_rfl), hO, hN, h0⟩))
  refine aU aH 4 [] [(28, (aK (decide ((wR (m2 - a1)) = (1 : Int)))))] ?_
  refine bF h0 (fun h0 => ?_) (fun h0 => ?_)
  · refine aU aH 2 [2, 28] [(10, (eI m2))] ?_
    refine aU aH 2 [3] [(11, (eI b3))] ?_
    refine cL (fun T H => ∃ aA : List aB, ∃ i10 : Int, Has T [(0, (.msl 2 lo0p 0 (List.length aA))), (1, (eI a1)), (10, (eI i10))] ∧ aL ⟨H0, [lo0p], []⟩ H [(lo0p, 2, List.map aE aA)] ∧ List.length aA = N0 ∧ fY cmp4 rec aA a1 i10 = some r) ?_ ?_
    · clear hO hN h0
      rintro T H ⟨aA, i10, hT, hO, hN, h0⟩
      refine aZ hT ?_
      clear hT
      unfold fY at h0
      refine cL (fun T H => ∃ aA : List aB, Has T [(0, (.msl 2 lo0p 0 (List.length aA)))] ∧ aL ⟨H0, [lo0p], []⟩ H [(lo0p, 2, List.map aE aA)] ∧ List.length aA = N0 ∧ gC cmp4 rec aA = some r) ?_ ?_
      · clear hO hN h0
        rintro T H ⟨aA, hT, hO, hN, h0⟩
        refine aZ hT ?_
        clear hT
        unfold gC at h0
        refine bE ?_
        obtain rfl := oI h0
        exact aJ (aP (oK (x := (.tup [])) (by kernel_rfl) (aS.refl _) ⟨rfl, hO.ext, hO.at 0 (by kernel_rfl), by simp only [List.length_map]; exact hN.trans hN0⟩))
      refine aU aH 2 [1] [(13, (eI a1))] ?_
      refine bN 2 ?_
      refine cR [(0, (.msl 2 lo0p 0 (List.length aA))), (10, (eI i10)), (13, (eI a1))] ?_
      refine cG (fun T H => ∃ aA : List aB, ∃ k13 : Int, Has T [(0, (.msl 2 lo0p 0 (List.length aA))), (10, (eI i10)), (13, (eI k13))] ∧ aL ⟨H0, [lo0p], []⟩ H [(lo0p, 2, List.map aE aA)] ∧ List.length aA = N0 ∧ kC cmp4 rec aA i10 k13 = some r) ?_ ⟨aA, a1, .eq (by kernel_rfl), hO, hN, h0⟩
      clear hO hN h0
      rintro T H ⟨aA, k13, hT, hO, hN, h0⟩
      refine aZ hT ?_
      clear hT
      unfold kC at h0
      obtain ⟨rr0, hl0, h0⟩ := aX h0
      refine bV (by kernel_rfl) (fun (s : List aB × Int) T H => Has T [(0, (.msl 2 lo0p 0 (List.length s.1))), (10, (eI i10)), (13, (eI s.2))] ∧ aL ⟨H0, [lo0p], []⟩ H [(lo0p, 2, List.map aE s.1)] ∧ List.length s.1 = N0) hl0 ⟨.eq (by kernel_rfl), hO, hN⟩ ?_
      clear hO hN
      rintro k0 s out1 T H ⟨hT, hO, hN⟩ h1 ho0
      obtain ⟨aA, k13⟩ := s
      replace h1 : jX cmp4 rec i10 aA k13 = some out1 := h1
      dsimp only at hT
      refine aZ hT ?_
      clear hT
      unfold jX at h1
      refine aO ?_
      refine aU aH 4 [] [(58, (aK (decide (k13 < (wR (i10 - (1 : Int)))))))] ?_
      refine bF h1 (fun h1 => ?_) (fun h1 => ?_)
      · refine bH ?_
        refine bD [(0, (.msl 2 lo0p 0 (List.length aA))), (10, (eI i10)), (13, (eI k13))] ?_
        refine aO ?_
        refine bN 3 ?_
        refine hU (hM []) aH 18 ?_
        obtain ⟨c39, h1⟩ := bA h1
        refine cV 9 [0 ≤ (wR (k13 + (1 : Int))) ∧ (wR (k13 + (1 : Int))) < (lN aA)] ⟨c39, trivial⟩ ?_
        refine lR 0 lo0p 2 (0 + Int.toNat (wR (k13 + (1 : Int)))) (aE (gD aA (wR (k13 + (1 : Int))))) (aE (gD aA (wR (k13 + (1 : Int))))) (List.map aE aA) hO (cM c39) ?_
        obtain ⟨c40, h1⟩ := bA h1
        refine cV 13 [0 ≤ k13 ∧ k13 < (lN aA)] ⟨c40, trivial⟩ ?_
        refine lR 0 lo0p 2 (0 + Int.toNat k13) (aE (gD aA k13)) (aE (gD aA k13)) (List.map aE aA) hO (cM c40) ?_
        obtain ⟨c41, h1⟩ := bA h1
        refine cV 15 [0 ≤ k13 ∧ k13 < (lN aA)] ⟨c41, trivial⟩ ?_
        refine tT 0 lo0p 2 (0 + Int.toNat k13) (aE (gD aA k13)) (aE (gD aA (wR (k13 + (1 : Int))))) (List.map aE aA) [(lo0p, 2, List.map aE (List.set aA (Int.toNat k13) (gD aA (wR (k13 + (1 : Int))))))] hO (cM c41) (by simp only [List.set, oD]) ?_
        intro H hO
        replace hN : List.length (List.set aA (Int.toNat k13) (gD aA (wR (k13 + (1 : Int))))) = N0 := by simpa using hN
        obtain ⟨c42, h1⟩ := bA h1
        refine cV 17 [0 ≤ (wR (k13 + (1 : Int))) ∧ (wR (k13 + (1 : Int))) < (lN aA)] ⟨c42, trivial⟩ ?_
        refine tT 0 lo0p 2 (0 + Int.toNat (wR (k13 + (1 : Int)))) (aE (gD (List.set aA (Int.toNat k13) (gD aA (wR (k13 + (1 : Int))))) (wR (k13 + (1 : Int))))) (aE (gD aA k13)) (List.map aE (List.set aA (Int.toNat k13) (gD aA (wR (k13 + (1 : Int)))))) [(lo0p, 2, List.map aE (List.set (List.set aA (Int.toNat k13) (gD aA (wR (k13 + (1 : Int))))) (Int.toNat (wR (k13 + (1 : Int)))) (gD aA k13)))] hO (wT c42 (by simp [])) (by simp only [List.set, oD]) ?_
        intro H hO
        replace hN : List.length (List.set (List.set aA (Int.toNat k13) (gD aA (wR (k13 + (1 : Int))))) (Int.toNat (wR (k13 + (1 : Int)))) (gD aA k13)) = N0 := by simpa using hN
        refine AU (by kernel_rfl) ?_
        refine cH (l := [(0, (.msl 2 lo0p 0 (List.length (List.set (List.set aA (Int.toNat k13) (gD aA (wR (k13 + (1 : Int))))) (Int.toNat (wR (k13 + (1 : Int)))) (gD aA k13))))), (10, (eI i10)), (13, (eI k13))]) ⟨[(0, (.msl 2 lo0p 0 (List.length aA))), (10, (eI i10)), (13, (eI k13))], by kernel_rfl, rfl, ⟨aS.eq (by simp []), aS.refl _, aS.refl _, trivial⟩⟩ ?_
        refine aJ (aV (aI (?_)))
        refine aT aH 3 ?_
        refine bB ?_
        exact aJ (aI (⟨rfl, _, (oI h1).symm, .eq (by kernel_rfl), hO, hN⟩))
      refine dG 2 ?_
      obtain rfl := oI h1
      obtain rfl : _ = rr0 := ho0
      replace h0 : gC cmp4 rec aA = some r := h0
      exact aJ (aR (aR (bL (aI (⟨rfl, _, .eq (by kernel_rfl), hO, hN, h0⟩)))))
    refine bN 0 ?_
    refine cR [(0, (.msl 2 lo0p 0 (List.length aA))), (1, (eI a1)), (4, (.fn (.func cmp4_f) cmp4_a cmp4_c)), (10, (eI m2)), (11, (eI b3))] ?_
    refine cG (fun T H => ∃ aA : List aB, ∃ i10 : Int, ∃ j11 : Int, Has T [(0, (.msl 2 lo0p 0 (List.length aA))), (1, (eI a1)), (4, (.fn (.func cmp4_f) cmp4_a cmp4_c)), (10, (eI i10)), (11, (eI j11))] ∧ aL ⟨H0, [lo0p], []⟩ H [(lo0p, 2, List.map aE aA)] ∧ List.length aA = N0 ∧ kS cmp4 rec aA a1 i10 j11 = some r) ?_ ⟨aA, m2, b3, .eq (by kernel_rfl), hO, hN, h0⟩
    clear hO hN h0
    rintro T H ⟨aA, i10, j11, hT, hO, hN, h0⟩
    refine aZ hT ?_
    clear hT
    unfold kS at h0
    obtain ⟨rr0, hl0, h0⟩ := aX h0
    refine bV (by kernel_rfl) (fun (s : List aB × Int × Int) T H => Has T [(0, (.msl 2 lo0p 0 (List.length s.1))), (1, (eI a1)), (4, (.fn (.func cmp4_f) cmp4_a cmp4_c)), (10, (eI s.2.1)), (11, (eI s.2.2))] ∧ aL ⟨H0, [lo0p], []⟩ H [(lo0p, 2, List.map aE s.1)] ∧ List.length s.1 = N0) hl0 ⟨.eq (by kernel_rfl), hO, hN⟩ ?_
    clear hO hN
    rintro k0 s out1 T H ⟨hT, hO, hN⟩ h1 ho0
    obtain ⟨aA, i10, j11⟩ := s
    replace h1 : kK cmp4 rec a1 aA i10 j11 = some out1 := h1
    dsimp only at hT
    refine aZ hT ?_
    clear hT
    unfold kK at h1
    refine aO ?_
    refine aU aH 3 [] [(33, (aK (decide (i10 < j11))))] ?_
    refine bF h1 (fun h1 => ?_) (fun h1 => ?_)
    · refine bH ?_
      refine bD [(0, (.msl 2 lo0p 0 (List.length aA))), (1, (eI a1)), (4, (.fn (.func cmp4_f) cmp4_a cmp4_c)), (10, (eI i10)), (11, (eI j11))] ?_
      refine bN 1 ?_
      refine aO ?_
      refine aT aH 7 ?_
      obtain ⟨c44, h1⟩ := bA h1
      refine nG [0 ≤ (1 : Int)] ⟨c44, trivial⟩ ?_
      refine bP [] [(12, (eI (wR (Int.fdiv (IntKind.u64.wrap (wR (i10 + j11))) (2 ^ (min (Int.toNat (1 : Int)) 64))))))] ?_
      refine aO ?_
      refine hU (hM []) aH 11 ?_
      obtain ⟨c45, h1⟩ := bA h1
      refine cV 4 [0 ≤ (wR (Int.fdiv (IntKind.u64.wrap (wR (i10 + j11))) (2 ^ (min (Int.toNat (1 : Int)) 64)))) ∧ (wR (Int.fdiv (IntKind.u64.wrap (wR (i10 + j11))) (2 ^ (min (Int.toNat (1 : Int)) 64)))) < (lN aA)] ⟨c45, trivial⟩ ?_
      refine lR 0 lo0p 2 (0 + Int.toNat (wR (Int.fdiv (IntKind.u64.wrap (wR (i10 + j11))) (2 ^ (min (Int.toNat (1 : Int)) 64))))) (aE (gD aA (wR (Int.fdiv (IntKind.u64.wrap (wR (i10 + j11))) (2 ^ (min (Int.toNat (1 : Int)) 64)))))) (aE (gD aA (wR (Int.fdiv (IntKind.u64.wrap (wR (i10 + j11))) (2 ^ (min (Int.toNat (1 : Int)) 64)))))) (List.map aE aA) hO (cM c45) ?_
      obtain ⟨c46, h1⟩ := bA h1
      refine cV 8 [0 ≤ a1 ∧ a1 < (lN aA)] ⟨c46, trivial⟩ ?_
      refine lR 0 lo0p 2 (0 + Int.toNat a1) (aE (gD aA a1)) (aE (gD aA a1)) (List.map aE aA) hO (cM c46) ?_
      obtain ⟨x47, hx48, h1⟩ := aX h1
      refine AB (cmp4_h (gD aA (wR (Int.fdiv (IntKind.u64.wrap (wR (i10 + j11))) (2 ^ (min (Int.toNat (1 : Int)) 64))))) (gD aA a1) _ hx48) hO ?_
      intro H hO
      refine jN ?_
      refine bP [] [(50, (aK (decide (x47 < (0 : Int)))))] ?_
      refine bF h1 (fun h1 => ?_) (fun h1 => ?_)
      · refine aT aH 3 ?_
        refine bB ?_
        exact aJ (aV (aI (⟨rfl, _, (oI h1).symm, .eq (by kernel_rfl), hO, hN⟩)))
      refine aT aH 2 ?_
      refine bB ?_
      exact aJ (aV (aI (⟨rfl, _, (oI h1).symm, .eq (by kernel_rfl), hO, hN⟩)))
    refine dG 0 ?_
    obtain rfl := oI h1
    obtain rfl : _ = rr0 := ho0
    replace h0 : fY cmp4 rec aA a1 i10 = some r := h0
    exact aJ (aR (aR (bL (aI (⟨rfl, _, _, .eq (by kernel_rfl), hO, hN, h0⟩)))))
  refine bH ?_
  exact aJ (aI (⟨rfl, _, .eq (by kernel_rfl), hO, hN, h0⟩))

theorem nN (cmp4_f : Nat) (cmp4_a cmp4_c : List V) (cmp4 : aB → aB → Option Int) (cmp4_h : ∀ a0 a1 r, cmp4 a0 a1 = some r → bR Try.prog cmp4_f (cmp4_a ++ [(aE a0), (aE a1)] ++ cmp4_c) (eI r)) : ∀ (k : Nat) (lo0p : Nat) (aA : (List aB)) (a1 : Int) (m2 : Int) (b3 : Int) (r : List aB), gR cmp4 k aA a1 m2 b3 = some r → lF Try.prog 122 lo0p 2 (List.map aE aA) (List.map aE r) [(.msl 2 lo0p 0 (List.length aA)), (eI a1), (eI m2), (eI b3), (.fn (.func cmp4_f) cmp4_a cmp4_c)] (.tup [])
  | 0, _, _, _, _, _, _, h => by cases h
  | k + 1, lo0p, aA, a1, m2, b3, r, h => sW cmp4_f cmp4_a cmp4_c cmp4 cmp4_h _ (nN cmp4_f cmp4_a cmp4_c cmp4 cmp4_h k) lo0p aA a1 m2 b3 r h

theorem oS (lo0p : Nat) (aA : (List aB)) (a1 : Int) (m2 : Int) (b3 : Int) (cmp4_f : Nat) (cmp4_a cmp4_c : List V) (cmp4 : aB → aB → Option Int) (cmp4_h : ∀ a0 a1 r, cmp4 a0 a1 = some r → bR Try.prog cmp4_f (cmp4_a ++ [(aE a0), (aE a1)] ++ cmp4_c) (eI r)) (r : List aB) (h0 : eM aA a1 m2 b3 cmp4 = some r) : lF Try.prog 122 lo0p 2 (List.map aE aA) (List.map aE r) [(.msl 2 lo0p 0 (List.length aA)), (eI a1), (eI m2), (eI b3), (.fn (.func cmp4_f) cmp4_a cmp4_c)] (.tup []) := by
  obtain ⟨k, hk⟩ := GF h0
  exact nN cmp4_f cmp4_a cmp4_c cmp4 cmp4_h k lo0p aA a1 m2 b3 r hk

theorem xC (lo0p : Nat) (aA : (List aB)) (n1 : Int) (cmp2_f : Nat) (cmp2_a cmp2_c : List V) (cmp2 : aB → aB → Option Int) (cmp2_h : ∀ a0 a1 r, cmp2 a0 a1 = some r → bR Try.prog cmp2_f (cmp2_a ++ [(aE a0), (aE a1)] ++ cmp2_c) (eI r)) (r : List aB) (h0 : fF aA n1 cmp2 = some r) : lF Try.prog 117 lo0p 2 (List.map aE aA) (List.map aE r) [(.msl 2 lo0p 0 (List.length aA)), (eI n1), (.fn (.func cmp2_f) cmp2_a cmp2_c)] (.tup []) := by
  intro H0 hl0
  refine bY Try.func117 ?_
  have hO := aL.pI hl0
  clear hl0
  obtain ⟨N0, hN0⟩ : ∃ n, n = List.length aA := ⟨_, rfl⟩
  have hN : List.length aA = N0 := hN0.symm
  unfold fF at h0
  refine aU aH 1 [] [(6, (eI (20 : Int)))] ?_
  refine aU aH 3 [] [(7, (eI (0 : Int))), (8, (eI (20 : Int)))] ?_
  refine cL (fun T H => ∃ aA : List aB, ∃ aN : Int, ∃ a7 : Int, Has T [(0, (.msl 2 lo0p 0 (List.length aA))), (1, (eI n1)), (2, (.fn (.func cmp2_f) cmp2_a cmp2_c)), (6, (eI aN)), (7, (eI a7))] ∧ aL ⟨H0, [lo0p], []⟩ H [(lo0p, 2, List.map aE aA)] ∧ List.length aA = N0 ∧ fB cmp2 aA n1 aN a7 = some r) ?_ ?_
  · clear hO hN h0
    rintro T H ⟨aA, aN, a7, hT, hO, hN, h0⟩
    refine aZ hT ?_
    clear hT
    unfold fB at h0
    refine aO ?_
    refine aT aH 5 ?_
    refine bO 4 ?_
    obtain ⟨x1, hx2, h0⟩ := aX h0
    refine oJ [(lo0p, 2, List.map aE x1)] 0 (mY lo0p aA a7 n1 cmp2_f cmp2_a cmp2_c cmp2 cmp2_h _ hx2) hO ?_
    intro H hO hl3
    simp only [List.length_map] at hl3
    replace hN := hl3.trans hN
    refine cU ?_
    refine cH (l := [(0, (.msl 2 lo0p 0 (List.length x1))), (1, (eI n1)), (2, (.fn (.func cmp2_f) cmp2_a cmp2_c)), (6, (eI aN))]) ⟨[(0, (.msl 2 lo0p 0 (List.length aA))), (1, (eI n1)), (2, (.fn (.func cmp2_f) cmp2_a cmp2_c)), (6, (eI aN))], by kernel_rfl, rfl, ⟨aS.eq (by simp [hl3]), aS.refl _, aS.refl _, aS.refl _, trivial⟩⟩ ?_
    refine aJ (aI (?_))
    refine bN 2 ?_
    refine cR [(0, (.msl 2 lo0p 0 (List.length x1))), (1, (eI n1)), (2, (.fn (.func cmp2_f) cmp2_a cmp2_c)), (6, (eI aN))] ?_
    refine cG (fun T H => ∃ aA : List aB, ∃ aN : Int, Has T [(0, (.msl 2 lo0p 0 (List.length aA))), (1, (eI n1)), (2, (.fn (.func cmp2_f) cmp2_a cmp2_c)), (6, (eI aN))] ∧ aL ⟨H0, [lo0p], []⟩ H [(lo0p, 2, List.map aE aA)] ∧ List.length aA = N0 ∧ iK cmp2 aA n1 aN = some r) ?_ ⟨x1, aN, .eq (by kernel_rfl), hO, hN, h0⟩
    clear hO hN h0
    rintro T H ⟨aA, aN, hT, hO, hN, h0⟩
    refine aZ hT ?_
    clear hT
    unfold iK at h0
    obtain ⟨rr0, hl0, h0⟩ := aX h0
    refine bV (by kernel_rfl) (fun (s : List aB × Int) T H => Has T [(0, (.msl 2 lo0p 0 (List.length s.1))), (1, (eI n1)), (2, (.fn (.func cmp2_f) cmp2_a cmp2_c)), (6, (eI s.2))] ∧ aL ⟨H0, [lo0p], []⟩ H [(lo0p, 2, List.map aE s.1)] ∧ List.length s.1 = N0) hl0 ⟨.eq (by kernel_rfl), hO, hN⟩ ?_
    clear hO hN
    rintro k0 s out1 T H ⟨hT, hO, hN⟩ h1 ho0
    obtain ⟨aA, aN⟩ := s
    replace h1 : iS cmp2 n1 aA aN = some out1 := h1
    dsimp only at hT
    refine aZ hT ?_
    clear hT
    unfold iS at h1
    refine aO ?_
    refine aU aH 3 [] [(30, (aK (decide (aN < n1))))] ?_
    refine bF h1 (fun h1 => ?_) (fun h1 => ?_)
    · refine bH ?_
      refine bD [(0, (.msl 2 lo0p 0 (List.length aA))), (1, (eI n1)), (2, (.fn (.func cmp2_f) cmp2_a cmp2_c)), (6, (eI aN))] ?_
      refine bN 3 ?_
      refine aU aH 4 [] [(7, (eI (0 : Int))), (8, (eI (wR ((2 : Int) * aN))))] ?_
      refine cL (fun T H => ∃ aA : List aB, ∃ a7 : Int, Has T [(0, (.msl 2 lo0p 0 (List.length aA))), (1, (eI n1)), (2, (.fn (.func cmp2_f) cmp2_a cmp2_c)), (6, (eI aN)), (7, (eI a7))] ∧ aL ⟨H0, [lo0p], []⟩ H [(lo0p, 2, List.map aE aA)] ∧ List.length aA = N0 ∧ fD cmp2 aA n1 aN a7 = some out1) ?_ ?_
      · clear hO hN h1
        rintro T H ⟨aA, a7, hT, hO, hN, h1⟩
        refine aZ hT ?_
        clear hT
        unfold fD at h1
        refine cL (fun T H => ∃ aA : List aB, Has T [(0, (.msl 2 lo0p 0 (List.length aA))), (1, (eI n1)), (2, (.fn (.func cmp2_f) cmp2_a cmp2_c)), (6, (eI aN))] ∧ aL ⟨H0, [lo0p], []⟩ H [(lo0p, 2, List.map aE aA)] ∧ List.length aA = N0 ∧ iP cmp2 aA n1 aN = some out1) ?_ ?_
        · clear hO hN h1
          rintro T H ⟨aA, hT, hO, hN, h1⟩
          refine aZ hT ?_
          clear hT
          unfold iP at h1
          refine aT aH 3 ?_
          refine bB ?_
          exact aJ (aV (aI (⟨rfl, _, (oI h1).symm, .eq (by kernel_rfl), hO, hN⟩)))
        refine aU aH 4 [] [(9, (eI (wR (a7 + aN))))] ?_
        refine aU aH 3 [] [(54, (aK (decide ((wR (a7 + aN)) < n1))))] ?_
        refine bF h1 (fun h1 => ?_) (fun h1 => ?_)
        · refine aT aH 6 ?_
          refine bO 5 ?_
          obtain ⟨x6, hx7, h1⟩ := aX h1
          refine oJ [(lo0p, 2, List.map aE x6)] 0 (oS lo0p aA a7 (wR (a7 + aN)) n1 cmp2_f cmp2_a cmp2_c cmp2 cmp2_h _ hx7) hO ?_
          intro H hO hl8
          simp only [List.length_map] at hl8
          replace hN := hl8.trans hN
          refine cU ?_
          refine cH (l := [(0, (.msl 2 lo0p 0 (List.length x6))), (1, (eI n1)), (2, (.fn (.func cmp2_f) cmp2_a cmp2_c)), (6, (eI aN))]) ⟨[(0, (.msl 2 lo0p 0 (List.length aA))), (1, (eI n1)), (2, (.fn (.func cmp2_f) cmp2_a cmp2_c)), (6, (eI aN))], by kernel_rfl, rfl, ⟨aS.eq (by simp [hl8]), aS.refl _, aS.refl _, aS.refl _, trivial⟩⟩ ?_
          exact aJ (aI (⟨rfl, _, .eq (by kernel_rfl), hO, hN, h1⟩))
        refine bH ?_
        exact aJ (aI (⟨rfl, _, .eq (by kernel_rfl), hO, hN, h1⟩))
      refine bN 4 ?_
      refine cR [(0, (.msl 2 lo0p 0 (List.length aA))), (1, (eI n1)), (2, (.fn (.func cmp2_f) cmp2_a cmp2_c)), (6, (eI aN)), (7, (eI (0 : Int))), (8, (eI (wR ((2 : Int) * aN))))] ?_
      refine cG (fun T H => ∃ aA : List aB, ∃ a7 : Int, ∃ b8 : Int, Has T [(0, (.msl 2 lo0p 0 (List.length aA))), (1, (eI n1)), (2, (.fn (.func cmp2_f) cmp2_a cmp2_c)), (6, (eI aN)), (7, (eI a7)), (8, (eI b8))] ∧ aL ⟨H0, [lo0p], []⟩ H [(lo0p, 2, List.map aE aA)] ∧ List.length aA = N0 ∧ iU cmp2 aA n1 aN a7 b8 = some out1) ?_ ⟨aA, (0 : Int), wR ((2 : Int) * aN), .eq (by kernel_rfl), hO, hN, h1⟩
      clear hO hN h1
      rintro T H ⟨aA, a7, b8, hT, hO, hN, h1⟩
      refine aZ hT ?_
      clear hT
      unfold iU at h1
      obtain ⟨rr1, hl1, h1⟩ := aX h1
      refine bV (by kernel_rfl) (fun (s : List aB × Int × Int) T H => Has T [(0, (.msl 2 lo0p 0 (List.length s.1))), (1, (eI n1)), (2, (.fn (.func cmp2_f) cmp2_a cmp2_c)), (6, (eI aN)), (7, (eI s.2.1)), (8, (eI s.2.2))] ∧ aL ⟨H0, [lo0p], []⟩ H [(lo0p, 2, List.map aE s.1)] ∧ List.length s.1 = N0) hl1 ⟨.eq (by kernel_rfl), hO, hN⟩ ?_
      clear hO hN
      rintro k1 s out2 T H ⟨hT, hO, hN⟩ h2 ho1
      obtain ⟨aA, a7, b8⟩ := s
      replace h2 : iH cmp2 n1 aN aA a7 b8 = some out2 := h2
      dsimp only at hT
      refine aZ hT ?_
      clear hT
      unfold iH at h2
      refine aO ?_
      refine aU aH 3 [] [(35, (aK (decide (b8 ≤ n1))))] ?_
      refine bF h2 (fun h2 => ?_) (fun h2 => ?_)
      · refine bH ?_
        refine bD [(0, (.msl 2 lo0p 0 (List.length aA))), (1, (eI n1)), (2, (.fn (.func cmp2_f) cmp2_a cmp2_c)), (6, (eI aN)), (7, (eI a7)), (8, (eI b8))] ?_
        refine bN 5 ?_
        refine aO ?_
        refine aT aH 8 ?_
        refine bO 7 ?_
        obtain ⟨x10, hx11, h2⟩ := aX h2
        refine oJ [(lo0p, 2, List.map aE x10)] 0 (oS lo0p aA a7 (wR (a7 + aN)) b8 cmp2_f cmp2_a cmp2_c cmp2 cmp2_h _ hx11) hO ?_
        intro H hO hl12
        simp only [List.length_map] at hl12
        replace hN := hl12.trans hN
        refine cU ?_
        refine cH (l := [(0, (.msl 2 lo0p 0 (List.length x10))), (1, (eI n1)), (2, (.fn (.func cmp2_f) cmp2_a cmp2_c)), (6, (eI aN)), (8, (eI b8))]) ⟨[(0, (.msl 2 lo0p 0 (List.length aA))), (1, (eI n1)), (2, (.fn (.func cmp2_f) cmp2_a cmp2_c)), (6, (eI aN)), (8, (eI b8))], by kernel_rfl, rfl, ⟨aS.eq (by simp [hl12]), aS.refl _, aS.refl _, aS.refl _, aS.refl _, trivial⟩⟩ ?_
        refine aJ (aI (?_))
        refine aU aH 2 [] [(7, (eI b8))] ?_
        refine aT aH 5 ?_
        refine bB ?_
        exact aJ (aV (aI (⟨rfl, _, (oI h2).symm, .eq (by kernel_rfl), hO, hN⟩)))
      refine dG 4 ?_
      obtain rfl := oI h2
      obtain rfl : _ = rr1 := ho1
      replace h1 : fD cmp2 aA n1 aN a7 = some out1 := h1
      exact aJ (aR (aR (bL (aI (⟨rfl, _, _, .eq (by kernel_rfl), hO, hN, h1⟩)))))
    refine dG 2 ?_
    obtain rfl := oI h1
    obtain rfl : _ = rr0 := ho0
    replace h0 : some aA = some r := h0
    obtain rfl := oI h0
    exact aJ (aR (aR (bL (rD (x := (.tup [])) (by kernel_rfl) (aS.refl _) ⟨rfl, hO.ext, hO.at 0 (by kernel_rfl), by simp only [List.length_map]; exact hN.trans hN0⟩))))
  refine bN 0 ?_
  refine cR [(0, (.msl 2 lo0p 0 (List.length aA))), (1, (eI n1)), (2, (.fn (.func cmp2_f) cmp2_a cmp2_c)), (6, (eI (20 : Int))), (7, (eI (0 : Int))), (8, (eI (20 : Int)))] ?_
  refine cG (fun T H => ∃ aA : List aB, ∃ aN : Int, ∃ a7 : Int, ∃ b8 : Int, Has T [(0, (.msl 2 lo0p 0 (List.length aA))), (1, (eI n1)), (2, (.fn (.func cmp2_f) cmp2_a cmp2_c)), (6, (eI aN)), (7, (eI a7)), (8, (eI b8))] ∧ aL ⟨H0, [lo0p], []⟩ H [(lo0p, 2, List.map aE aA)] ∧ List.length aA = N0 ∧ iN cmp2 aA n1 aN a7 b8 = some r) ?_ ⟨aA, (20 : Int), (0 : Int), (20 : Int), .eq (by kernel_rfl), hO, hN, h0⟩
  clear hO hN h0
  rintro T H ⟨aA, aN, a7, b8, hT, hO, hN, h0⟩
  refine aZ hT ?_
  clear hT
  unfold iN at h0
  obtain ⟨rr0, hl0, h0⟩ := aX h0
  refine bV (by kernel_rfl) (fun (s : List aB × Int × Int) T H => Has T [(0, (.msl 2 lo0p 0 (List.length s.1))), (1, (eI n1)), (2, (.fn (.func cmp2_f) cmp2_a cmp2_c)), (6, (eI aN)), (7, (eI s.2.1)), (8, (eI s.2.2))] ∧ aL ⟨H0, [lo0p], []⟩ H [(lo0p, 2, List.map aE s.1)] ∧ List.length s.1 = N0) hl0 ⟨.eq (by kernel_rfl), hO, hN⟩ ?_
  clear hO hN
  rintro k0 s out1 T H ⟨hT, hO, hN⟩ h1 ho0
  obtain ⟨aA, a7, b8⟩ := s
  replace h1 : iQ cmp2 n1 aN aA a7 b8 = some out1 := h1
  dsimp only at hT
  refine aZ hT ?_
  clear hT
  unfold iQ at h1
  refine aO ?_
  refine aU aH 3 [] [(13, (aK (decide (b8 ≤ n1))))] ?_
  refine bF h1 (fun h1 => ?_) (fun h1 => ?_)
  · refine bH ?_
    refine bD [(0, (.msl 2 lo0p 0 (List.length aA))), (1, (eI n1)), (2, (.fn (.func cmp2_f) cmp2_a cmp2_c)), (6, (eI aN)), (7, (eI a7)), (8, (eI b8))] ?_
    refine bN 1 ?_
    refine aO ?_
    refine aT aH 5 ?_
    refine bO 4 ?_
    obtain ⟨x14, hx15, h1⟩ := aX h1
    refine oJ [(lo0p, 2, List.map aE x14)] 0 (mY lo0p aA a7 b8 cmp2_f cmp2_a cmp2_c cmp2 cmp2_h _ hx15) hO ?_
    intro H hO hl16
    simp only [List.length_map] at hl16
    replace hN := hl16.trans hN
    refine cU ?_
    refine cH (l := [(0, (.msl 2 lo0p 0 (List.length x14))), (1, (eI n1)), (2, (.fn (.func cmp2_f) cmp2_a cmp2_c)), (6, (eI aN)), (8, (eI b8))]) ⟨[(0, (.msl 2 lo0p 0 (List.length aA))), (1, (eI n1)), (2, (.fn (.func cmp2_f) cmp2_a cmp2_c)), (6, (eI aN)), (8, (eI b8))], by kernel_rfl, rfl, ⟨aS.eq (by simp [hl16]), aS.refl _, aS.refl _, aS.refl _, aS.refl _, trivial⟩⟩ ?_
    refine aJ (aI (?_))
    refine aU aH 2 [] [(7, (eI b8))] ?_
    refine aT aH 4 ?_
    refine bB ?_
    exact aJ (aV (aI (⟨rfl, _, (oI h1).symm, .eq (by kernel_rfl), hO, hN⟩)))
  refine dG 0 ?_
  obtain rfl := oI h1
  obtain rfl : _ = rr0 := ho0
  replace h0 : fB cmp2 aA n1 aN a7 = some r := h0
  exact aJ (aR (aR (bL (aI (⟨rfl, _, _, _, .eq (by kernel_rfl), hO, hN, h0⟩)))))

theorem qU (lo0p : Nat) (x0 : (List aB)) (cmp1_f : Nat) (cmp1_a cmp1_c : List V) (cmp1 : aB → aB → Option Int) (cmp1_h : ∀ a0 a1 r, cmp1 a0 a1 = some r → bR Try.prog cmp1_f (cmp1_a ++ [(aE a0), (aE a1)] ++ cmp1_c) (eI r)) (r : List aB) (h0 : dD x0 cmp1 = some r) : lF Try.prog 100 lo0p 2 (List.map aE x0) (List.map aE r) [(.msl 2 lo0p 0 (List.length x0)), (.fn (.func cmp1_f) cmp1_a cmp1_c)] (.tup []) := by
  intro H0 hl0
  refine bY Try.func100 ?_
  have hO := aL.pI hl0
  clear hl0
  obtain ⟨N0, hN0⟩ : ∃ n, n = List.length x0 := ⟨_, rfl⟩
  have hN : List.length x0 = N0 := hN0.symm
  unfold dD at h0
  refine aT aH 5 ?_
  refine bO 4 ?_
  obtain ⟨x1, hx2, h0⟩ := aX h0
  refine oJ [(lo0p, 2, List.map aE x1)] 0 (xC lo0p x0 (lN x0) cmp1_f cmp1_a cmp1_c cmp1 cmp1_h _ hx2) hO ?_
  intro H hO hl3
  simp only [List.length_map] at hl3
  replace hN := hl3.trans hN
  refine cU ?_
  refine cH (l := [(0, (.msl 2 lo0p 0 (List.length x1)))]) ⟨[(0, (.msl 2 lo0p 0 (List.length x0)))], by kernel_rfl, rfl, ⟨aS.eq (by simp [hl3]), trivial⟩⟩ ?_
  obtain rfl := oI h0
  exact aJ (rD (x := (.tup [])) (by kernel_rfl) (aS.refl _) ⟨rfl, hO.ext, hO.at 0 (by kernel_rfl), by simp only [List.length_map]; exact hN.trans hN0⟩)

theorem MZ (a0 : aB) (b1 : aB) (r : Int) (h0 : mP a0 b1 = some r) : bR Try.prog 101 [(aE a0), (aE b1)] (eI r) := by
  intro H0
  refine bY Try.func101 ?_
  have hO := aL.start H0
  unfold mP at h0
  refine aO ?_
  refine aT aH 3 ?_
  refine eX 2 (aE a0) (by kernel_rfl) (by kernel_rfl) ?_
  refine eX 2 (aE b1) (by kernel_rfl) (by kernel_rfl) ?_
  refine bB ?_
  refine bD [(2, (.rp (aE a0))), (3, (.rp (aE b1)))] ?_
  refine aO ?_
  refine aT aH 6 ?_
  refine bO 4 ?_
  obtain ⟨x1, hx2, h0⟩ := aX h0
  refine cJ (uR a0.At b1.At _ hx2) hO ?_
  intro H hO
  refine bB ?_
  refine bD [(4, (eI x1))] ?_
  refine bE ?_
  obtain rfl := oI h0
  exact aJ (Q_r hO)

theorem RU (f0 : (List aB)) (r : ((List aB) × Int)) (h0 : sQ f0 = some r) : bR Try.prog 102 [(eL aE f0)] (.tup [(eL aE r.1), (eI r.2)]) := by
  intro H0
  refine bY Try.func102 ?_
  have hO := aL.start H0
  unfold sQ at h0
  refine aU aH 2 [] [] ?_
  refine aO ?_
  refine aO ?_
  refine aT aH 3 ?_
  refine bO 1 ?_
  obtain ⟨x1, hx2, h0⟩ := aX h0
  refine cJ (AP f0 _ hx2) hO ?_
  intro H hO
  refine bB ?_
  refine bP [] [(6, (aK (!x1)))] ?_
  refine bF h0 (fun h0 => ?_) (fun h0 => ?_)
  · refine bM aH 2 [(2, (.sl true 0 (fun _ => .bad))), (3, (eI (7 : Int)))] ?_
    refine bE ?_
    refine cH (l := [(2, (eL aE ([]))), (3, (eI (7 : Int)))]) ⟨[(2, (.sl true 0 (fun _ => .bad))), (3, (eI (7 : Int)))], by kernel_rfl, rfl, ⟨dW, aS.refl _, trivial⟩⟩ ?_
    obtain rfl := oI h0
    exact aJ (aP (Q_r hO))
  refine bH ?_
  refine bD [(0, (eL aE f0))] ?_
  refine bM aH 3 [(2, (eL aE f0)), (3, (eI (0 : Int)))] ?_
  refine bE ?_
  obtain rfl := oI h0
  exact aJ (Q_r hO)

theorem RW (l0 : (List aB)) (r : ((List aB) × Int)) (h0 : uX l0 = some r) : bR Try.prog 65 [(eL aE l0)] (.tup [(eL aE r.1), (eI r.2)]) := by
  intro H0
  refine bY Try.func65 ?_
  have hO := aL.start H0
  unfold uX at h0
  refine aU aH 2 [] [] ?_
  refine aO ?_
  refine aO ?_
  refine aT aH 2 ?_
  refine bO 1 ?_
  obtain ⟨x1, hx2, h0⟩ := aX h0
  refine cJ (mK l0 97 [] [] (fun y0 => rJ y0) (fun y0 r h => NM y0 r h) _ hx2) hO ?_
  intro H hO
  refine cU ?_
  refine bP [] [(9, (aK x1))] ?_
  refine bF h0 (fun h0 => ?_) (fun h0 => ?_)
  · refine bM aH 2 [(2, (.sl true 0 (fun _ => .bad))), (3, (eI (2 : Int)))] ?_
    refine bE ?_
    refine cH (l := [(2, (eL aE ([]))), (3, (eI (2 : Int)))]) ⟨[(2, (.sl true 0 (fun _ => .bad))), (3, (eI (2 : Int)))], by kernel_rfl, rfl, ⟨dW, aS.refl _, trivial⟩⟩ ?_
    obtain rfl := oI h0
    exact aJ (aP (Q_r hO))
  refine bH ?_
  refine bD [(0, (eL aE l0))] ?_
  refine aO ?_
  refine aO ?_
  refine aT aH 2 ?_
  refine bO 1 ?_
  obtain ⟨x5, hx6, h0⟩ := aX h0
  refine cJ (mK l0 98 [] [] (fun y0 => rP y0) (fun y0 r h => NG y0 r h) _ hx6) hO ?_
  intro H hO
  refine cU ?_
  refine bP [] [(11, (aK x5))] ?_
  refine bF h0 (fun h0 => ?_) (fun h0 => ?_)
  · refine bM aH 2 [(2, (.sl true 0 (fun _ => .bad))), (3, (eI (13 : Int)))] ?_
    refine bE ?_
    refine cH (l := [(2, (eL aE ([]))), (3, (eI (13 : Int)))]) ⟨[(2, (.sl true 0 (fun _ => .bad))), (3, (eI (13 : Int)))], by kernel_rfl, rfl, ⟨dW, aS.refl _, trivial⟩⟩ ?_
    obtain rfl := oI h0
    exact aJ (aP (Q_r hO))
  refine bH ?_
  refine bD [(0, (eL aE l0))] ?_
  refine aO ?_
  refine aT aH 3 ?_
  refine bO 1 ?_
  obtain ⟨x9, hx10, h0⟩ := aX h0
  refine KS (L' := fun lo11 => [(lo11, 2, List.map aE x9)]) 2 (List.map aE x9) 99 [(eL aE l0)] (fun lo11 => (.msl 2 lo11 0 (List.length x9))) (by kernel_rfl) (by kernel_rfl) (wN l0 _ hx10) hO (fun _ => by kernel_rfl) ?_
  intro lo11 H hO
  refine bB ?_
  refine bD [(4, (.msl 2 lo11 0 (List.length x9)))] ?_
  refine aO ?_
  refine aT aH 2 ?_
  refine bO 1 ?_
  obtain ⟨x12, hx13, h0⟩ := aX h0
  refine oJ [(lo11, 2, List.map aE x12)] 0 (qU lo11 x9 101 [] [] (fun y0 y1 => mP y0 y1) (fun y0 y1 r h => MZ y0 y1 r h) _ hx13) hO ?_
  intro H hO hl14
  simp only [List.length_map] at hl14
  refine cU ?_
  refine cH (l := [(4, (.msl 2 lo11 0 (List.length x12)))]) ⟨[(4, (.msl 2 lo11 0 (List.length x9)))], by kernel_rfl, rfl, ⟨aS.eq (by simp [hl14]), trivial⟩⟩ ?_
  refine aJ (aI (?_))
  refine aO ?_
  refine aT aH 2 ?_
  refine mD (xs := []) (k := 2) (by kernel_rfl) (by kernel_rfl) ?_
  refine bB ?_
  refine bP [] [(5, (.sl true 0 (fun _ => .bad)))] ?_
  refine cL (fun T H => ∃ out5 : List aB, ∃ lo15 : Nat, Has T [(5, (.msl 2 lo15 0 (List.length out5)))] ∧ aL ⟨H0, [], []⟩ H [(lo15, 2, List.map aE out5)] ∧ uA out5 = some r) ?_ ?_
  · clear hO h0
    rintro T H ⟨out5, lo15, hT, hO, h0⟩
    refine aZ hT ?_
    clear hT
    unfold uA at h0
    refine aO ?_
    refine aT aH 6 ?_
    refine zS (e := aE) out5 0 5 2 lo15 (List.length out5) [] (by kernel_rfl) hO (by kernel_rfl) (by kernel_rfl) (by kernel_rfl) (by kernel_rfl) ?_
    intro H hO
    refine bO 1 ?_
    obtain ⟨x16, hx17, h0⟩ := aX h0
    refine cJ (RU out5 _ hx17) hO ?_
    intro H hO
    refine bB ?_
    refine bD [(2, (eL aE x16.1)), (3, (eI x16.2))] ?_
    refine bE ?_
    obtain rfl := oI h0
    exact aJ (Q_r hO)
  refine aU aH 1 [] [(6, (eI (0 : Int)))] ?_
  refine bN 0 ?_
  refine cR [(4, (.msl 2 lo11 0 (List.length x12))), (5, (.sl true 0 (fun _ => .bad))), (6, (eI (0 : Int)))] ?_
  refine zQ (el := (fun _ => .bad)) 1 5 2 hO (by kernel_rfl) ?_
  intro lo43 H44 hO
  refine cG (fun T H => ∃ all4 : List aB, ∃ out5 : List aB, ∃ i6 : Int, ∃ lo21 : Nat, ∃ lo22 : Nat, Has T [(4, (.msl 2 lo21 0 (List.length all4))), (5, (.msl 2 lo22 0 (List.length out5))), (6, (eI i6))] ∧ aL ⟨H0, [], []⟩ H [(lo21, 2, List.map aE all4), (lo22, 2, List.map aE out5)] ∧ xG all4 out5 i6 = some r) ?_ ⟨x12, ([] : List aB), (0 : Int), lo11, lo43, .eq (by kernel_rfl), hO, h0⟩
  clear hO h0
  rintro T H ⟨all4, out5, i6, lo21, lo22, hT, hO, h0⟩
  refine aZ hT ?_
  clear hT
  unfold xG at h0
  obtain ⟨rr0, hl0, h0⟩ := aX h0
  refine bV (by kernel_rfl) (fun (s : List aB × List aB × Int) T H => ∃ lo21 : Nat, ∃ lo22 : Nat, Has T [(4, (.msl 2 lo21 0 (List.length s.1))), (5, (.msl 2 lo22 0 (List.length s.2.1))), (6, (eI s.2.2))] ∧ aL ⟨H0, [], []⟩ H [(lo21, 2, List.map aE s.1), (lo22, 2, List.map aE s.2.1)]) hl0 ⟨lo21, lo22, .eq (by kernel_rfl), hO⟩ ?_
  clear hO
  rintro k0 s out1 T H ⟨lo21, lo22, hT, hO⟩ h1 ho0
  obtain ⟨all4, out5, i6⟩ := s
  replace h1 : lI all4 out5 i6 = some out1 := h1
  dsimp only at hT
  refine aZ hT ?_
  clear hT
  unfold lI at h1
  refine aO ?_
  refine aU aH 4 [] [(20, (aK (decide (i6 < (lN all4)))))] ?_
  refine bF h1 (fun h1 => ?_) (fun h1 => ?_)
  · refine bH ?_
    refine bD [(4, (.msl 2 lo21 0 (List.length all4))), (5, (.msl 2 lo22 0 (List.length out5))), (6, (eI i6))] ?_
    refine bN 1 ?_
    refine aO ?_
    refine aT aH 8 ?_
    obtain ⟨c24, h1⟩ := bA h1
    refine oG 4 [0 ≤ i6 ∧ i6 < (lN all4)] ⟨c24, trivial⟩ ?_
    refine zY 0 lo21 2 (0 + Int.toNat i6) (aE (gD all4 i6)) (eI ((gD all4 i6).At)) (List.map aE all4) hO (cM c24) ?_
    refine bO 6 ?_
    refine tI 2 (aE (aB.mk 0 0)) (by kernel_rfl) (by kernel_rfl) hO ?_
    intro lo25 H hO
    refine nU 2 lo25 2 0 (aE (aB.mk 0 0)) (aE (aB.mk ((gD all4 i6).At) 0)) [(aE (aB.mk 0 0))] [(lo21, 2, List.map aE all4), (lo22, 2, List.map aE out5), (lo25, 2, [(aE (aB.mk ((gD all4 i6).At) 0))])] hO rfl (by kernel_rfl) ?_
    intro H hO
    refine cU ?_
    refine bP [] [(7, (.lp lo25 0 0))] ?_
    refine cL (fun T H => ∃ all4 : List aB, ∃ out5 : List aB, ∃ i6 : Int, ∃ j7 : aB, ∃ lo26 : Nat, ∃ lo27 : Nat, ∃ lo28 : Nat, Has T [(4, (.msl 2 lo26 0 (List.length all4))), (5, (.msl 2 lo27 0 (List.length out5))), (6, (eI i6)), (7, (.lp lo28 0 0))] ∧ aL ⟨H0, [], []⟩ H [(lo26, 2, List.map aE all4), (lo27, 2, List.map aE out5), (lo28, 2, [(aE j7)])] ∧ uB all4 out5 i6 j7 = some out1) ?_ ?_
    · clear hO h1
      rintro T H ⟨all4, out5, i6, j7, lo26, lo27, lo28, hT, hO, h1⟩
      refine aZ hT ?_
      clear hT
      unfold uB at h1
      refine aO ?_
      refine aT aH 8 ?_
      refine bO 1 ?_
      refine zY 2 lo28 2 0 (aE j7) (eI j7.Net) [(aE j7)] hO rfl ?_
      refine bO 5 ?_
      refine yP [(55, true)] 2 lo28 2 0 (aE j7) (eI j7.At) [(aE j7)] (by kernel_rfl) (by kernel_rfl) hO (by kernel_rfl) (!decide (j7.Net = (0 : Int))) (by kernel_rfl) (fun hb29 => rfl) ?_
      refine bB ?_
      refine bP [] [(59, (aK ((!decide (j7.Net = (0 : Int))) && (decide (j7.At < (1125899906842624 : Int))))))] ?_
      refine bF h1 (fun h1 => ?_) (fun h1 => ?_)
      · refine aT aH 5 ?_
        refine bO 1 ?_
        refine zY 2 lo28 2 0 (aE j7) (aE j7) [(aE j7)] hO rfl ?_
        refine mD (xs := [(aE j7)]) (k := 2) (by kernel_rfl) (by kernel_rfl) ?_
        obtain ⟨c32, h1⟩ := bA h1
        refine uG (e := aE) out5 ([j7]) 1 lo27 2 16 (fV [(aE j7)]) (fun lo31 => [(lo26, 2, List.map aE all4), (lo31, 2, List.map aE (out5 ++ ([j7]))), (lo28, 2, [(aE j7)])]) (by kernel_rfl) (by kernel_rfl) hO (by kernel_rfl) (by kernel_rfl) c32 (fun _ => by kernel_rfl) ?_
        intro lo31 H hO
        refine bB ?_
        replace hO := hO.pick (L' := [(lo26, 2, List.map aE all4), (lo31, 2, List.map aE (out5 ++ ([j7])))]) [0, 1] (by decide) (by kernel_rfl)
        exact aJ (aV (aI (⟨rfl, _, (oI h1).symm, _, _, .eq (by kernel_rfl), hO⟩)))
      refine bH ?_
      replace hO := hO.pick (L' := [(lo26, 2, List.map aE all4), (lo27, 2, List.map aE out5)]) [0, 1] (by decide) (by kernel_rfl)
      exact aJ (aV (aI (⟨rfl, _, (oI h1).symm, _, _, .eq (by kernel_rfl), hO⟩)))
    refine bN 2 ?_
    refine cR [(4, (.msl 2 lo21 0 (List.length all4))), (5, (.msl 2 lo22 0 (List.length out5))), (6, (eI i6)), (7, (.lp lo25 0 0))] ?_
    refine cG (fun T H => ∃ all4 : List aB, ∃ out5 : List aB, ∃ i6 : Int, ∃ j7 : aB, ∃ lo36 : Nat, ∃ lo37 : Nat, ∃ lo38 : Nat, Has T [(4, (.msl 2 lo36 0 (List.length all4))), (5, (.msl 2 lo37 0 (List.length out5))), (6, (eI i6)), (7, (.lp lo38 0 0))] ∧ aL ⟨H0, [], []⟩ H [(lo36, 2, List.map aE all4), (lo37, 2, List.map aE out5), (lo38, 2, [(aE j7)])] ∧ yC all4 out5 i6 j7 = some out1) ?_ ⟨all4, out5, i6, aB.mk ((gD all4 i6).At) 0, lo21, lo22, lo25, .eq (by kernel_rfl), hO, h1⟩
    clear hO h1
    rintro T H ⟨all4, out5, i6, j7, lo36, lo37, lo38, hT, hO, h1⟩
    refine aZ hT ?_
    clear hT
    unfold yC at h1
    obtain ⟨rr1, hl1, h1⟩ := aX h1
    refine bV (by kernel_rfl) (fun (s : List aB × List aB × Int × aB) T H => ∃ lo36 : Nat, ∃ lo37 : Nat, ∃ lo38 : Nat, Has T [(4, (.msl 2 lo36 0 (List.length s.1))), (5, (.msl 2 lo37 0 (List.length s.2.1))), (6, (eI s.2.2.1)), (7, (.lp lo38 0 0))] ∧ aL ⟨H0, [], []⟩ H [(lo36, 2, List.map aE s.1), (lo37, 2, List.map aE s.2.1), (lo38, 2, [(aE s.2.2.2)])]) hl1 ⟨lo36, lo37, lo38, .eq (by kernel_rfl), hO⟩ ?_
    clear hO
    rintro k1 s out2 T H ⟨lo36, lo37, lo38, hT, hO⟩ h2 ho1
    obtain ⟨all4, out5, i6, j7⟩ := s
    replace h2 : jS all4 out5 i6 j7 = some out2 := h2
    dsimp only at hT
    refine aZ hT ?_
    clear hT
    unfold jS at h2
    refine aO ?_
    refine aO ?_
    obtain ⟨c39, h2⟩ := bA h2
    refine hU (hM []) aH 14 ?_
    refine yH (K := fun T H => Has (lift T) [(4, (.msl 2 lo36 0 (List.length all4))), (5, (.msl 2 lo37 0 (List.length out5))), (6, (eI i6)), (7, (.lp lo38 0 0)), (40, (aK ((decide (i6 < (lN all4))) && (decide (((gD all4 i6).At) = j7.At)))))] ∧ aL ⟨H0, [], []⟩ H [(lo36, 2, List.map aE all4), (lo37, 2, List.map aE out5), (lo38, 2, [(aE j7)])]) ?_ ?_
    · refine mT 5 ?_
      refine nS (t := 31) (e := decide (i6 < (lN all4))) (by kernel_rfl) (fun hg40 => ?_) (fun hg40 => ?_)
      · refine cV 9 [0 ≤ i6 ∧ i6 < (lN all4)] ⟨(c39 hg40), trivial⟩ ?_
        refine wX 0 lo36 2 (0 + Int.toNat i6) (aE (gD all4 i6)) (eI ((gD all4 i6).At)) (List.map aE all4) (by kernel_rfl) (by kernel_rfl) (by kernel_rfl) hO (by kernel_rfl) (cM (c39 hg40)) ?_
        refine mT 11 ?_
        refine wX 2 lo38 2 0 (aE j7) (eI j7.At) [(aE j7)] (by kernel_rfl) (by kernel_rfl) (by kernel_rfl) hO (by kernel_rfl) rfl ?_
        refine jN ?_
        exact ⟨⟨[(4, (.msl 2 lo36 0 (List.length all4))), (5, (.msl 2 lo37 0 (List.length out5))), (6, (eI i6)), (7, (.lp lo38 0 0)), (40, (aK (decide (((gD all4 i6).At) = j7.At))))], by kernel_rfl, rfl, ⟨aS.refl _, aS.refl _, aS.refl _, aS.refl _, aS.eq (congrArg aK (eH hg40 rfl).symm), trivial⟩⟩, hO⟩
      refine jN ?_
      exact ⟨⟨[(4, (.msl 2 lo36 0 (List.length all4))), (5, (.msl 2 lo37 0 (List.length out5))), (6, (eI i6)), (7, (.lp lo38 0 0)), (40, (aK false))], by kernel_rfl, rfl, ⟨aS.refl _, aS.refl _, aS.refl _, aS.refl _, aS.eq (congrArg aK (eH hg40 rfl).symm), trivial⟩⟩, hO⟩
    · rintro T H ⟨hT, hO⟩
      refine cH hT ?_
      clear hT
      refine aJ (aI ?_)
      refine bF h2 (fun h2 => ?_) (fun h2 => ?_)
      · refine bH ?_
        refine bD [(4, (.msl 2 lo36 0 (List.length all4))), (5, (.msl 2 lo37 0 (List.length out5))), (6, (eI i6)), (7, (.lp lo38 0 0))] ?_
        refine aO ?_
        refine bN 3 ?_
        refine hU (hM []) aH 10 ?_
        refine mT 1 ?_
        refine lR 2 lo38 2 0 (aE j7) (eI j7.Net) [(aE j7)] hO rfl ?_
        obtain ⟨c42, h2⟩ := bA h2
        refine cV 6 [0 ≤ i6 ∧ i6 < (lN all4)] ⟨c42, trivial⟩ ?_
        refine lR 0 lo36 2 (0 + Int.toNat i6) (aE (gD all4 i6)) (eI ((gD all4 i6).Net)) (List.map aE all4) hO (cM c42) ?_
        refine mT 9 ?_
        refine tT 2 lo38 2 0 (aE j7) (aE (aB.mk j7.At (wR (j7.Net + ((gD all4 i6).Net))))) [(aE j7)] [(lo36, 2, List.map aE all4), (lo37, 2, List.map aE out5), (lo38, 2, [(aE (aB.mk j7.At (wR (j7.Net + ((gD all4 i6).Net)))))])] hO rfl (by kernel_rfl) ?_
        intro H hO
        refine AU (by kernel_rfl) ?_
        refine cY [(4, (.msl 2 lo36 0 (List.length all4))), (5, (.msl 2 lo37 0 (List.length out5))), (6, (eI i6)), (7, (.lp lo38 0 0))] ?_
        refine aJ (aV (aI (?_)))
        refine aT aH 3 ?_
        refine bB ?_
        exact aJ (aI (⟨rfl, _, (oI h2).symm, _, _, _, .eq (by kernel_rfl), hO⟩))
      refine dG 2 ?_
      obtain rfl := oI h2
      obtain rfl : _ = rr1 := ho1
      replace h1 : uB all4 out5 i6 j7 = some out1 := h1
      exact aJ (aR (aR (bL (aI (⟨rfl, _, _, _, _, _, _, _, .eq (by kernel_rfl), hO, h1⟩)))))
  refine dG 0 ?_
  replace hO := hO.pick (L' := [(lo22, 2, List.map aE out5)]) [1] (by decide) (by kernel_rfl)
  obtain rfl := oI h1
  obtain rfl : _ = rr0 := ho0
  replace h0 : uA out5 = some r := h0
  exact aJ (aR (aR (bL (aI (⟨rfl, _, _, .eq (by kernel_rfl), hO, h0⟩)))))

theorem NC (f0 : (List aB)) (r : ((List aB) × Int)) (h0 : rM f0 = some r) : bR Try.prog 64 [(eL aE f0)] (.tup [(eL aE r.1), (eI r.2)]) := by
  intro H0
  refine bY Try.func64 ?_
  have hO := aL.start H0
  unfold rM at h0
  refine aU aH 2 [] [] ?_
  refine aO ?_
  refine aT aH 6 ?_
  refine bO 1 ?_
  obtain ⟨x1, hx2, h0⟩ := aX h0
  refine cJ (RW f0 _ hx2) hO ?_
  intro H hO
  refine bB ?_
  refine bD [(2, (eL aE x1.1)), (3, (eI x1.2))] ?_
  refine bE ?_
  obtain rfl := oI h0
  exact aJ (Q_r hO)

theorem HN (l0 : (List aC)) (r : ((List aC) × Int)) (h0 : sR l0 = some r) : bR Try.prog 23 [(eL aD l0)] (.tup [(eL aD r.1), (eI r.2)]) := by
  intro H0
  refine bY Try.func23 ?_
  have hO := aL.start H0
  unfold sR at h0
  refine aU aH 2 [] [] ?_
  refine aO ?_
  refine aO ?_
  refine aT aH 2 ?_
  refine bO 1 ?_
  obtain ⟨x1, hx2, h0⟩ := aX h0
  refine cJ (mN l0 54 [] [] (fun y0 => sK y0) (fun y0 r h => NJ y0 r h) _ hx2) hO ?_
  intro H hO
  refine cU ?_
  refine bP [] [(6, (aK x1))] ?_
  refine bF h0 (fun h0 => ?_) (fun h0 => ?_)
  · refine bM aH 2 [(2, (.sl true 0 (fun _ => .bad))), (3, (eI (2 : Int)))] ?_
    refine bE ?_
    refine cH (l := [(2, (eL aD ([]))), (3, (eI (2 : Int)))]) ⟨[(2, (.sl true 0 (fun _ => .bad))), (3, (eI (2 : Int)))], by kernel_rfl, rfl, ⟨dW, aS.refl _, trivial⟩⟩ ?_
    obtain rfl := oI h0
    exact aJ (aP (Q_r hO))
  refine bH ?_
  refine bD [(0, (eL aD l0))] ?_
  refine aO ?_
  refine aO ?_
  refine aT aH 2 ?_
  refine bO 1 ?_
  obtain ⟨x5, hx6, h0⟩ := aX h0
  refine cJ (mN l0 56 [] [] (fun y0 => rU y0) (fun y0 r h => NH y0 r h) _ hx6) hO ?_
  intro H hO
  refine cU ?_
  refine bP [] [(8, (aK x5))] ?_
  refine bF h0 (fun h0 => ?_) (fun h0 => ?_)
  · refine bM aH 2 [(2, (.sl true 0 (fun _ => .bad))), (3, (eI (13 : Int)))] ?_
    refine bE ?_
    refine cH (l := [(2, (eL aD ([]))), (3, (eI (13 : Int)))]) ⟨[(2, (.sl true 0 (fun _ => .bad))), (3, (eI (13 : Int)))], by kernel_rfl, rfl, ⟨dW, aS.refl _, trivial⟩⟩ ?_
    obtain rfl := oI h0
    exact aJ (aP (Q_r hO))
  refine bH ?_
  refine bD [(0, (eL aD l0))] ?_
  refine aO ?_
  refine aT aH 3 ?_
  refine bO 1 ?_
  obtain ⟨x9, hx10, h0⟩ := aX h0
  refine KS (L' := fun lo11 => [(lo11, 3, List.map aD x9)]) 3 (List.map aD x9) 57 [(eL aD l0)] (fun lo11 => (.msl 3 lo11 0 (List.length x9))) (by kernel_rfl) (by kernel_rfl) (wM l0 _ hx10) hO (fun _ => by kernel_rfl) ?_
  intro lo11 H hO
  refine bB ?_
  refine bD [(4, (.msl 3 lo11 0 (List.length x9)))] ?_
  refine aO ?_
  refine aT aH 2 ?_
  refine bO 1 ?_
  obtain ⟨x12, hx13, h0⟩ := aX h0
  refine oJ [(lo11, 3, List.map aD x12)] 0 (qV lo11 x9 59 [] [] (fun y0 y1 => mO y0 y1) (fun y0 y1 r h => NL y0 y1 r h) _ hx13) hO ?_
  intro H hO hl14
  simp only [List.length_map] at hl14
  refine cU ?_
  refine cH (l := [(4, (.msl 3 lo11 0 (List.length x12)))]) ⟨[(4, (.msl 3 lo11 0 (List.length x9)))], by kernel_rfl, rfl, ⟨aS.eq (by simp [hl14]), trivial⟩⟩ ?_
  refine aJ (aI (?_))
  refine aO ?_
  refine aT aH 6 ?_
  refine zS (e := aD) x12 0 4 3 lo11 (List.length x12) [] (by kernel_rfl) hO (by kernel_rfl) (by kernel_rfl) (by kernel_rfl) (by kernel_rfl) ?_
  intro H hO
  refine bO 1 ?_
  obtain ⟨x15, hx16, h0⟩ := aX h0
  refine cJ (NN x12 64 [] [] (fun y0 => rM y0) (fun y0 r h => NC y0 r h) _ hx16) hO ?_
  intro H hO
  refine bB ?_
  refine bD [(2, (eL aD x15.1)), (3, (eI x15.2))] ?_
  refine bE ?_
  obtain rfl := oI h0
  exact aJ (Q_r hO)

theorem CH (v0 : aF) (r : Bool) (h0 : qI v0 = some r) : bR Try.prog 76 [(aG v0)] (aK r) := by
  intro H0
  refine bY Try.func76 ?_
  have hO := aL.start H0
  unfold qI at h0
  refine aO ?_
  refine aT aH 2 ?_
  refine eX 3 (aG v0) (by kernel_rfl) (by kernel_rfl) ?_
  refine bB ?_
  refine bD [(1, (.rp (aG v0)))] ?_
  refine aO ?_
  refine aU aH 3 [] [(5, (aK (decide (v0.Kind = (1 : Int)))))] ?_
  refine bF h0 (fun h0 => ?_) (fun h0 => ?_)
  · refine bM aH 4 [(2, (aK (nJ v0.Text (⟨#[]⟩ : ByteArray))))] ?_
    refine bE ?_
    obtain rfl := oI h0
    exact aJ (aP (Q_r hO))
  refine bH ?_
  refine bD [(1, (.rp (aG v0)))] ?_
  refine bM aH 15 [(2, (aK (((decide (v0.Kind = (2 : Int))) && (decide (v0.Num = (0 : Int)))) && (decide (((ByteArray.size v0.Text : Nat) : Int) ≤ (64 : Int))))))] ?_
  refine bE ?_
  obtain rfl := oI h0
  exact aJ (Q_r hO)

theorem yU (r0 : (List aF)) (r : Bool) (h0 : oT r0 = some r) : bR Try.prog 32 [(eL aG r0)] (aK r) := by
  intro H0
  refine bY Try.func32 ?_
  have hO := aL.start H0
  unfold oT at h0
  refine aU aH 1 [] [] ?_
  refine cL (fun T H => Has T [(0, (eL aG r0))] ∧ aL ⟨H0, [], []⟩ H [] ∧ qN r0 = some r) ?_ ?_
  · clear hO h0
    rintro T H ⟨hT, hO, h0⟩
    refine aZ hT ?_
    clear hT
    unfold qN at h0
    refine bM aH 4 [(2, (aK (decide ((lN r0) ≤ (8 : Int)))))] ?_
    refine bE ?_
    obtain rfl := oI h0
    exact aJ (Q_r hO)
  refine aU aH 1 [] [(3, (eI (0 : Int)))] ?_
  refine bN 0 ?_
  refine cR [(0, (eL aG r0)), (3, (eI (0 : Int)))] ?_
  refine cG (fun T H => ∃ i3 : Int, Has T [(0, (eL aG r0)), (3, (eI i3))] ∧ aL ⟨H0, [], []⟩ H [] ∧ yF r0 i3 = some r) ?_ ⟨(0 : Int), .eq (by kernel_rfl), hO, h0⟩
  clear hO h0
  rintro T H ⟨i3, hT, hO, h0⟩
  refine aZ hT ?_
  clear hT
  unfold yF at h0
  obtain ⟨rr0, hl0, h0⟩ := aX h0
  refine bV (by kernel_rfl) (fun (s : Int) T H => Has T [(0, (eL aG r0)), (3, (eI s))] ∧ aL ⟨H0, [], []⟩ H []) hl0 ⟨.eq (by kernel_rfl), hO⟩ ?_
  clear hO
  rintro k0 s out1 T H ⟨hT, hO⟩ h1 ho0
  obtain ⟨i3, rfl⟩ : ∃ x, x = s := ⟨_, rfl⟩
  replace h1 : pE r0 i3 = some out1 := h1
  refine aZ hT ?_
  clear hT
  unfold pE at h1
  refine aO ?_
  refine aU aH 8 [] [(11, (aK ((decide (i3 < (lN r0))) && (decide (i3 < (9 : Int))))))] ?_
  refine bF h1 (fun h1 => ?_) (fun h1 => ?_)
  · refine bH ?_
    refine bD [(0, (eL aG r0)), (3, (eI i3))] ?_
    refine aO ?_
    refine bN 1 ?_
    refine aO ?_
    refine aT aH 6 ?_
    obtain ⟨c2, h1⟩ := bA h1
    refine oG 4 [0 ≤ i3 ∧ i3 < (lN r0)] ⟨c2, trivial⟩ ?_
    obtain ⟨x3, hx4, h1⟩ := aX h1
    refine cJ (CH (gD r0 i3) _ hx4) hO ?_
    intro H hO
    refine bB ?_
    refine bP [] [(19, (aK (!x3)))] ?_
    refine bF h1 (fun h1 => ?_) (fun h1 => ?_)
    · refine bM aH 1 [(2, (aK false))] ?_
      refine bE ?_
      obtain rfl := oI h1
      obtain rfl : _ = rr0 := ho0
      replace h0 : some false = some r := h0
      obtain rfl := oI h0
      exact aJ (bJ (aP (aP (bJ (aP (Q_r hO))))))
    refine bH ?_
    refine cY [(0, (eL aG r0)), (3, (eI i3))] ?_
    refine aJ (aV (aI (?_)))
    refine aT aH 3 ?_
    refine bB ?_
    exact aJ (aI (⟨rfl, _, (oI h1).symm, .eq (by kernel_rfl), hO⟩))
  refine dG 0 ?_
  obtain rfl := oI h1
  obtain rfl : _ = rr0 := ho0
  replace h0 : qN r0 = some r := h0
  exact aJ (aR (aR (bL (aI (⟨rfl, .eq (by kernel_rfl), hO, h0⟩)))))

theorem HK (f0 : (List aB)) (r : Bool) (h0 : sO f0 = some r) : bR Try.prog 33 [(eL aE f0)] (aK r) := by
  intro H0
  refine bY Try.func33 ?_
  have hO := aL.start H0
  unfold sO at h0
  refine aU aH 1 [] [] ?_
  refine aO ?_
  refine aU aH 3 [] [(6, (aK (decide ((1024 : Int) < (lN f0)))))] ?_
  refine bF h0 (fun h0 => ?_) (fun h0 => ?_)
  · refine bM aH 1 [(2, (aK false))] ?_
    refine bE ?_
    obtain rfl := oI h0
    exact aJ (aP (Q_r hO))
  refine bH ?_
  refine bD [(0, (eL aE f0))] ?_
  refine cL (fun T H => Has T [] ∧ aL ⟨H0, [], []⟩ H [] ∧ tV  = some r) ?_ ?_
  · clear hO h0
    rintro T H ⟨hT, hO, h0⟩
    refine aZ hT ?_
    clear hT
    unfold tV at h0
    refine bM aH 1 [(2, (aK true))] ?_
    refine bE ?_
    obtain rfl := oI h0
    exact aJ (Q_r hO)
  refine aU aH 1 [] [(3, (eI (0 : Int)))] ?_
  refine bN 0 ?_
  refine cR [(0, (eL aE f0)), (3, (eI (0 : Int)))] ?_
  refine cG (fun T H => ∃ i3 : Int, Has T [(0, (eL aE f0)), (3, (eI i3))] ∧ aL ⟨H0, [], []⟩ H [] ∧ xJ f0 i3 = some r) ?_ ⟨(0 : Int), .eq (by kernel_rfl), hO, h0⟩
  clear hO h0
  rintro T H ⟨i3, hT, hO, h0⟩
  refine aZ hT ?_
  clear hT
  unfold xJ at h0
  obtain ⟨rr0, hl0, h0⟩ := aX h0
  refine bV (by kernel_rfl) (fun (s : Int) T H => Has T [(0, (eL aE f0)), (3, (eI s))] ∧ aL ⟨H0, [], []⟩ H []) hl0 ⟨.eq (by kernel_rfl), hO⟩ ?_
  clear hO
  rintro k0 s out1 T H ⟨hT, hO⟩ h1 ho0
  obtain ⟨i3, rfl⟩ : ∃ x, x = s := ⟨_, rfl⟩
  replace h1 : lG f0 i3 = some out1 := h1
  refine aZ hT ?_
  clear hT
  unfold lG at h1
  refine aO ?_
  refine aU aH 4 [] [(10, (aK (decide (i3 < (lN f0)))))] ?_
  refine bF h1 (fun h1 => ?_) (fun h1 => ?_)
  · refine bH ?_
    refine bD [(0, (eL aE f0)), (3, (eI i3))] ?_
    refine aO ?_
    refine bN 1 ?_
    refine aO ?_
    refine aO ?_
    refine aT aH 38 ?_
    obtain ⟨c3, h1⟩ := bA h1
    obtain ⟨c4, h1⟩ := bA h1
    obtain ⟨c5, h1⟩ := bA h1
    obtain ⟨c6, h1⟩ := bA h1
    obtain ⟨c7, h1⟩ := bA h1
    refine nG [0 ≤ i3 ∧ i3 < (lN f0), (((!(decide (((gD f0 i3).At) < (-1 : Int))))) = true → 0 ≤ i3 ∧ i3 < (lN f0)), (((!((decide (((gD f0 i3).At) < (-1 : Int))) || (decide ((1125899906842624 : Int) ≤ ((gD f0 i3).At)))))) = true → 0 ≤ i3 ∧ i3 < (lN f0)), (((!(((decide (((gD f0 i3).At) < (-1 : Int))) || (decide ((1125899906842624 : Int) ≤ ((gD f0 i3).At)))) || (decide (((gD f0 i3).Net) = (0 : Int)))))) = true → 0 ≤ i3 ∧ i3 < (lN f0)), (((!((((decide (((gD f0 i3).At) < (-1 : Int))) || (decide ((1125899906842624 : Int) ≤ ((gD f0 i3).At)))) || (decide (((gD f0 i3).Net) = (0 : Int)))) || (decide ((1048576 : Int) < ((gD f0 i3).Net)))))) = true → 0 ≤ i3 ∧ i3 < (lN f0))] ⟨c3, c4, c5, c6, c7, trivial⟩ ?_
    refine bP [] [(50, (aK (((((decide (((gD f0 i3).At) < (-1 : Int))) || (decide ((1125899906842624 : Int) ≤ ((gD f0 i3).At)))) || (decide (((gD f0 i3).Net) = (0 : Int)))) || (decide ((1048576 : Int) < ((gD f0 i3).Net)))) || (decide (((gD f0 i3).Net) < (-1048576 : Int))))))] ?_
    refine bF h1 (fun h1 => ?_) (fun h1 => ?_)
    · refine bM aH 1 [(2, (aK false))] ?_
      refine bE ?_
      obtain rfl := oI h1
      obtain rfl : _ = rr0 := ho0
      replace h0 : some false = some r := h0
      obtain rfl := oI h0
      exact aJ (aP (bJ (aP (aP (bJ (aP (Q_r hO)))))))
    refine bH ?_
    refine bD [(0, (eL aE f0)), (3, (eI i3))] ?_
    refine aO ?_
    obtain ⟨c9, h1⟩ := bA h1
    obtain ⟨c10, h1⟩ := bA h1
    refine hU (hM [58, 64]) aH 16 ?_
    refine yH (K := fun T H => Has (lift T) [(0, (eL aE f0)), (3, (eI i3)), (66, (aK ((decide ((0 : Int) < i3)) && (decide (((gD f0 i3).At) ≤ ((gD f0 (wR (i3 - (1 : Int)))).At))))))] ∧ aL ⟨H0, [], []⟩ H []) ?_ ?_
    · refine mT 3 ?_
      refine nS (t := 53) (e := decide ((0 : Int) < i3)) (by kernel_rfl) (fun hg11 => ?_) (fun hg11 => ?_)
      · refine EJ (Ds := [0 ≤ i3 ∧ i3 < (lN f0), 0 ≤ (wR (i3 - (1 : Int))) ∧ (wR (i3 - (1 : Int))) < (lN f0)]) (by kernel_rfl) ⟨(c9 hg11), (c10 hg11), trivial⟩ ?_
        exact ⟨⟨[(0, (eL aE f0)), (3, (eI i3)), (66, (aK (decide (((gD f0 i3).At) ≤ ((gD f0 (wR (i3 - (1 : Int)))).At)))))], by kernel_rfl, rfl, ⟨aS.refl _, aS.refl _, aS.eq (congrArg aK (eH hg11 rfl).symm), trivial⟩⟩, hO⟩
      refine jN ?_
      exact ⟨⟨[(0, (eL aE f0)), (3, (eI i3)), (66, (aK false))], by kernel_rfl, rfl, ⟨aS.refl _, aS.refl _, aS.eq (congrArg aK (eH hg11 rfl).symm), trivial⟩⟩, hO⟩
    · rintro T H ⟨hT, hO⟩
      refine cH hT ?_
      clear hT
      refine aJ (aI ?_)
      refine bF h1 (fun h1 => ?_) (fun h1 => ?_)
      · refine bM aH 1 [(2, (aK false))] ?_
        refine bE ?_
        obtain rfl := oI h1
        obtain rfl : _ = rr0 := ho0
        replace h0 : some false = some r := h0
        obtain rfl := oI h0
        exact aJ (bJ (aP (aP (bJ (aP (Q_r hO))))))
      refine bH ?_
      refine cY [(0, (eL aE f0)), (3, (eI i3))] ?_
      refine aJ (aV (aI (?_)))
      refine aT aH 3 ?_
      refine bB ?_
      exact aJ (aI (⟨rfl, _, (oI h1).symm, .eq (by kernel_rfl), hO⟩))
  refine dG 0 ?_
  obtain rfl := oI h1
  obtain rfl : _ = rr0 := ho0
  replace h0 : tV  = some r := h0
  exact aJ (aR (aR (bL (aI (⟨rfl, .eq (by kernel_rfl), hO, h0⟩)))))

theorem JO (a0 : aF) (b1 : aF) (r : Int) (h0 : pY a0 b1 = some r) : bR Try.prog 103 [(aG a0), (aG b1)] (eI r) := by
  intro H0
  refine bY Try.func103 ?_
  have hO := aL.start H0
  unfold pY at h0
  refine aO ?_
  refine aT aH 3 ?_
  refine eX 3 (aG a0) (by kernel_rfl) (by kernel_rfl) ?_
  refine eX 3 (aG b1) (by kernel_rfl) (by kernel_rfl) ?_
  refine bB ?_
  refine bD [(2, (.rp (aG a0))), (3, (.rp (aG b1)))] ?_
  refine aO ?_
  refine aO ?_
  refine aT aH 8 ?_
  refine bO 1 ?_
  obtain ⟨x1, hx2, h0⟩ := aX h0
  refine cJ (CH a0 _ hx2) hO ?_
  intro H hO
  refine bO 5 ?_
  obtain ⟨x4, hx5, h0⟩ := aX h0
  refine mG [(9, false)] 76 [(aG b1)] (aK x4) (!(!x1)) (by kernel_rfl) (by kernel_rfl) (by kernel_rfl) (fun hb6 => (CH b1 _ (jO hx5 hb6))) hO ?_
  intro H hO
  refine bB ?_
  refine bP [] [(13, (aK ((!x1) || (!x4))))] ?_
  refine bF h0 (fun h0 => ?_) (fun h0 => ?_)
  · refine bM aH 1 [(4, (eI (0 : Int)))] ?_
    refine bE ?_
    obtain rfl := oI h0
    exact aJ (aP (Q_r hO))
  refine bH ?_
  refine bD [(2, (.rp (aG a0))), (3, (.rp (aG b1)))] ?_
  refine aO ?_
  refine aU aH 5 [] [(18, (aK (!decide (a0.Kind = b1.Kind))))] ?_
  refine bF h0 (fun h0 => ?_) (fun h0 => ?_)
  · refine aO ?_
    refine bM aH 3 [(21, (aK (decide (a0.Kind = (1 : Int)))))] ?_
    refine bF h0 (fun h0 => ?_) (fun h0 => ?_)
    · refine bM aH 1 [(4, (eI (-1 : Int)))] ?_
      refine bE ?_
      obtain rfl := oI h0
      exact aJ (aP (aP (Q_r hO)))
    refine bH ?_
    refine bD [] ?_
    refine bM aH 1 [(4, (eI (1 : Int)))] ?_
    refine bE ?_
    obtain rfl := oI h0
    exact aJ (aP (Q_r hO))
  refine bH ?_
  refine bD [(2, (.rp (aG a0))), (3, (.rp (aG b1)))] ?_
  refine aO ?_
  refine aU aH 5 [] [(26, (aK (!decide (a0.Num = b1.Num))))] ?_
  refine bF h0 (fun h0 => ?_) (fun h0 => ?_)
  · refine aO ?_
    refine bM aH 5 [(31, (aK (decide (a0.Num < b1.Num))))] ?_
    refine bF h0 (fun h0 => ?_) (fun h0 => ?_)
    · refine bM aH 1 [(4, (eI (-1 : Int)))] ?_
      refine bE ?_
      obtain rfl := oI h0
      exact aJ (aP (aP (Q_r hO)))
    refine bH ?_
    refine bD [] ?_
    refine bM aH 1 [(4, (eI (1 : Int)))] ?_
    refine bE ?_
    obtain rfl := oI h0
    exact aJ (aP (Q_r hO))
  refine bH ?_
  refine bD [(2, (.rp (aG a0))), (3, (.rp (aG b1)))] ?_
  refine cL (fun T H => ∃ a2 : aF, ∃ b3 : aF, Has T [(2, (.rp (aG a2))), (3, (.rp (aG b3)))] ∧ aL ⟨H0, [], []⟩ H [] ∧ oZ a2 b3 = some r) ?_ ?_
  · clear hO h0
    rintro T H ⟨a2, b3, hT, hO, h0⟩
    refine aZ hT ?_
    clear hT
    unfold oZ at h0
    refine aO ?_
    refine aU aH 7 [] [(70, (aK (!decide (((ByteArray.size a2.Text : Nat) : Int) = ((ByteArray.size b3.Text : Nat) : Int)))))] ?_
    refine bF h0 (fun h0 => ?_) (fun h0 => ?_)
    · refine aO ?_
      refine bM aH 7 [(77, (aK (decide (((ByteArray.size a2.Text : Nat) : Int) < ((ByteArray.size b3.Text : Nat) : Int)))))] ?_
      refine bF h0 (fun h0 => ?_) (fun h0 => ?_)
      · refine bM aH 1 [(4, (eI (-1 : Int)))] ?_
        refine bE ?_
        obtain rfl := oI h0
        exact aJ (aP (aP (Q_r hO)))
      refine bH ?_
      refine bD [] ?_
      refine bM aH 1 [(4, (eI (1 : Int)))] ?_
      refine bE ?_
      obtain rfl := oI h0
      exact aJ (aP (Q_r hO))
    refine bH ?_
    refine bD [] ?_
    refine bM aH 1 [(4, (eI (0 : Int)))] ?_
    refine bE ?_
    obtain rfl := oI h0
    exact aJ (Q_r hO)
  refine aU aH 1 [] [(5, (eI (0 : Int)))] ?_
  refine bN 0 ?_
  refine cR [(2, (.rp (aG a0))), (3, (.rp (aG b1))), (5, (eI (0 : Int)))] ?_
  refine cG (fun T H => ∃ a2 : aF, ∃ b3 : aF, ∃ i5 : Int, Has T [(2, (.rp (aG a2))), (3, (.rp (aG b3))), (5, (eI i5))] ∧ aL ⟨H0, [], []⟩ H [] ∧ rG a2 b3 i5 = some r) ?_ ⟨a0, b1, (0 : Int), .eq (by kernel_rfl), hO, h0⟩
  clear hO h0
  rintro T H ⟨a2, b3, i5, hT, hO, h0⟩
  refine aZ hT ?_
  clear hT
  unfold rG at h0
  obtain ⟨rr0, hl0, h0⟩ := aX h0
  refine bV (by kernel_rfl) (fun (s : Int) T H => Has T [(2, (.rp (aG a2))), (3, (.rp (aG b3))), (5, (eI s))] ∧ aL ⟨H0, [], []⟩ H []) hl0 ⟨.eq (by kernel_rfl), hO⟩ ?_
  clear hO
  rintro k0 s out1 T H ⟨hT, hO⟩ h1 ho0
  obtain ⟨i5, rfl⟩ : ∃ x, x = s := ⟨_, rfl⟩
  replace h1 : fW a2 b3 i5 = some out1 := h1
  refine aZ hT ?_
  clear hT
  unfold fW at h1
  refine aO ?_
  refine aU aH 12 [] [(43, (aK ((decide (i5 < ((ByteArray.size a2.Text : Nat) : Int))) && (decide (i5 < ((ByteArray.size b3.Text : Nat) : Int))))))] ?_
  refine bF h1 (fun h1 => ?_) (fun h1 => ?_)
  · refine bH ?_
    refine bD [(2, (.rp (aG a2))), (3, (.rp (aG b3))), (5, (eI i5))] ?_
    refine aO ?_
    refine bN 1 ?_
    refine aO ?_
    refine hU (hM [47, 51]) aH 9 ?_
    obtain ⟨c15, h1⟩ := bA h1
    obtain ⟨c16, h1⟩ := bA h1
    refine EJ (Ds := [0 ≤ i5 ∧ i5 < ((ByteArray.size a2.Text : Nat) : Int), 0 ≤ i5 ∧ i5 < ((ByteArray.size b3.Text : Nat) : Int)]) (by kernel_rfl) ⟨c15, c16, trivial⟩ ?_
    refine bP [] [(54, (aK (!decide ((bt a2.Text i5) = (bt b3.Text i5)))))] ?_
    refine bF h1 (fun h1 => ?_) (fun h1 => ?_)
    · refine aO ?_
      refine aO ?_
      refine hU (hM [56, 60]) aH 9 ?_
      obtain ⟨c18, h1⟩ := bA h1
      obtain ⟨c19, h1⟩ := bA h1
      refine EJ (Ds := [0 ≤ i5 ∧ i5 < ((ByteArray.size a2.Text : Nat) : Int), 0 ≤ i5 ∧ i5 < ((ByteArray.size b3.Text : Nat) : Int)]) (by kernel_rfl) ⟨c18, c19, trivial⟩ ?_
      refine bD [(63, (aK (decide ((bt a2.Text i5) < (bt b3.Text i5)))))] ?_
      refine bF h1 (fun h1 => ?_) (fun h1 => ?_)
      · refine bM aH 1 [(4, (eI (-1 : Int)))] ?_
        refine bE ?_
        obtain rfl := oI h1
        obtain rfl : _ = rr0 := ho0
        replace h0 : some (-1 : Int) = some r := h0
        obtain rfl := oI h0
        exact aJ (aP (bJ (aP (aP (bJ (aP (Q_r hO)))))))
      refine bH ?_
      refine bD [] ?_
      refine bM aH 1 [(4, (eI (1 : Int)))] ?_
      refine bE ?_
      obtain rfl := oI h1
      obtain rfl : _ = rr0 := ho0
      replace h0 : some (1 : Int) = some r := h0
      obtain rfl := oI h0
      exact aJ (bJ (aP (aP (bJ (aP (Q_r hO))))))
    refine bH ?_
    refine cY [(2, (.rp (aG a2))), (3, (.rp (aG b3))), (5, (eI i5))] ?_
    refine aJ (aV (aI (?_)))
    refine aT aH 3 ?_
    refine bB ?_
    exact aJ (aI (⟨rfl, _, (oI h1).symm, .eq (by kernel_rfl), hO⟩))
  refine dG 0 ?_
  obtain rfl := oI h1
  obtain rfl : _ = rr0 := ho0
  replace h0 : oZ a2 b3 = some r := h0
  exact aJ (aR (aR (bL (aI (⟨rfl, _, _, .eq (by kernel_rfl), hO, h0⟩)))))

theorem KO (a0 : (List aF)) (b1 : (List aF)) (r : Int) (h0 : qA a0 b1 = some r) : bR Try.prog 68 [(eL aG a0), (eL aG b1)] (eI r) := by
  intro H0
  refine bY Try.func68 ?_
  have hO := aL.start H0
  unfold qA at h0
  refine aU aH 1 [] [] ?_
  refine aO ?_
  refine aO ?_
  refine aT aH 8 ?_
  refine bO 1 ?_
  obtain ⟨x1, hx2, h0⟩ := aX h0
  refine cJ (yU a0 _ hx2) hO ?_
  intro H hO
  refine bO 5 ?_
  obtain ⟨x4, hx5, h0⟩ := aX h0
  refine mG [(10, false)] 32 [(eL aG b1)] (aK x4) (!(!x1)) (by kernel_rfl) (by kernel_rfl) (by kernel_rfl) (fun hb6 => (yU b1 _ (jO hx5 hb6))) hO ?_
  intro H hO
  refine bB ?_
  refine bP [] [(14, (aK ((!x1) || (!x4))))] ?_
  refine bF h0 (fun h0 => ?_) (fun h0 => ?_)
  · refine bM aH 1 [(4, (eI (0 : Int)))] ?_
    refine bE ?_
    obtain rfl := oI h0
    exact aJ (aP (Q_r hO))
  refine bH ?_
  refine bD [(0, (eL aG a0)), (1, (eL aG b1))] ?_
  refine cL (fun T H => Has T [(0, (eL aG a0)), (1, (eL aG b1))] ∧ aL ⟨H0, [], []⟩ H [] ∧ oY a0 b1 = some r) ?_ ?_
  · clear hO h0
    rintro T H ⟨hT, hO, h0⟩
    refine aZ hT ?_
    clear hT
    unfold oY at h0
    refine aO ?_
    refine aU aH 5 [] [(43, (aK (decide ((lN a0) < (lN b1)))))] ?_
    refine bF h0 (fun h0 => ?_) (fun h0 => ?_)
    · refine bM aH 1 [(4, (eI (-1 : Int)))] ?_
      refine bE ?_
      obtain rfl := oI h0
      exact aJ (aP (Q_r hO))
    refine bH ?_
    refine bD [(0, (eL aG a0)), (1, (eL aG b1))] ?_
    refine aO ?_
    refine bM aH 5 [(48, (aK (decide ((lN b1) < (lN a0)))))] ?_
    refine bF h0 (fun h0 => ?_) (fun h0 => ?_)
    · refine bM aH 1 [(4, (eI (1 : Int)))] ?_
      refine bE ?_
      obtain rfl := oI h0
      exact aJ (aP (Q_r hO))
    refine bH ?_
    refine bD [] ?_
    refine bM aH 1 [(4, (eI (0 : Int)))] ?_
    refine bE ?_
    obtain rfl := oI h0
    exact aJ (Q_r hO)
  refine aU aH 1 [] [(5, (eI (0 : Int)))] ?_
  refine bN 0 ?_
  refine cR [(0, (eL aG a0)), (1, (eL aG b1)), (5, (eI (0 : Int)))] ?_
  refine cG (fun T H => ∃ i5 : Int, Has T [(0, (eL aG a0)), (1, (eL aG b1)), (5, (eI i5))] ∧ aL ⟨H0, [], []⟩ H [] ∧ qY a0 b1 i5 = some r) ?_ ⟨(0 : Int), .eq (by kernel_rfl), hO, h0⟩
  clear hO h0
  rintro T H ⟨i5, hT, hO, h0⟩
  refine aZ hT ?_
  clear hT
  unfold qY at h0
  obtain ⟨rr0, hl0, h0⟩ := aX h0
  refine bV (by kernel_rfl) (fun (s : Int) T H => Has T [(0, (eL aG a0)), (1, (eL aG b1)), (5, (eI s))] ∧ aL ⟨H0, [], []⟩ H []) hl0 ⟨.eq (by kernel_rfl), hO⟩ ?_
  clear hO
  rintro k0 s out1 T H ⟨hT, hO⟩ h1 ho0
  obtain ⟨i5, rfl⟩ : ∃ x, x = s := ⟨_, rfl⟩
  replace h1 : fU a0 b1 i5 = some out1 := h1
  refine aZ hT ?_
  clear hT
  unfold fU at h1
  refine aO ?_
  refine aU aH 10 [] [(24, (aK ((decide (i5 < (lN a0))) && (decide (i5 < (lN b1))))))] ?_
  refine bF h1 (fun h1 => ?_) (fun h1 => ?_)
  · refine bH ?_
    refine bD [(0, (eL aG a0)), (1, (eL aG b1)), (5, (eI i5))] ?_
    refine aO ?_
    refine bN 1 ?_
    refine aO ?_
    refine hU (hM [30, 34]) aH 10 ?_
    obtain ⟨c11, h1⟩ := bA h1
    obtain ⟨c12, h1⟩ := bA h1
    refine cV 8 [0 ≤ i5 ∧ i5 < (lN a0), 0 ≤ i5 ∧ i5 < (lN b1)] ⟨c11, c12, trivial⟩ ?_
    obtain ⟨x13, hx14, h1⟩ := aX h1
    refine AB (JO (gD a0 i5) (gD b1 i5) _ hx14) hO ?_
    intro H hO
    refine jN ?_
    refine bP [] [(6, (eI x13))] ?_
    refine aU aH 2 [] [(37, (aK (!decide (x13 = (0 : Int)))))] ?_
    refine bF h1 (fun h1 => ?_) (fun h1 => ?_)
    · refine bM aH 2 [(4, (eI x13))] ?_
      refine bE ?_
      obtain rfl := oI h1
      obtain rfl : _ = rr0 := ho0
      replace h0 : some x13 = some r := h0
      obtain rfl := oI h0
      exact aJ (bJ (aP (aP (bJ (aP (Q_r hO))))))
    refine bH ?_
    refine cY [(0, (eL aG a0)), (1, (eL aG b1)), (5, (eI i5))] ?_
    refine aJ (aV (aI (?_)))
    refine aT aH 3 ?_
    refine bB ?_
    exact aJ (aI (⟨rfl, _, (oI h1).symm, .eq (by kernel_rfl), hO⟩))
  refine dG 0 ?_
  obtain rfl := oI h1
  obtain rfl : _ = rr0 := ho0
  replace h0 : oY a0 b1 = some r := h0
  exact aJ (aR (aR (bL (aI (⟨rfl, .eq (by kernel_rfl), hO, h0⟩)))))

theorem BF (a0 : (List aF)) (b1 : (List aF)) (r : Bool) (h0 : pH a0 b1 = some r) : bR Try.prog 48 [(eL aG a0), (eL aG b1)] (aK r) := by
  intro H0
  refine bY Try.func48 ?_
  have hO := aL.start H0
  unfold pH at h0
  refine aU aH 1 [] [] ?_
  refine aO ?_
  refine aU aH 5 [] [(10, (aK (!decide ((lN a0) = (lN b1)))))] ?_
  refine bF h0 (fun h0 => ?_) (fun h0 => ?_)
  · refine bM aH 1 [(4, (aK false))] ?_
    refine bE ?_
    obtain rfl := oI h0
    exact aJ (aP (Q_r hO))
  refine bH ?_
  refine bD [(0, (eL aG a0)), (1, (eL aG b1))] ?_
  refine cL (fun T H => Has T [] ∧ aL ⟨H0, [], []⟩ H [] ∧ rS  = some r) ?_ ?_
  · clear hO h0
    rintro T H ⟨hT, hO, h0⟩
    refine aZ hT ?_
    clear hT
    unfold rS at h0
    refine bM aH 1 [(4, (aK true))] ?_
    refine bE ?_
    obtain rfl := oI h0
    exact aJ (Q_r hO)
  refine aU aH 1 [] [(5, (eI (0 : Int)))] ?_
  refine bN 0 ?_
  refine cR [(0, (eL aG a0)), (1, (eL aG b1)), (5, (eI (0 : Int)))] ?_
  refine cG (fun T H => ∃ i5 : Int, Has T [(0, (eL aG a0)), (1, (eL aG b1)), (5, (eI i5))] ∧ aL ⟨H0, [], []⟩ H [] ∧ vW a0 b1 i5 = some r) ?_ ⟨(0 : Int), .eq (by kernel_rfl), hO, h0⟩
  clear hO h0
  rintro T H ⟨i5, hT, hO, h0⟩
  refine aZ hT ?_
  clear hT
  unfold vW at h0
  obtain ⟨rr0, hl0, h0⟩ := aX h0
  refine bV (by kernel_rfl) (fun (s : Int) T H => Has T [(0, (eL aG a0)), (1, (eL aG b1)), (5, (eI s))] ∧ aL ⟨H0, [], []⟩ H []) hl0 ⟨.eq (by kernel_rfl), hO⟩ ?_
  clear hO
  rintro k0 s out1 T H ⟨hT, hO⟩ h1 ho0
  obtain ⟨i5, rfl⟩ : ∃ x, x = s := ⟨_, rfl⟩
  replace h1 : pP a0 b1 i5 = some out1 := h1
  refine aZ hT ?_
  clear hT
  unfold pP at h1
  refine aO ?_
  refine aU aH 4 [] [(14, (aK (decide (i5 < (lN a0)))))] ?_
  refine bF h1 (fun h1 => ?_) (fun h1 => ?_)
  · refine bH ?_
    refine bD [(0, (eL aG a0)), (1, (eL aG b1)), (5, (eI i5))] ?_
    refine aO ?_
    refine bN 1 ?_
    refine aO ?_
    refine hU (hM [20, 24]) aH 9 ?_
    obtain ⟨c3, h1⟩ := bA h1
    obtain ⟨c4, h1⟩ := bA h1
    refine EJ (Ds := [0 ≤ i5 ∧ i5 < (lN a0), 0 ≤ i5 ∧ i5 < (lN b1)]) (by kernel_rfl) ⟨c3, c4, trivial⟩ ?_
    refine bP [] [(25, (aK (!((decide (((gD a0 i5).Kind) = ((gD b1 i5).Kind))) && ((decide (((gD a0 i5).Num) = ((gD b1 i5).Num))) && ((nJ ((gD a0 i5).Text) ((gD b1 i5).Text)) && true))))))] ?_
    refine bF h1 (fun h1 => ?_) (fun h1 => ?_)
    · refine bM aH 1 [(4, (aK false))] ?_
      refine bE ?_
      obtain rfl := oI h1
      obtain rfl : _ = rr0 := ho0
      replace h0 : some false = some r := h0
      obtain rfl := oI h0
      exact aJ (bJ (aP (aP (bJ (aP (Q_r hO))))))
    refine bH ?_
    refine cY [(0, (eL aG a0)), (1, (eL aG b1)), (5, (eI i5))] ?_
    refine aJ (aV (aI (?_)))
    refine aT aH 3 ?_
    refine bB ?_
    exact aJ (aI (⟨rfl, _, (oI h1).symm, .eq (by kernel_rfl), hO⟩))
  refine dG 0 ?_
  obtain rfl := oI h1
  obtain rfl : _ = rr0 := ho0
  replace h0 : rS  = some r := h0
  exact aJ (aR (aR (bL (aI (⟨rfl, .eq (by kernel_rfl), hO, h0⟩)))))

theorem QW (l0 : (List aC)) (r : (List (List aF))) (h0 : tY l0 = some r) : bR Try.prog 45 [(eL aD l0)] (eL (eL aG) r) := by
  intro H0
  refine bY Try.func45 ?_
  have hO := aL.start H0
  unfold tY at h0
  refine aU aH 1 [] [] ?_
  refine aO ?_
  refine aT aH 2 ?_
  refine mD (xs := []) (k := 1) (by kernel_rfl) (by kernel_rfl) ?_
  refine bB ?_
  refine bP [] [(3, (.sl true 0 (fun _ => .bad)))] ?_
  refine cL (fun T H => ∃ bK : List (List aF), ∃ lo1 : Nat, Has T [(3, (.msl 1 lo1 0 (List.length bK)))] ∧ aL ⟨H0, [], []⟩ H [(lo1, 1, List.map (eL aG) bK)] ∧ vV bK = some r) ?_ ?_
  · clear hO h0
    rintro T H ⟨bK, lo1, hT, hO, h0⟩
    refine aZ hT ?_
    clear hT
    unfold vV at h0
    refine bM aH 2 [(2, (.msl 1 lo1 0 (List.length bK)))] ?_
    refine bE ?_
    refine cY [(2, (.msl 1 lo1 0 (List.length bK)))] ?_
    refine wQ (en := (eL aG)) bK 0 0 2 1 lo1 (List.length bK) hO (by kernel_rfl) (by kernel_rfl) (by kernel_rfl) (L' := []) (by kernel_rfl) ?_
    intro H2 hO
    obtain rfl := oI h0
    exact aJ (Q_r hO)
  refine aU aH 1 [] [(4, (eI (0 : Int)))] ?_
  refine bN 0 ?_
  refine cR [(0, (eL aD l0)), (3, (.sl true 0 (fun _ => .bad))), (4, (eI (0 : Int)))] ?_
  refine zQ (el := (fun _ => .bad)) 1 3 1 hO (by kernel_rfl) ?_
  intro lo31 H32 hO
  refine cG (fun T H => ∃ bK : List (List aF), ∃ i4 : Int, ∃ lo4 : Nat, Has T [(0, (eL aD l0)), (3, (.msl 1 lo4 0 (List.length bK))), (4, (eI i4))] ∧ aL ⟨H0, [], []⟩ H [(lo4, 1, List.map (eL aG) bK)] ∧ vU l0 bK i4 = some r) ?_ ⟨([] : List (List aF)), (0 : Int), lo31, .eq (by kernel_rfl), hO, h0⟩
  clear hO h0
  rintro T H ⟨bK, i4, lo4, hT, hO, h0⟩
  refine aZ hT ?_
  clear hT
  unfold vU at h0
  obtain ⟨rr0, hl0, h0⟩ := aX h0
  refine bV (by kernel_rfl) (fun (s : List (List aF) × Int) T H => ∃ lo4 : Nat, Has T [(0, (eL aD l0)), (3, (.msl 1 lo4 0 (List.length s.1))), (4, (eI s.2))] ∧ aL ⟨H0, [], []⟩ H [(lo4, 1, List.map (eL aG) s.1)]) hl0 ⟨lo4, .eq (by kernel_rfl), hO⟩ ?_
  clear hO
  rintro k0 s out1 T H ⟨lo4, hT, hO⟩ h1 ho0
  obtain ⟨bK, i4⟩ := s
  replace h1 : mL l0 bK i4 = some out1 := h1
  dsimp only at hT
  refine aZ hT ?_
  clear hT
  unfold mL at h1
  refine aO ?_
  refine aU aH 4 [] [(11, (aK (decide (i4 < (lN l0)))))] ?_
  refine bF h1 (fun h1 => ?_) (fun h1 => ?_)
  · refine bH ?_
    refine bD [(0, (eL aD l0)), (3, (.msl 1 lo4 0 (List.length bK))), (4, (eI i4))] ?_
    refine cL (fun T H => ∃ bK : List (List aF), ∃ lo6 : Nat, Has T [(0, (eL aD l0)), (3, (.msl 1 lo6 0 (List.length bK))), (4, (eI i4))] ∧ aL ⟨H0, [], []⟩ H [(lo6, 1, List.map (eL aG) bK)] ∧ rZ l0 bK i4 = some out1) ?_ ?_
    · clear hO h1
      rintro T H ⟨bK, lo6, hT, hO, h1⟩
      refine aZ hT ?_
      clear hT
      unfold rZ at h1
      refine aT aH 3 ?_
      refine bB ?_
      exact aJ (aI (⟨rfl, _, (oI h1).symm, _, .eq (by kernel_rfl), hO⟩))
    refine bN 1 ?_
    refine aU aH 1 [] [(5, (eI (0 : Int)))] ?_
    refine cL (fun T H => ∃ bK : List (List aF), ∃ at5 : Int, ∃ lo7 : Nat, Has T [(0, (eL aD l0)), (3, (.msl 1 lo7 0 (List.length bK))), (4, (eI i4)), (5, (eI at5))] ∧ aL ⟨H0, [], []⟩ H [(lo7, 1, List.map (eL aG) bK)] ∧ sH l0 bK i4 at5 = some out1) ?_ ?_
    · clear hO h1
      rintro T H ⟨bK, at5, lo7, hT, hO, h1⟩
      refine aZ hT ?_
      clear hT
      unfold sH at h1
      refine aO ?_
      refine aO ?_
      obtain ⟨c8, h1⟩ := bA h1
      obtain ⟨c9, h1⟩ := bA h1
      obtain ⟨x10, hx11, h1⟩ := aX h1
      refine hU (hM [46]) aH 16 ?_
      refine yH (K := fun T H => Has (lift T) [(0, (eL aD l0)), (3, (.msl 1 lo7 0 (List.length bK))), (4, (eI i4)), (5, (eI at5)), (48, (aK ((decide (at5 < (lN bK))) && x10)))] ∧ aL ⟨H0, [], []⟩ H [(lo7, 1, List.map (eL aG) bK)]) ?_ ?_
      · refine mT 5 ?_
        refine nS (t := 37) (e := decide (at5 < (lN bK))) (by kernel_rfl) (fun hg12 => ?_) (fun hg12 => ?_)
        · refine cV 8 [0 ≤ at5 ∧ at5 < (lN bK)] ⟨(c8 hg12), trivial⟩ ?_
          refine wX 0 lo7 1 (0 + Int.toNat at5) (eL aG (gD bK at5)) (eL aG (gD bK at5)) (List.map (eL aG) bK) (by kernel_rfl) (by kernel_rfl) (by kernel_rfl) hO (by kernel_rfl) (cM (c8 hg12)) ?_
          refine cV 14 [0 ≤ i4 ∧ i4 < (lN l0)] ⟨(c9 hg12), trivial⟩ ?_
          refine qT 48 [(eL aG (gD bK at5)), (eL aG ((gD l0 i4).Row))] (aK x10) (by kernel_rfl) (by kernel_rfl) (BF (gD bK at5) ((gD l0 i4).Row) _ (jO hx11 hg12)) hO ?_
          intro H hO
          refine jN ?_
          exact ⟨⟨[(0, (eL aD l0)), (3, (.msl 1 lo7 0 (List.length bK))), (4, (eI i4)), (5, (eI at5)), (48, (aK x10))], by kernel_rfl, rfl, ⟨aS.refl _, aS.refl _, aS.refl _, aS.refl _, aS.eq (congrArg aK (eH hg12 rfl).symm), trivial⟩⟩, hO⟩
        refine jN ?_
        exact ⟨⟨[(0, (eL aD l0)), (3, (.msl 1 lo7 0 (List.length bK))), (4, (eI i4)), (5, (eI at5)), (48, (aK false))], by kernel_rfl, rfl, ⟨aS.refl _, aS.refl _, aS.refl _, aS.refl _, aS.eq (congrArg aK (eH hg12 rfl).symm), trivial⟩⟩, hO⟩
      · rintro T H ⟨hT, hO⟩
        refine cH hT ?_
        clear hT
        refine aJ (aI ?_)
        refine bF h1 (fun h1 => ?_) (fun h1 => ?_)
        · refine dG 1 ?_
          exact aJ (aR (bL (aI (⟨rfl, _, _, .eq (by kernel_rfl), hO, h1⟩))))
        refine bH ?_
        refine bD [(0, (eL aD l0)), (3, (.msl 1 lo7 0 (List.length bK))), (4, (eI i4)), (5, (eI at5))] ?_
        refine aO ?_
        refine aT aH 6 ?_
        refine mD (xs := []) (k := 1) (by kernel_rfl) (by kernel_rfl) ?_
        obtain ⟨c14, h1⟩ := bA h1
        refine oG 4 [0 ≤ at5 ∧ at5 ≤ (lN bK)] ⟨c14, trivial⟩ ?_
        obtain ⟨c16, h1⟩ := bA h1
        refine KT (e := (eL aG)) (List.take (Int.toNat at5) bK) (fun _ => .bad) 1 24 (.msl 1 lo7 0 (Int.toNat at5)) (fun lo15 => [(lo7, 1, List.map (eL aG) bK), (lo15, 1, List.map (eL aG) (List.take (Int.toNat at5) bK))]) (by kernel_rfl) (by kernel_rfl) hO (OG hO 0 (by kernel_rfl) (Int.toNat_le.2 (And.right c14))) c16 (fun _ => by kernel_rfl) ?_
        intro lo15 H hO
        refine bB ?_
        refine bP [] [(6, (.msl 1 lo15 0 (List.length (List.take (Int.toNat at5) bK))))] ?_
        refine aO ?_
        refine aT aH 9 ?_
        obtain ⟨c17, h1⟩ := bA h1
        refine oG 6 [0 ≤ i4 ∧ i4 < (lN l0)] ⟨c17, trivial⟩ ?_
        refine mD (xs := [(eL aG ((gD l0 i4).Row))]) (k := 1) (by kernel_rfl) (by kernel_rfl) ?_
        obtain ⟨c19, h1⟩ := bA h1
        refine uG (e := (eL aG)) (List.take (Int.toNat at5) bK) ([(gD l0 i4).Row]) 1 lo15 1 24 (fV [(eL aG ((gD l0 i4).Row))]) (fun lo18 => [(lo7, 1, List.map (eL aG) bK), (lo18, 1, List.map (eL aG) ((List.take (Int.toNat at5) bK) ++ ([(gD l0 i4).Row])))]) (by kernel_rfl) (by kernel_rfl) hO (by kernel_rfl) (by kernel_rfl) c19 (fun _ => by kernel_rfl) ?_
        intro lo18 H hO
        refine bB ?_
        refine bP [6] [(6, (.msl 1 lo18 0 (List.length ((List.take (Int.toNat at5) bK) ++ ([(gD l0 i4).Row])))))] ?_
        refine aT aH 6 ?_
        obtain ⟨c20, h1⟩ := bA h1
        refine oG 4 [0 ≤ at5 ∧ at5 ≤ (lN bK)] ⟨c20, trivial⟩ ?_
        obtain ⟨c22, h1⟩ := bA h1
        refine uG (e := (eL aG)) ((List.take (Int.toNat at5) bK) ++ ([(gD l0 i4).Row])) (List.drop (Int.toNat at5) bK) 1 lo18 1 24 (.msl 1 lo7 (0 + Int.toNat at5) (List.length bK - Int.toNat at5)) (fun lo21 => [(lo7, 1, List.map (eL aG) bK), (lo21, 1, List.map (eL aG) (((List.take (Int.toNat at5) bK) ++ ([(gD l0 i4).Row])) ++ (List.drop (Int.toNat at5) bK)))]) (by kernel_rfl) (by kernel_rfl) hO (by kernel_rfl) (OQ hO 0 (by kernel_rfl) rfl (Int.toNat_le.2 (And.right c20))) c22 (fun _ => by kernel_rfl) ?_
        intro lo21 H hO
        refine bB ?_
        replace hO := hO.pick (L' := [(lo21, 1, List.map (eL aG) (((List.take (Int.toNat at5) bK) ++ ([(gD l0 i4).Row])) ++ (List.drop (Int.toNat at5) bK)))]) [1] (by decide) (by kernel_rfl)
        exact aJ (aV (aI (⟨rfl, _, _, .eq (by kernel_rfl), hO, h1⟩)))
    refine bN 2 ?_
    refine cR [(0, (eL aD l0)), (3, (.msl 1 lo4 0 (List.length bK))), (4, (eI i4)), (5, (eI (0 : Int)))] ?_
    refine cG (fun T H => ∃ bK : List (List aF), ∃ at5 : Int, ∃ lo24 : Nat, Has T [(0, (eL aD l0)), (3, (.msl 1 lo24 0 (List.length bK))), (4, (eI i4)), (5, (eI at5))] ∧ aL ⟨H0, [], []⟩ H [(lo24, 1, List.map (eL aG) bK)] ∧ vZ l0 bK i4 at5 = some out1) ?_ ⟨bK, (0 : Int), lo4, .eq (by kernel_rfl), hO, h1⟩
    clear hO h1
    rintro T H ⟨bK, at5, lo24, hT, hO, h1⟩
    refine aZ hT ?_
    clear hT
    unfold vZ at h1
    obtain ⟨rr1, hl1, h1⟩ := aX h1
    refine bV (by kernel_rfl) (fun (s : List (List aF) × Int) T H => ∃ lo24 : Nat, Has T [(0, (eL aD l0)), (3, (.msl 1 lo24 0 (List.length s.1))), (4, (eI i4)), (5, (eI s.2))] ∧ aL ⟨H0, [], []⟩ H [(lo24, 1, List.map (eL aG) s.1)]) hl1 ⟨lo24, .eq (by kernel_rfl), hO⟩ ?_
    clear hO
    rintro k1 s out2 T H ⟨lo24, hT, hO⟩ h2 ho1
    obtain ⟨bK, at5⟩ := s
    replace h2 : lK l0 i4 bK at5 = some out2 := h2
    dsimp only at hT
    refine aZ hT ?_
    clear hT
    unfold lK at h2
    refine aO ?_
    refine aO ?_
    obtain ⟨c25, h2⟩ := bA h2
    obtain ⟨c26, h2⟩ := bA h2
    obtain ⟨x27, hx28, h2⟩ := aX h2
    refine hU (hM [27]) aH 17 ?_
    refine yH (K := fun T H => Has (lift T) [(0, (eL aD l0)), (3, (.msl 1 lo24 0 (List.length bK))), (4, (eI i4)), (5, (eI at5)), (30, (aK ((decide (at5 < (lN bK))) && (decide (x27 < (0 : Int))))))] ∧ aL ⟨H0, [], []⟩ H [(lo24, 1, List.map (eL aG) bK)]) ?_ ?_
    · refine mT 5 ?_
      refine nS (t := 18) (e := decide (at5 < (lN bK))) (by kernel_rfl) (fun hg29 => ?_) (fun hg29 => ?_)
      · refine cV 8 [0 ≤ at5 ∧ at5 < (lN bK)] ⟨(c25 hg29), trivial⟩ ?_
        refine wX 0 lo24 1 (0 + Int.toNat at5) (eL aG (gD bK at5)) (eL aG (gD bK at5)) (List.map (eL aG) bK) (by kernel_rfl) (by kernel_rfl) (by kernel_rfl) hO (by kernel_rfl) (cM (c25 hg29)) ?_
        refine cV 14 [0 ≤ i4 ∧ i4 < (lN l0)] ⟨(c26 hg29), trivial⟩ ?_
        refine qT 68 [(eL aG (gD bK at5)), (eL aG ((gD l0 i4).Row))] (eI x27) (by kernel_rfl) (by kernel_rfl) (KO (gD bK at5) ((gD l0 i4).Row) _ (jO hx28 hg29)) hO ?_
        intro H hO
        refine jN ?_
        exact ⟨⟨[(0, (eL aD l0)), (3, (.msl 1 lo24 0 (List.length bK))), (4, (eI i4)), (5, (eI at5)), (30, (aK (decide (x27 < (0 : Int)))))], by kernel_rfl, rfl, ⟨aS.refl _, aS.refl _, aS.refl _, aS.refl _, aS.eq (congrArg aK (eH hg29 rfl).symm), trivial⟩⟩, hO⟩
      refine jN ?_
      exact ⟨⟨[(0, (eL aD l0)), (3, (.msl 1 lo24 0 (List.length bK))), (4, (eI i4)), (5, (eI at5)), (30, (aK false))], by kernel_rfl, rfl, ⟨aS.refl _, aS.refl _, aS.refl _, aS.refl _, aS.eq (congrArg aK (eH hg29 rfl).symm), trivial⟩⟩, hO⟩
    · rintro T H ⟨hT, hO⟩
      refine cH hT ?_
      clear hT
      refine aJ (aI ?_)
      refine bF h2 (fun h2 => ?_) (fun h2 => ?_)
      · refine bH ?_
        refine bD [(0, (eL aD l0)), (3, (.msl 1 lo24 0 (List.length bK))), (4, (eI i4)), (5, (eI at5))] ?_
        refine bN 3 ?_
        refine aT aH 3 ?_
        refine bB ?_
        exact aJ (aV (aI (⟨rfl, _, (oI h2).symm, _, .eq (by kernel_rfl), hO⟩)))
      refine dG 2 ?_
      obtain rfl := oI h2
      obtain rfl : _ = rr1 := ho1
      replace h1 : sH l0 bK i4 at5 = some out1 := h1
      exact aJ (aR (aR (bL (aI (⟨rfl, _, _, _, .eq (by kernel_rfl), hO, h1⟩)))))
  refine dG 0 ?_
  obtain rfl := oI h1
  obtain rfl : _ = rr0 := ho0
  replace h0 : vV bK = some r := h0
  exact aJ (aR (aR (bL (aI (⟨rfl, _, _, .eq (by kernel_rfl), hO, h0⟩)))))

theorem NA (l0 : (List aC)) (r1 : (List aF)) (r : (List aB)) (h0 : sG l0 r1 = some r) : bR Try.prog 19 [(eL aD l0), (eL aG r1)] (eL aE r) := by
  intro H0
  refine bY Try.func19 ?_
  have hO := aL.start H0
  unfold sG at h0
  refine aU aH 1 [] [] ?_
  refine aO ?_
  refine aT aH 2 ?_
  refine mD (xs := []) (k := 2) (by kernel_rfl) (by kernel_rfl) ?_
  refine bB ?_
  refine bP [] [(5, (.sl true 0 (fun _ => .bad)))] ?_
  refine cL (fun T H => ∃ f5 : List aB, ∃ lo1 : Nat, Has T [(5, (.msl 2 lo1 0 (List.length f5)))] ∧ aL ⟨H0, [], []⟩ H [(lo1, 2, List.map aE f5)] ∧ uN f5 = some r) ?_ ?_
  · clear hO h0
    rintro T H ⟨f5, lo1, hT, hO, h0⟩
    refine aZ hT ?_
    clear hT
    unfold uN at h0
    refine bM aH 2 [(4, (.msl 2 lo1 0 (List.length f5)))] ?_
    refine bE ?_
    refine cY [(4, (.msl 2 lo1 0 (List.length f5)))] ?_
    refine wQ (en := aE) f5 0 0 4 2 lo1 (List.length f5) hO (by kernel_rfl) (by kernel_rfl) (by kernel_rfl) (L' := []) (by kernel_rfl) ?_
    intro H2 hO
    obtain rfl := oI h0
    exact aJ (Q_r hO)
  refine aU aH 1 [] [(6, (eI (0 : Int)))] ?_
  refine bN 0 ?_
  refine cR [(0, (eL aD l0)), (1, (eL aG r1)), (5, (.sl true 0 (fun _ => .bad))), (6, (eI (0 : Int)))] ?_
  refine zQ (el := (fun _ => .bad)) 2 5 2 hO (by kernel_rfl) ?_
  intro lo16 H17 hO
  refine cG (fun T H => ∃ f5 : List aB, ∃ i6 : Int, ∃ lo4 : Nat, Has T [(0, (eL aD l0)), (1, (eL aG r1)), (5, (.msl 2 lo4 0 (List.length f5))), (6, (eI i6))] ∧ aL ⟨H0, [], []⟩ H [(lo4, 2, List.map aE f5)] ∧ uF l0 r1 f5 i6 = some r) ?_ ⟨([] : List aB), (0 : Int), lo16, .eq (by kernel_rfl), hO, h0⟩
  clear hO h0
  rintro T H ⟨f5, i6, lo4, hT, hO, h0⟩
  refine aZ hT ?_
  clear hT
  unfold uF at h0
  obtain ⟨rr0, hl0, h0⟩ := aX h0
  refine bV (by kernel_rfl) (fun (s : List aB × Int) T H => ∃ lo4 : Nat, Has T [(0, (eL aD l0)), (1, (eL aG r1)), (5, (.msl 2 lo4 0 (List.length s.1))), (6, (eI s.2))] ∧ aL ⟨H0, [], []⟩ H [(lo4, 2, List.map aE s.1)]) hl0 ⟨lo4, .eq (by kernel_rfl), hO⟩ ?_
  clear hO
  rintro k0 s out1 T H ⟨lo4, hT, hO⟩ h1 ho0
  obtain ⟨f5, i6⟩ := s
  replace h1 : lU l0 r1 f5 i6 = some out1 := h1
  dsimp only at hT
  refine aZ hT ?_
  clear hT
  unfold lU at h1
  refine aO ?_
  refine aU aH 4 [] [(11, (aK (decide (i6 < (lN l0)))))] ?_
  refine bF h1 (fun h1 => ?_) (fun h1 => ?_)
  · refine bH ?_
    refine bD [(0, (eL aD l0)), (1, (eL aG r1)), (5, (.msl 2 lo4 0 (List.length f5))), (6, (eI i6))] ?_
    refine cL (fun T H => ∃ f5 : List aB, ∃ lo6 : Nat, Has T [(0, (eL aD l0)), (1, (eL aG r1)), (5, (.msl 2 lo6 0 (List.length f5))), (6, (eI i6))] ∧ aL ⟨H0, [], []⟩ H [(lo6, 2, List.map aE f5)] ∧ qS l0 r1 f5 i6 = some out1) ?_ ?_
    · clear hO h1
      rintro T H ⟨f5, lo6, hT, hO, h1⟩
      refine aZ hT ?_
      clear hT
      unfold qS at h1
      refine aT aH 3 ?_
      refine bB ?_
      exact aJ (aI (⟨rfl, _, (oI h1).symm, _, .eq (by kernel_rfl), hO⟩))
    refine bN 1 ?_
    refine aO ?_
    refine aT aH 7 ?_
    obtain ⟨c7, h1⟩ := bA h1
    refine oG 6 [0 ≤ i6 ∧ i6 < (lN l0)] ⟨c7, trivial⟩ ?_
    obtain ⟨x8, hx9, h1⟩ := aX h1
    refine cJ (BF ((gD l0 i6).Row) r1 _ hx9) hO ?_
    intro H hO
    refine cU ?_
    refine bP [] [(20, (aK x8))] ?_
    refine bF h1 (fun h1 => ?_) (fun h1 => ?_)
    · refine hU (hM [26, 31]) aH 15 ?_
      obtain ⟨c12, h1⟩ := bA h1
      obtain ⟨c13, h1⟩ := bA h1
      refine cV 12 [0 ≤ i6 ∧ i6 < (lN l0), 0 ≤ i6 ∧ i6 < (lN l0)] ⟨c12, c13, trivial⟩ ?_
      refine DZ (xs := [(aE (aB.mk ((gD l0 i6).At) ((gD l0 i6).Net)))]) (k := 2) (by kernel_rfl) (by kernel_rfl) ?_
      obtain ⟨c15, h1⟩ := bA h1
      refine CY (e := aE) f5 ([aB.mk ((gD l0 i6).At) ((gD l0 i6).Net)]) 0 lo4 2 16 (fV [(aE (aB.mk ((gD l0 i6).At) ((gD l0 i6).Net)))]) (fun lo14 => [(lo14, 2, List.map aE (f5 ++ ([aB.mk ((gD l0 i6).At) ((gD l0 i6).Net)])))]) (by kernel_rfl) (by kernel_rfl) hO (by kernel_rfl) (by kernel_rfl) c15 (fun _ => by kernel_rfl) ?_
      intro lo14 H hO
      refine jN ?_
      exact aJ (aV (aI (⟨rfl, _, _, .eq (by kernel_rfl), hO, h1⟩)))
    refine bH ?_
    exact aJ (aV (aI (⟨rfl, _, _, .eq (by kernel_rfl), hO, h1⟩)))
  refine dG 0 ?_
  obtain rfl := oI h1
  obtain rfl : _ = rr0 := ho0
  replace h0 : uN f5 = some r := h0
  exact aJ (aR (aR (bL (aI (⟨rfl, _, _, .eq (by kernel_rfl), hO, h0⟩)))))

theorem EP (f0 : (List aB)) (t1 : Int) (r : Int) (h0 : nV f0 t1 = some r) : bR Try.prog 20 [(eL aE f0), (eI t1)] (eI r) := by
  intro H0
  refine bY Try.func20 ?_
  have hO := aL.start H0
  unfold nV at h0
  refine aU aH 1 [] [] ?_
  refine aU aH 1 [] [(5, (eI (0 : Int)))] ?_
  refine cL (fun T H => ∃ v5 : Int, Has T [(5, (eI v5))] ∧ aL ⟨H0, [], []⟩ H [] ∧ qL v5 = some r) ?_ ?_
  · clear hO h0
    rintro T H ⟨v5, hT, hO, h0⟩
    refine aZ hT ?_
    clear hT
    unfold qL at h0
    refine bM aH 2 [(4, (eI v5))] ?_
    refine bE ?_
    obtain rfl := oI h0
    exact aJ (Q_r hO)
  refine aU aH 1 [] [(6, (eI (0 : Int)))] ?_
  refine bN 0 ?_
  refine cR [(0, (eL aE f0)), (1, (eI t1)), (5, (eI (0 : Int))), (6, (eI (0 : Int)))] ?_
  refine cG (fun T H => ∃ v5 : Int, ∃ i6 : Int, Has T [(0, (eL aE f0)), (1, (eI t1)), (5, (eI v5)), (6, (eI i6))] ∧ aL ⟨H0, [], []⟩ H [] ∧ uJ f0 t1 v5 i6 = some r) ?_ ⟨(0 : Int), (0 : Int), .eq (by kernel_rfl), hO, h0⟩
  clear hO h0
  rintro T H ⟨v5, i6, hT, hO, h0⟩
  refine aZ hT ?_
  clear hT
  unfold uJ at h0
  obtain ⟨rr0, hl0, h0⟩ := aX h0
  refine bV (by kernel_rfl) (fun (s : Int × Int) T H => Has T [(0, (eL aE f0)), (1, (eI t1)), (5, (eI s.1)), (6, (eI s.2))] ∧ aL ⟨H0, [], []⟩ H []) hl0 ⟨.eq (by kernel_rfl), hO⟩ ?_
  clear hO
  rintro k0 s out1 T H ⟨hT, hO⟩ h1 ho0
  obtain ⟨v5, i6⟩ := s
  replace h1 : jI f0 t1 v5 i6 = some out1 := h1
  dsimp only at hT
  refine aZ hT ?_
  clear hT
  unfold jI at h1
  refine aO ?_
  refine aU aH 4 [] [(10, (aK (decide (i6 < (lN f0)))))] ?_
  refine bF h1 (fun h1 => ?_) (fun h1 => ?_)
  · refine bH ?_
    refine bD [(0, (eL aE f0)), (1, (eI t1)), (5, (eI v5)), (6, (eI i6))] ?_
    refine cL (fun T H => ∃ v5 : Int, Has T [(0, (eL aE f0)), (1, (eI t1)), (5, (eI v5)), (6, (eI i6))] ∧ aL ⟨H0, [], []⟩ H [] ∧ oU f0 t1 v5 i6 = some out1) ?_ ?_
    · clear hO h1
      rintro T H ⟨v5, hT, hO, h1⟩
      refine aZ hT ?_
      clear hT
      unfold oU at h1
      refine aT aH 3 ?_
      refine bB ?_
      exact aJ (aI (⟨rfl, _, (oI h1).symm, .eq (by kernel_rfl), hO⟩))
    refine bN 1 ?_
    refine aO ?_
    refine aT aH 7 ?_
    obtain ⟨c2, h1⟩ := bA h1
    refine nG [0 ≤ i6 ∧ i6 < (lN f0)] ⟨c2, trivial⟩ ?_
    refine bP [] [(19, (aK (decide (((gD f0 i6).At) ≤ t1))))] ?_
    refine bF h1 (fun h1 => ?_) (fun h1 => ?_)
    · refine aT aH 8 ?_
      obtain ⟨c4, h1⟩ := bA h1
      refine nG [0 ≤ i6 ∧ i6 < (lN f0)] ⟨c4, trivial⟩ ?_
      exact aJ (aV (aI (⟨rfl, _, .eq (by kernel_rfl), hO, h1⟩)))
    refine bH ?_
    exact aJ (aV (aI (⟨rfl, _, .eq (by kernel_rfl), hO, h1⟩)))
  refine dG 0 ?_
  obtain rfl := oI h1
  obtain rfl : _ = rr0 := ho0
  replace h0 : qL v5 = some r := h0
  exact aJ (aR (aR (bL (aI (⟨rfl, _, .eq (by kernel_rfl), hO, h0⟩)))))

theorem FJ (t0 : Int) (r : Bool) (h0 : tH t0 = some r) : bR Try.prog 44 [(eI t0)] (aK r) := by
  intro H0
  refine bY Try.func44 ?_
  have hO := aL.start H0
  unfold tH at h0
  refine aU aH 1 [] [] ?_
  refine bM aH 7 [(2, (aK ((decide ((0 : Int) ≤ t0)) && (decide (t0 ≤ (1125899906842624 : Int))))))] ?_
  refine bE ?_
  obtain rfl := oI h0
  exact aJ (Q_r hO)

theorem QI (l0 : (List Int)) (t1 : Int) (r : (List Int)) (h0 : qO l0 t1 = some r) : bR Try.prog 46 [(eL (eI) l0), (eI t1)] (eL (eI) r) := by
  intro H0
  refine bY Try.func46 ?_
  have hO := aL.start H0
  unfold qO at h0
  refine aU aH 1 [] [] ?_
  refine aO ?_
  refine aT aH 2 ?_
  refine mD (xs := []) (k := 1) (by kernel_rfl) (by kernel_rfl) ?_
  refine bB ?_
  refine bP [] [(5, (.sl true 0 (fun _ => .bad)))] ?_
  refine aU aH 1 [] [(6, (aK false))] ?_
  refine cL (fun T H => ∃ out5 : List Int, ∃ put6 : Bool, ∃ lo1 : Nat, Has T [(1, (eI t1)), (5, (.msl 1 lo1 0 (List.length out5))), (6, (aK put6))] ∧ aL ⟨H0, [], []⟩ H [(lo1, 1, List.map (eI) out5)] ∧ pV t1 out5 put6 = some r) ?_ ?_
  · clear hO h0
    rintro T H ⟨out5, put6, lo1, hT, hO, h0⟩
    refine aZ hT ?_
    clear hT
    unfold pV at h0
    refine cL (fun T H => ∃ out5 : List Int, ∃ lo2 : Nat, Has T [(5, (.msl 1 lo2 0 (List.length out5)))] ∧ aL ⟨H0, [], []⟩ H [(lo2, 1, List.map (eI) out5)] ∧ pN out5 = some r) ?_ ?_
    · clear hO h0
      rintro T H ⟨out5, lo2, hT, hO, h0⟩
      refine aZ hT ?_
      clear hT
      unfold pN at h0
      refine bM aH 2 [(4, (.msl 1 lo2 0 (List.length out5)))] ?_
      refine bE ?_
      refine cY [(4, (.msl 1 lo2 0 (List.length out5)))] ?_
      refine wQ (en := (eI)) out5 0 0 4 1 lo2 (List.length out5) hO (by kernel_rfl) (by kernel_rfl) (by kernel_rfl) (L' := []) (by kernel_rfl) ?_
      intro H3 hO
      obtain rfl := oI h0
      exact aJ (Q_r hO)
    refine aU aH 2 [6] [(44, (aK (!put6)))] ?_
    refine bF h0 (fun h0 => ?_) (fun h0 => ?_)
    · refine aT aH 5 ?_
      refine bO 2 ?_
      refine mD (xs := [(eI t1)]) (k := 1) (by kernel_rfl) (by kernel_rfl) ?_
      obtain ⟨c6, h0⟩ := bA h0
      refine uG (e := (eI)) out5 ([t1]) 0 lo1 1 8 (fV [(eI t1)]) (fun lo5 => [(lo5, 1, List.map (eI) (out5 ++ ([t1])))]) (by kernel_rfl) (by kernel_rfl) hO (by kernel_rfl) (by kernel_rfl) c6 (fun _ => by kernel_rfl) ?_
      intro lo5 H hO
      refine bB ?_
      exact aJ (aI (⟨rfl, _, _, .eq (by kernel_rfl), hO, h0⟩))
    refine bH ?_
    exact aJ (aI (⟨rfl, _, _, .eq (by kernel_rfl), hO, h0⟩))
  refine aU aH 1 [] [(7, (eI (0 : Int)))] ?_
  refine bN 0 ?_
  refine cR [(0, (eL (eI) l0)), (1, (eI t1)), (5, (.sl true 0 (fun _ => .bad))), (6, (aK false)), (7, (eI (0 : Int)))] ?_
  refine zQ (el := (fun _ => .bad)) 2 5 1 hO (by kernel_rfl) ?_
  intro lo20 H21 hO
  refine cG (fun T H => ∃ out5 : List Int, ∃ put6 : Bool, ∃ i7 : Int, ∃ lo8 : Nat, Has T [(0, (eL (eI) l0)), (1, (eI t1)), (5, (.msl 1 lo8 0 (List.length out5))), (6, (aK put6)), (7, (eI i7))] ∧ aL ⟨H0, [], []⟩ H [(lo8, 1, List.map (eI) out5)] ∧ vO l0 t1 out5 put6 i7 = some r) ?_ ⟨([] : List Int), false, (0 : Int), lo20, .eq (by kernel_rfl), hO, h0⟩
  clear hO h0
  rintro T H ⟨out5, put6, i7, lo8, hT, hO, h0⟩
  refine aZ hT ?_
  clear hT
  unfold vO at h0
  obtain ⟨rr0, hl0, h0⟩ := aX h0
  refine bV (by kernel_rfl) (fun (s : List Int × Bool × Int) T H => ∃ lo8 : Nat, Has T [(0, (eL (eI) l0)), (1, (eI t1)), (5, (.msl 1 lo8 0 (List.length s.1))), (6, (aK s.2.1)), (7, (eI s.2.2))] ∧ aL ⟨H0, [], []⟩ H [(lo8, 1, List.map (eI) s.1)]) hl0 ⟨lo8, .eq (by kernel_rfl), hO⟩ ?_
  clear hO
  rintro k0 s out1 T H ⟨lo8, hT, hO⟩ h1 ho0
  obtain ⟨out5, put6, i7⟩ := s
  replace h1 : gY l0 t1 out5 put6 i7 = some out1 := h1
  dsimp only at hT
  refine aZ hT ?_
  clear hT
  unfold gY at h1
  refine aO ?_
  refine aU aH 4 [] [(12, (aK (decide (i7 < (lN l0)))))] ?_
  refine bF h1 (fun h1 => ?_) (fun h1 => ?_)
  · refine bH ?_
    refine bD [(0, (eL (eI) l0)), (1, (eI t1)), (5, (.msl 1 lo8 0 (List.length out5))), (6, (aK put6)), (7, (eI i7))] ?_
    refine aO ?_
    refine bN 1 ?_
    refine aO ?_
    refine aO ?_
    refine aT aH 6 ?_
    obtain ⟨c10, h1⟩ := bA h1
    refine nG [0 ≤ i7 ∧ i7 < (lN l0)] ⟨c10, trivial⟩ ?_
    refine bP [] [(20, (aK (decide ((gD l0 i7) = t1))))] ?_
    refine bF h1 (fun h1 => ?_) (fun h1 => ?_)
    · refine aO ?_
      refine aT aH 2 ?_
      refine bB ?_
      refine cY [(4, (eL (eI) l0))] ?_
      replace hO := hO.pick (L' := []) [] (by decide) (by kernel_rfl)
      refine aJ (aI (?_))
      refine bE ?_
      obtain rfl := oI h1
      obtain rfl : _ = rr0 := ho0
      replace h0 : some l0 = some r := h0
      obtain rfl := oI h0
      exact aJ (aP (bJ (aP (aP (bJ (aP (Q_r hO)))))))
    refine bH ?_
    refine bD [(0, (eL (eI) l0)), (1, (eI t1)), (5, (.msl 1 lo8 0 (List.length out5))), (6, (aK put6)), (7, (eI i7))] ?_
    refine cL (fun T H => ∃ out5 : List Int, ∃ put6 : Bool, ∃ lo12 : Nat, Has T [(0, (eL (eI) l0)), (1, (eI t1)), (5, (.msl 1 lo12 0 (List.length out5))), (6, (aK put6)), (7, (eI i7))] ∧ aL ⟨H0, [], []⟩ H [(lo12, 1, List.map (eI) out5)] ∧ rY l0 t1 out5 put6 i7 = some out1) ?_ ?_
    · clear hO h1
      rintro T H ⟨out5, put6, lo12, hT, hO, h1⟩
      refine aZ hT ?_
      clear hT
      unfold rY at h1
      refine aT aH 8 ?_
      obtain ⟨c13, h1⟩ := bA h1
      refine oG 5 [0 ≤ i7 ∧ i7 < (lN l0)] ⟨c13, trivial⟩ ?_
      refine mD (xs := [(eI (gD l0 i7))]) (k := 1) (by kernel_rfl) (by kernel_rfl) ?_
      obtain ⟨c15, h1⟩ := bA h1
      refine uG (e := (eI)) out5 ([gD l0 i7]) 0 lo12 1 8 (fV [(eI (gD l0 i7))]) (fun lo14 => [(lo14, 1, List.map (eI) (out5 ++ ([gD l0 i7])))]) (by kernel_rfl) (by kernel_rfl) hO (by kernel_rfl) (by kernel_rfl) c15 (fun _ => by kernel_rfl) ?_
      intro lo14 H hO
      refine bB ?_
      refine cY [(0, (eL (eI) l0)), (1, (eI t1)), (5, (.msl 1 lo14 0 (List.length (out5 ++ ([gD l0 i7]))))), (6, (aK put6)), (7, (eI i7))] ?_
      refine aJ (aV (aI (?_)))
      refine aT aH 3 ?_
      refine bB ?_
      exact aJ (aI (⟨rfl, _, (oI h1).symm, _, .eq (by kernel_rfl), hO⟩))
    refine aO ?_
    refine aT aH 10 ?_
    obtain ⟨c16, h1⟩ := bA h1
    refine nG [0 ≤ i7 ∧ i7 < (lN l0)] ⟨c16, trivial⟩ ?_
    refine bP [] [(31, (aK ((decide (t1 < (gD l0 i7))) && (!put6))))] ?_
    refine bF h1 (fun h1 => ?_) (fun h1 => ?_)
    · refine aO ?_
      refine aT aH 5 ?_
      refine bO 2 ?_
      refine mD (xs := [(eI t1)]) (k := 1) (by kernel_rfl) (by kernel_rfl) ?_
      obtain ⟨c19, h1⟩ := bA h1
      refine uG (e := (eI)) out5 ([t1]) 0 lo8 1 8 (fV [(eI t1)]) (fun lo18 => [(lo18, 1, List.map (eI) (out5 ++ ([t1])))]) (by kernel_rfl) (by kernel_rfl) hO (by kernel_rfl) (by kernel_rfl) c19 (fun _ => by kernel_rfl) ?_
      intro lo18 H hO
      refine bB ?_
      refine bP [5, 6, 31] [(5, (.msl 1 lo18 0 (List.length (out5 ++ ([t1])))))] ?_
      refine aT aH 1 ?_
      refine bB ?_
      exact aJ (aI (⟨rfl, _, _, _, .eq (by kernel_rfl), hO, h1⟩))
    refine bH ?_
    exact aJ (aI (⟨rfl, _, _, _, .eq (by kernel_rfl), hO, h1⟩))
  refine dG 0 ?_
  obtain rfl := oI h1
  obtain rfl : _ = rr0 := ho0
  replace h0 : pV t1 out5 put6 = some r := h0
  exact aJ (aR (aR (bL (aI (⟨rfl, _, _, _, .eq (by kernel_rfl), hO, h0⟩)))))

theorem QJ (dQ : (List Int)) (cW : (List Int)) (r : ((List aB) × Int)) (h0 : tW dQ cW = some r) : bR Try.prog 47 [(eL (eI) dQ), (eL (eI) cW)] (.tup [(eL aE r.1), (eI r.2)]) := by
  intro H0
  refine bY Try.func47 ?_
  have hO := aL.start H0
  unfold tW at h0
  refine aU aH 2 [] [] ?_
  refine aO ?_
  refine aT aH 2 ?_
  refine mD (xs := []) (k := 2) (by kernel_rfl) (by kernel_rfl) ?_
  refine bB ?_
  refine bP [] [(6, (.sl true 0 (fun _ => .bad)))] ?_
  refine aU aH 1 [] [(7, (eI (0 : Int)))] ?_
  refine cL (fun T H => ∃ f6 : List aB, ∃ lo1 : Nat, Has T [(6, (.msl 2 lo1 0 (List.length f6)))] ∧ aL ⟨H0, [], []⟩ H [(lo1, 2, List.map aE f6)] ∧ rR f6 = some r) ?_ ?_
  · clear hO h0
    rintro T H ⟨f6, lo1, hT, hO, h0⟩
    refine aZ hT ?_
    clear hT
    unfold rR at h0
    refine aO ?_
    refine aO ?_
    refine aT aH 3 ?_
    refine zS (e := aE) f6 0 6 2 lo1 (List.length f6) [] (by kernel_rfl) hO (by kernel_rfl) (by kernel_rfl) (by kernel_rfl) (by kernel_rfl) ?_
    intro H hO
    refine bO 1 ?_
    obtain ⟨x2, hx3, h0⟩ := aX h0
    refine cJ (HK f6 _ hx3) hO ?_
    intro H hO
    refine bB ?_
    refine bD [(6, (eL aE f6)), (42, (aK (!x2)))] ?_
    refine bF h0 (fun h0 => ?_) (fun h0 => ?_)
    · refine bM aH 2 [(4, (.sl true 0 (fun _ => .bad))), (5, (eI (7 : Int)))] ?_
      refine bE ?_
      refine cH (l := [(4, (eL aE ([]))), (5, (eI (7 : Int)))]) ⟨[(4, (.sl true 0 (fun _ => .bad))), (5, (eI (7 : Int)))], by kernel_rfl, rfl, ⟨dW, aS.refl _, trivial⟩⟩ ?_
      obtain rfl := oI h0
      exact aJ (aP (Q_r hO))
    refine bH ?_
    refine bD [(6, (eL aE f6))] ?_
    refine bM aH 3 [(4, (eL aE f6)), (5, (eI (0 : Int)))] ?_
    refine bE ?_
    obtain rfl := oI h0
    exact aJ (Q_r hO)
  refine aU aH 1 [] [(8, (eI (0 : Int)))] ?_
  refine bN 0 ?_
  refine cR [(0, (eL (eI) dQ)), (1, (eL (eI) cW)), (6, (.sl true 0 (fun _ => .bad))), (7, (eI (0 : Int))), (8, (eI (0 : Int)))] ?_
  refine zQ (el := (fun _ => .bad)) 2 6 2 hO (by kernel_rfl) ?_
  intro lo17 H18 hO
  refine cG (fun T H => ∃ f6 : List aB, ∃ was7 : Int, ∃ i8 : Int, ∃ lo7 : Nat, Has T [(0, (eL (eI) dQ)), (1, (eL (eI) cW)), (6, (.msl 2 lo7 0 (List.length f6))), (7, (eI was7)), (8, (eI i8))] ∧ aL ⟨H0, [], []⟩ H [(lo7, 2, List.map aE f6)] ∧ vT dQ cW f6 was7 i8 = some r) ?_ ⟨([] : List aB), (0 : Int), (0 : Int), lo17, .eq (by kernel_rfl), hO, h0⟩
  clear hO h0
  rintro T H ⟨f6, was7, i8, lo7, hT, hO, h0⟩
  refine aZ hT ?_
  clear hT
  unfold vT at h0
  obtain ⟨rr0, hl0, h0⟩ := aX h0
  refine bV (by kernel_rfl) (fun (s : List aB × Int × Int) T H => ∃ lo7 : Nat, Has T [(0, (eL (eI) dQ)), (1, (eL (eI) cW)), (6, (.msl 2 lo7 0 (List.length s.1))), (7, (eI s.2.1)), (8, (eI s.2.2))] ∧ aL ⟨H0, [], []⟩ H [(lo7, 2, List.map aE s.1)]) hl0 ⟨lo7, .eq (by kernel_rfl), hO⟩ ?_
  clear hO
  rintro k0 s out1 T H ⟨lo7, hT, hO⟩ h1 ho0
  obtain ⟨f6, was7, i8⟩ := s
  replace h1 : mR dQ cW f6 was7 i8 = some out1 := h1
  dsimp only at hT
  refine aZ hT ?_
  clear hT
  unfold mR at h1
  refine aO ?_
  refine aU aH 4 [] [(13, (aK (decide (i8 < (lN dQ)))))] ?_
  refine bF h1 (fun h1 => ?_) (fun h1 => ?_)
  · refine bH ?_
    refine bD [(0, (eL (eI) dQ)), (1, (eL (eI) cW)), (6, (.msl 2 lo7 0 (List.length f6))), (7, (eI was7)), (8, (eI i8))] ?_
    refine aO ?_
    refine bN 1 ?_
    refine cL (fun T H => ∃ f6 : List aB, ∃ lo9 : Nat, Has T [(0, (eL (eI) dQ)), (1, (eL (eI) cW)), (6, (.msl 2 lo9 0 (List.length f6))), (8, (eI i8))] ∧ aL ⟨H0, [], []⟩ H [(lo9, 2, List.map aE f6)] ∧ sD dQ cW f6 i8 = some out1) ?_ ?_
    · clear hO h1
      rintro T H ⟨f6, lo9, hT, hO, h1⟩
      refine aZ hT ?_
      clear hT
      unfold sD at h1
      refine aT aH 5 ?_
      obtain ⟨c10, h1⟩ := bA h1
      refine nG [0 ≤ i8 ∧ i8 < (lN cW)] ⟨c10, trivial⟩ ?_
      refine cY [(0, (eL (eI) dQ)), (1, (eL (eI) cW)), (6, (.msl 2 lo9 0 (List.length f6))), (7, (eI (gD cW i8))), (8, (eI i8))] ?_
      refine aJ (aV (aI (?_)))
      refine aT aH 3 ?_
      refine bB ?_
      exact aJ (aI (⟨rfl, _, (oI h1).symm, _, .eq (by kernel_rfl), hO⟩))
    refine aO ?_
    refine aT aH 6 ?_
    obtain ⟨c11, h1⟩ := bA h1
    refine nG [0 ≤ i8 ∧ i8 < (lN cW)] ⟨c11, trivial⟩ ?_
    refine bP [] [(21, (aK (!decide ((gD cW i8) = was7))))] ?_
    refine bF h1 (fun h1 => ?_) (fun h1 => ?_)
    · refine hU (hM [26, 30]) aH 15 ?_
      obtain ⟨c13, h1⟩ := bA h1
      obtain ⟨c14, h1⟩ := bA h1
      refine cV 12 [0 ≤ i8 ∧ i8 < (lN dQ), 0 ≤ i8 ∧ i8 < (lN cW)] ⟨c13, c14, trivial⟩ ?_
      refine DZ (xs := [(aE (aB.mk (gD dQ i8) (wR ((gD cW i8) - was7))))]) (k := 2) (by kernel_rfl) (by kernel_rfl) ?_
      obtain ⟨c16, h1⟩ := bA h1
      refine CY (e := aE) f6 ([aB.mk (gD dQ i8) (wR ((gD cW i8) - was7))]) 0 lo7 2 16 (fV [(aE (aB.mk (gD dQ i8) (wR ((gD cW i8) - was7))))]) (fun lo15 => [(lo15, 2, List.map aE (f6 ++ ([aB.mk (gD dQ i8) (wR ((gD cW i8) - was7))])))]) (by kernel_rfl) (by kernel_rfl) hO (by kernel_rfl) (by kernel_rfl) c16 (fun _ => by kernel_rfl) ?_
      intro lo15 H hO
      refine jN ?_
      exact aJ (aI (⟨rfl, _, _, .eq (by kernel_rfl), hO, h1⟩))
    refine bH ?_
    exact aJ (aI (⟨rfl, _, _, .eq (by kernel_rfl), hO, h1⟩))
  refine dG 0 ?_
  obtain rfl := oI h1
  obtain rfl : _ = rr0 := ho0
  replace h0 : rR f6 = some r := h0
  exact aJ (aR (aR (bL (aI (⟨rfl, _, _, .eq (by kernel_rfl), hO, h0⟩)))))

theorem RR (lo0p : Nat) (l0 : (List aC)) (r1 : (List aF)) (f2 : (List aB)) (r : (List aC)) (h0 : uY l0 r1 f2 = some r) : BY Try.prog 29 lo0p 3 (List.map aD l0) [(.msl 3 lo0p 0 (List.length l0)), (eL aG r1), (eL aE f2)] (fun lo => .msl 3 lo 0 (List.length r)) (List.map aD r) := by
  intro H0 hl0
  refine bY Try.func29 ?_
  have hO := aL.pI hl0
  clear hl0
  unfold uY at h0
  refine aU aH 1 [] [] ?_
  refine cL (fun T H => ∃ l0 : List aC, ∃ lo1 : Nat, Has T [(0, (.msl 3 lo1 0 (List.length l0)))] ∧ aL ⟨H0, [lo0p], []⟩ H [(lo1, 3, List.map aD l0)] ∧ xQ l0 = some r) ?_ ?_
  · clear hO h0
    rintro T H ⟨l0, lo1, hT, hO, h0⟩
    refine aZ hT ?_
    clear hT
    unfold xQ at h0
    refine bM aH 2 [(6, (.msl 3 lo1 0 (List.length l0)))] ?_
    refine bE ?_
    obtain rfl := oI h0
    exact aJ (oK (x := (.msl 3 lo1 0 (List.length l0))) (by kernel_rfl) (aS.refl _) ⟨lo1, rfl, hO⟩)
  refine aU aH 1 [] [(7, (eI (0 : Int)))] ?_
  refine bN 0 ?_
  refine cR [(0, (.msl 3 lo0p 0 (List.length l0))), (1, (eL aG r1)), (2, (eL aE f2)), (7, (eI (0 : Int)))] ?_
  refine cG (fun T H => ∃ l0 : List aC, ∃ i7 : Int, ∃ lo3 : Nat, Has T [(0, (.msl 3 lo3 0 (List.length l0))), (1, (eL aG r1)), (2, (eL aE f2)), (7, (eI i7))] ∧ aL ⟨H0, [lo0p], []⟩ H [(lo3, 3, List.map aD l0)] ∧ xO l0 r1 f2 i7 = some r) ?_ ⟨l0, (0 : Int), lo0p, .eq (by kernel_rfl), hO, h0⟩
  clear hO h0
  rintro T H ⟨l0, i7, lo3, hT, hO, h0⟩
  refine aZ hT ?_
  clear hT
  unfold xO at h0
  obtain ⟨rr0, hl0, h0⟩ := aX h0
  refine bV (by kernel_rfl) (fun (s : List aC × Int) T H => ∃ lo3 : Nat, Has T [(0, (.msl 3 lo3 0 (List.length s.1))), (1, (eL aG r1)), (2, (eL aE f2)), (7, (eI s.2))] ∧ aL ⟨H0, [lo0p], []⟩ H [(lo3, 3, List.map aD s.1)]) hl0 ⟨lo3, .eq (by kernel_rfl), hO⟩ ?_
  clear hO
  rintro k0 s out1 T H ⟨lo3, hT, hO⟩ h1 ho0
  obtain ⟨l0, i7⟩ := s
  replace h1 : nP r1 f2 l0 i7 = some out1 := h1
  dsimp only at hT
  refine aZ hT ?_
  clear hT
  unfold nP at h1
  refine aO ?_
  refine aU aH 4 [] [(11, (aK (decide (i7 < (lN f2)))))] ?_
  refine bF h1 (fun h1 => ?_) (fun h1 => ?_)
  · refine bH ?_
    refine bD [(0, (.msl 3 lo3 0 (List.length l0))), (1, (eL aG r1)), (2, (eL aE f2)), (7, (eI i7))] ?_
    refine aO ?_
    refine bN 1 ?_
    refine hU (hM [22, 27]) aH 18 ?_
    refine mT 1 ?_
    refine DZ (xs := []) (k := 3) (by kernel_rfl) (by kernel_rfl) ?_
    refine mT 3 ?_
    obtain ⟨c10, h1⟩ := bA h1
    refine aAB (e := aG) r1 (fun _ => .bad) 3 32 (eL aG r1) (by kernel_rfl) (by kernel_rfl) hO (DA (fun _ => by kernel_rfl)) c10 ?_
    intro H hO
    obtain ⟨c11, h1⟩ := bA h1
    obtain ⟨c12, h1⟩ := bA h1
    refine cV 15 [0 ≤ i7 ∧ i7 < (lN f2), 0 ≤ i7 ∧ i7 < (lN f2)] ⟨c11, c12, trivial⟩ ?_
    refine DZ (xs := [(aD (aC.mk r1 ((gD f2 i7).At) ((gD f2 i7).Net)))]) (k := 3) (by kernel_rfl) (by kernel_rfl) ?_
    obtain ⟨c14, h1⟩ := bA h1
    refine CY (e := aD) l0 ([aC.mk r1 ((gD f2 i7).At) ((gD f2 i7).Net)]) 0 lo3 3 40 (fV [(aD (aC.mk r1 ((gD f2 i7).At) ((gD f2 i7).Net)))]) (fun lo13 => [(lo13, 3, List.map aD (l0 ++ ([aC.mk r1 ((gD f2 i7).At) ((gD f2 i7).Net)])))]) (by kernel_rfl) (by kernel_rfl) hO (by kernel_rfl) (by kernel_rfl) c14 (fun _ => by kernel_rfl) ?_
    intro lo13 H hO
    refine jN ?_
    refine cY [(0, (.msl 3 lo13 0 (List.length (l0 ++ ([aC.mk r1 ((gD f2 i7).At) ((gD f2 i7).Net)]))))), (1, (eL aG r1)), (2, (eL aE f2)), (7, (eI i7))] ?_
    refine aJ (aV (aI (?_)))
    refine aT aH 3 ?_
    refine bB ?_
    exact aJ (aI (⟨rfl, _, (oI h1).symm, _, .eq (by kernel_rfl), hO⟩))
  refine dG 0 ?_
  obtain rfl := oI h1
  obtain rfl : _ = rr0 := ho0
  replace h0 : xQ l0 = some r := h0
  exact aJ (aR (aR (bL (aI (⟨rfl, _, _, .eq (by kernel_rfl), hO, h0⟩)))))

theorem RE (a0 : (List aC)) (b1 : (List aC)) (r : Bool) (h0 : tA a0 b1 = some r) : bR Try.prog 16 [(eL aD a0), (eL aD b1)] (aK r) := by
  intro H0
  refine bY Try.func16 ?_
  have hO := aL.start H0
  unfold tA at h0
  refine aU aH 1 [] [] ?_
  refine aO ?_
  refine aU aH 5 [] [(10, (aK (!decide ((lN a0) = (lN b1)))))] ?_
  refine bF h0 (fun h0 => ?_) (fun h0 => ?_)
  · refine bM aH 1 [(4, (aK false))] ?_
    refine bE ?_
    obtain rfl := oI h0
    exact aJ (aP (Q_r hO))
  refine bH ?_
  refine bD [(0, (eL aD a0)), (1, (eL aD b1))] ?_
  refine cL (fun T H => Has T [] ∧ aL ⟨H0, [], []⟩ H [] ∧ rN  = some r) ?_ ?_
  · clear hO h0
    rintro T H ⟨hT, hO, h0⟩
    refine aZ hT ?_
    clear hT
    unfold rN at h0
    refine bM aH 1 [(4, (aK true))] ?_
    refine bE ?_
    obtain rfl := oI h0
    exact aJ (Q_r hO)
  refine aU aH 1 [] [(5, (eI (0 : Int)))] ?_
  refine bN 0 ?_
  refine cR [(0, (eL aD a0)), (1, (eL aD b1)), (5, (eI (0 : Int)))] ?_
  refine cG (fun T H => ∃ i5 : Int, Has T [(0, (eL aD a0)), (1, (eL aD b1)), (5, (eI i5))] ∧ aL ⟨H0, [], []⟩ H [] ∧ wB a0 b1 i5 = some r) ?_ ⟨(0 : Int), .eq (by kernel_rfl), hO, h0⟩
  clear hO h0
  rintro T H ⟨i5, hT, hO, h0⟩
  refine aZ hT ?_
  clear hT
  unfold wB at h0
  obtain ⟨rr0, hl0, h0⟩ := aX h0
  refine bV (by kernel_rfl) (fun (s : Int) T H => Has T [(0, (eL aD a0)), (1, (eL aD b1)), (5, (eI s))] ∧ aL ⟨H0, [], []⟩ H []) hl0 ⟨.eq (by kernel_rfl), hO⟩ ?_
  clear hO
  rintro k0 s out1 T H ⟨hT, hO⟩ h1 ho0
  obtain ⟨i5, rfl⟩ : ∃ x, x = s := ⟨_, rfl⟩
  replace h1 : pU a0 b1 i5 = some out1 := h1
  refine aZ hT ?_
  clear hT
  unfold pU at h1
  refine aO ?_
  refine aU aH 4 [] [(14, (aK (decide (i5 < (lN a0)))))] ?_
  refine bF h1 (fun h1 => ?_) (fun h1 => ?_)
  · refine bH ?_
    refine bD [(0, (eL aD a0)), (1, (eL aD b1)), (5, (eI i5))] ?_
    refine aO ?_
    refine bN 1 ?_
    refine aO ?_
    obtain ⟨c3, h1⟩ := bA h1
    obtain ⟨c4, h1⟩ := bA h1
    obtain ⟨c5, h1⟩ := bA h1
    obtain ⟨c6, h1⟩ := bA h1
    obtain ⟨c7, h1⟩ := bA h1
    obtain ⟨c8, h1⟩ := bA h1
    obtain ⟨x9, hx10, h1⟩ := aX h1
    refine hU (hM [21, 26, 33, 38, 46, 51]) aH 38 ?_
    refine yH (K := fun T H => Has (lift T) [(0, (eL aD a0)), (1, (eL aD b1)), (5, (eI i5)), (54, (aK (((!decide (((gD a0 i5).At) = ((gD b1 i5).At))) || (!decide (((gD a0 i5).Net) = ((gD b1 i5).Net)))) || (!x9))))] ∧ aL ⟨H0, [], []⟩ H []) ?_ ?_
    · refine cV 12 [0 ≤ i5 ∧ i5 < (lN a0), 0 ≤ i5 ∧ i5 < (lN b1)] ⟨c3, c4, trivial⟩ ?_
      refine nS (t := 28) (e := !decide (((gD a0 i5).At) = ((gD b1 i5).At))) (by kernel_rfl) (fun hg11 => ?_) (fun hg11 => ?_)
      · refine jN ?_
        exact ⟨⟨[(0, (eL aD a0)), (1, (eL aD b1)), (5, (eI i5)), (54, (aK true))], by kernel_rfl, rfl, ⟨aS.refl _, aS.refl _, aS.refl _, aS.eq (by first | (simp only [aK, hg11, Bool.not_true, Bool.not_false, Bool.true_and, Bool.and_true, Bool.false_and, Bool.and_false, Bool.or_true, Bool.true_or, Bool.or_false, Bool.false_or, cond_true, cond_false]; done) | simp [aK, hg11]), trivial⟩⟩, hO⟩
      refine cV 25 [0 ≤ i5 ∧ i5 < (lN a0), 0 ≤ i5 ∧ i5 < (lN b1)] ⟨(c5 (BW hg11)), (c6 (BW hg11)), trivial⟩ ?_
      refine nS (t := 41) (e := !decide (((gD a0 i5).Net) = ((gD b1 i5).Net))) (by kernel_rfl) (fun hg12 => ?_) (fun hg12 => ?_)
      · refine jN ?_
        exact ⟨⟨[(0, (eL aD a0)), (1, (eL aD b1)), (5, (eI i5)), (54, (aK true))], by kernel_rfl, rfl, ⟨aS.refl _, aS.refl _, aS.refl _, aS.eq (by first | (simp only [aK, hg11, hg12, Bool.not_true, Bool.not_false, Bool.true_and, Bool.and_true, Bool.false_and, Bool.and_false, Bool.or_true, Bool.true_or, Bool.or_false, Bool.false_or, cond_true, cond_false]; done) | simp [aK, hg11, hg12]), trivial⟩⟩, hO⟩
      refine cV 35 [0 ≤ i5 ∧ i5 < (lN a0), 0 ≤ i5 ∧ i5 < (lN b1)] ⟨(c7 (BW (QE hg11 hg12))), (c8 (BW (QE hg11 hg12))), trivial⟩ ?_
      refine qT 48 [(eL aG ((gD a0 i5).Row)), (eL aG ((gD b1 i5).Row))] (aK x9) (by kernel_rfl) (by kernel_rfl) (BF ((gD a0 i5).Row) ((gD b1 i5).Row) _ (jO hx10 (BW (QE hg11 hg12)))) hO ?_
      intro H hO
      refine jN ?_
      exact ⟨⟨[(0, (eL aD a0)), (1, (eL aD b1)), (5, (eI i5)), (54, (aK (!x9)))], by kernel_rfl, rfl, ⟨aS.refl _, aS.refl _, aS.refl _, aS.eq (by first | (simp only [aK, hg11, hg12, Bool.not_true, Bool.not_false, Bool.true_and, Bool.and_true, Bool.false_and, Bool.and_false, Bool.or_true, Bool.true_or, Bool.or_false, Bool.false_or, cond_true, cond_false]; done) | simp [aK, hg11, hg12]), trivial⟩⟩, hO⟩
    · rintro T H ⟨hT, hO⟩
      refine cH hT ?_
      clear hT
      refine aJ (aI ?_)
      refine bF h1 (fun h1 => ?_) (fun h1 => ?_)
      · refine bM aH 1 [(4, (aK false))] ?_
        refine bE ?_
        obtain rfl := oI h1
        obtain rfl : _ = rr0 := ho0
        replace h0 : some false = some r := h0
        obtain rfl := oI h0
        exact aJ (bJ (aP (aP (bJ (aP (Q_r hO))))))
      refine bH ?_
      refine cY [(0, (eL aD a0)), (1, (eL aD b1)), (5, (eI i5))] ?_
      refine aJ (aV (aI (?_)))
      refine aT aH 3 ?_
      refine bB ?_
      exact aJ (aI (⟨rfl, _, (oI h1).symm, .eq (by kernel_rfl), hO⟩))
  refine dG 0 ?_
  obtain rfl := oI h1
  obtain rfl : _ = rr0 := ho0
  replace h0 : rN  = some r := h0
  exact aJ (aR (aR (bL (aI (⟨rfl, .eq (by kernel_rfl), hO, h0⟩)))))

theorem HG (t0 : Int) (r : Bool) (h0 : uZ t0 = some r) : bR Try.prog 110 [(eI t0)] (aK r) := by
  intro H0
  refine bY Try.func110 ?_
  have hO := aL.start H0
  unfold uZ at h0
  refine aU aH 1 [] [] ?_
  refine bM aH 7 [(2, (aK ((decide ((0 : Int) ≤ t0)) && (decide (t0 ≤ (1125899906842624 : Int))))))] ?_
  refine bE ?_
  obtain rfl := oI h0
  exact aJ (Q_r hO)

theorem UN (s0 : dS) (r : Bool) (h0 : yG s0 = some r) : bR Try.prog 81 [(eJ s0)] (aK r) := by
  intro H0
  refine bY Try.func81 ?_
  have hO := aL.start H0
  unfold yG at h0
  refine aO ?_
  refine aT aH 2 ?_
  refine eX 2 (eJ s0) (by kernel_rfl) (by kernel_rfl) ?_
  refine bB ?_
  refine bD [(1, (.rp (eJ s0)))] ?_
  refine aO ?_
  refine aT aH 16 ?_
  refine bO 2 ?_
  obtain ⟨x1, hx2, h0⟩ := aX h0
  refine cJ (HG s0.From _ hx2) hO ?_
  intro H hO
  refine bO 6 ?_
  obtain ⟨x4, hx5, h0⟩ := aX h0
  refine mG [(6, true)] 110 [(eI s0.To)] (aK x4) x1 (by kernel_rfl) (by kernel_rfl) (by kernel_rfl) (fun hb6 => (HG s0.To _ (jO hx5 hb6))) hO ?_
  intro H hO
  refine bB ?_
  refine bD [(2, (aK ((x1 && x4) && (decide (s0.From < s0.To)))))] ?_
  refine bE ?_
  obtain rfl := oI h0
  exact aJ (Q_r hO)

theorem GA (r0 : (List aF)) (s1 : dS) (r : ((List aC) × Int)) (h0 : tX r0 s1 = some r) : bR Try.prog 39 [(eL aG r0), (eJ s1)] (.tup [(eL aD r.1), (eI r.2)]) := by
  intro H0
  refine bY Try.func39 ?_
  have hO := aL.start H0
  unfold tX at h0
  refine aO ?_
  refine aT aH 3 ?_
  refine eX 2 (eJ s1) (by kernel_rfl) (by kernel_rfl) ?_
  refine bB ?_
  refine bP [1] [(3, (.rp (eJ s1)))] ?_
  refine aO ?_
  refine bN 0 ?_
  refine aO ?_
  refine aT aH 4 ?_
  refine bO 1 ?_
  obtain ⟨x1, hx2, h0⟩ := aX h0
  refine cJ (wV r0 _ hx2) hO ?_
  intro H hO
  refine bB ?_
  refine bP [] [(6, (aK (!x1)))] ?_
  refine bF h0 (fun h0 => ?_) (fun h0 => ?_)
  · refine bM aH 2 [(4, (.sl true 0 (fun _ => .bad))), (5, (eI (2 : Int)))] ?_
    refine bE ?_
    refine cH (l := [(4, (eL aD ([]))), (5, (eI (2 : Int)))]) ⟨[(4, (.sl true 0 (fun _ => .bad))), (5, (eI (2 : Int)))], by kernel_rfl, rfl, ⟨dW, aS.refl _, trivial⟩⟩ ?_
    obtain rfl := oI h0
    exact aJ (bJ (aP (Q_r hO)))
  refine aO ?_
  refine aT aH 4 ?_
  refine bO 1 ?_
  obtain ⟨x5, hx6, h0⟩ := aX h0
  refine cJ (UN s1 _ hx6) hO ?_
  intro H hO
  refine bB ?_
  refine bP [6] [(10, (aK (!x5)))] ?_
  refine bF h0 (fun h0 => ?_) (fun h0 => ?_)
  · refine bM aH 2 [(4, (.sl true 0 (fun _ => .bad))), (5, (eI (14 : Int)))] ?_
    refine bE ?_
    refine cH (l := [(4, (eL aD ([]))), (5, (eI (14 : Int)))]) ⟨[(4, (.sl true 0 (fun _ => .bad))), (5, (eI (14 : Int)))], by kernel_rfl, rfl, ⟨dW, aS.refl _, trivial⟩⟩ ?_
    obtain rfl := oI h0
    exact aJ (bJ (aP (Q_r hO)))
  refine bH ?_
  refine cY [(0, (eL aG r0)), (3, (.rp (eJ s1)))] ?_
  refine aJ (aV (aI (?_)))
  refine aO ?_
  refine aT aH 14 ?_
  refine bO 8 ?_
  refine mD (xs := [(aD (aC.mk r0 s1.From (1 : Int))), (aD (aC.mk r0 s1.To (-1 : Int)))]) (k := 3) (by kernel_rfl) (by kernel_rfl) ?_
  obtain ⟨x9, hx10, h0⟩ := aX h0
  refine YT 23 [(fV [(aD (aC.mk r0 s1.From (1 : Int))), (aD (aC.mk r0 s1.To (-1 : Int)))])] (.tup [(eL aD x9.1), (eI x9.2)]) (bR.sub (HN ([aC.mk r0 s1.From (1 : Int), aC.mk r0 s1.To (-1 : Int)]) _ hx10) ⟨FH (l := [aC.mk r0 s1.From (1 : Int), aC.mk r0 s1.To (-1 : Int)]), trivial⟩) hO ?_
  intro H hO
  refine bB ?_
  refine bD [(4, (eL aD x9.1)), (5, (eI x9.2))] ?_
  refine bE ?_
  obtain rfl := oI h0
  exact aJ (Q_r hO)

theorem xB (n1 : Int) (r : (List aC)) (h0 : fH n1 = some r) : zC Try.prog 107 [(.sl true 0 (fun _ => .bad)), (eI n1)] (fun lo => (.msl 3 lo 0 (List.length r))) 3 (List.map aD r) := by
  intro H0
  refine bY Try.func107 ?_
  have hO := aL.start H0
  unfold fH at h0
  refine aU aH 1 [] [] ?_
  refine aO ?_
  refine aU aH 2 [] [(6, (aK (decide (n1 < (0 : Int)))))] ?_
  refine bF h0 (fun h0 => ?_) (fun h0 => ?_)
  · cases h0
  refine bH ?_
  refine bD [(0, (.sl true 0 (fun _ => .bad))), (1, (eI n1))] ?_
  refine cL (fun T H => ∃ s0 : List aC, ∃ lo2 : Nat, Has T [(0, (.msl 3 lo2 0 (List.length s0)))] ∧ aL ⟨H0, [], []⟩ H [(lo2, 3, List.map aD s0)] ∧ iO s0 = some r) ?_ ?_
  · clear hO h0
    rintro T H ⟨s0, lo2, hT, hO, h0⟩
    refine aZ hT ?_
    clear hT
    unfold iO at h0
    refine bM aH 2 [(4, (.msl 3 lo2 0 (List.length s0)))] ?_
    refine bE ?_
    obtain rfl := oI h0
    exact aJ (oK (x := (.msl 3 lo2 0 (List.length s0))) (by kernel_rfl) (aS.refl _) ⟨lo2, rfl, hO⟩)
  refine aU aH 8 [1] [(1, (eI (wR (n1 - (wR ((0 : Int) - ((0 : Nat) : Int)))))))] ?_
  refine aU aH 2 [] [(16, (aK (decide ((0 : Int) < (wR (n1 - (wR ((0 : Int) - ((0 : Nat) : Int)))))))))] ?_
  refine bF h0 (fun h0 => ?_) (fun h0 => ?_)
  · refine aT aH 10 ?_
    obtain ⟨c4, h0⟩ := bA h0
    refine oG 5 [0 ≤ (0 : Int) ∧ (0 : Int) ≤ ((0 : Nat) : Int)] ⟨c4, trivial⟩ ?_
    obtain ⟨c5, h0⟩ := bA h0
    refine UW 3 40 (wR (n1 - (wR ((0 : Int) - ((0 : Nat) : Int))))) (by kernel_rfl) (by kernel_rfl) c5 hO ?_
    intro lo6 H hO
    obtain ⟨c7, h0⟩ := bA h0
    refine nG [0 ≤ ((0 : Nat) : Int) ∧ ((0 : Nat) : Int) ≤ (((Int.toNat (wR (n1 - (wR ((0 : Int) - ((0 : Nat) : Int)))))) : Nat) : Int)] ⟨c7, trivial⟩ ?_
    exact aJ (aI (⟨rfl, ([] : List aC), _, .eq (by kernel_rfl), hO, h0⟩))
  refine bH ?_
  refine cY [(0, (.sl true 0 (fun _ => .bad)))] ?_
  refine QL (el := (fun _ => .bad)) 0 0 3 hO (by kernel_rfl) ?_
  intro lo8 H9 hO
  exact aJ (aI (⟨rfl, ([] : List aC), _, .eq (by kernel_rfl), hO, h0⟩))

theorem vM (cZ : (List (List aC))) (r : (List aC)) (h0 : eO cZ = some r) : bR Try.prog 79 [(eL (eL aD) cZ)] (eL aD r) := by
  intro H0
  refine bY Try.func79 ?_
  have hO := aL.start H0
  unfold eO at h0
  refine aU aH 1 [] [] ?_
  refine aU aH 1 [] [(3, (eI (0 : Int)))] ?_
  refine cL (fun T H => ∃ lV : Int, Has T [(0, (eL (eL aD) cZ)), (3, (eI lV))] ∧ aL ⟨H0, [], []⟩ H [] ∧ eD cZ lV = some r) ?_ ?_
  · clear hO h0
    rintro T H ⟨lV, hT, hO, h0⟩
    refine aZ hT ?_
    clear hT
    unfold eD at h0
    refine aO ?_
    refine aT aH 3 ?_
    refine bO 1 ?_
    obtain ⟨x1, hx2, h0⟩ := aX h0
    refine KS (L' := fun lo3 => [(lo3, 3, List.map aD x1)]) 3 (List.map aD x1) 107 [(.sl true 0 (fun _ => .bad)), (eI lV)] (fun lo3 => (.msl 3 lo3 0 (List.length x1))) (by kernel_rfl) (by kernel_rfl) (xB lV _ hx2) hO (fun _ => by kernel_rfl) ?_
    intro lo3 H hO
    refine bB ?_
    refine bP [3] [(6, (.msl 3 lo3 0 (List.length x1)))] ?_
    refine cL (fun T H => ∃ cT : List aC, ∃ lo4 : Nat, Has T [(6, (.msl 3 lo4 0 (List.length cT)))] ∧ aL ⟨H0, [], []⟩ H [(lo4, 3, List.map aD cT)] ∧ eC cT = some r) ?_ ?_
    · clear hO h0
      rintro T H ⟨cT, lo4, hT, hO, h0⟩
      refine aZ hT ?_
      clear hT
      unfold eC at h0
      refine bM aH 2 [(2, (.msl 3 lo4 0 (List.length cT)))] ?_
      refine bE ?_
      refine cY [(2, (.msl 3 lo4 0 (List.length cT)))] ?_
      refine wQ (en := aD) cT 0 0 2 3 lo4 (List.length cT) hO (by kernel_rfl) (by kernel_rfl) (by kernel_rfl) (L' := []) (by kernel_rfl) ?_
      intro H5 hO
      obtain rfl := oI h0
      exact aJ (Q_r hO)
    refine aU aH 3 [0] [(25, (eL (eL aD) cZ)), (26, (eI (lN cZ))), (27, (eI (0 : Int)))] ?_
    refine bN 2 ?_
    refine cR [(6, (.msl 3 lo3 0 (List.length x1))), (25, (eL (eL aD) cZ)), (26, (eI (lN cZ))), (27, (eI (0 : Int)))] ?_
    refine cG (fun T H => ∃ cT : List aC, ∃ t25 : (List (List aC)), ∃ t26 : Int, ∃ t27 : Int, ∃ lo7 : Nat, Has T [(6, (.msl 3 lo7 0 (List.length cT))), (25, (eL (eL aD) t25)), (26, (eI t26)), (27, (eI t27))] ∧ aL ⟨H0, [], []⟩ H [(lo7, 3, List.map aD cT)] ∧ gV cT t25 t26 t27 = some r) ?_ ⟨x1, cZ, (lN cZ), (0 : Int), lo3, .eq (by kernel_rfl), hO, h0⟩
    clear hO h0
    rintro T H ⟨cT, t25, t26, t27, lo7, hT, hO, h0⟩
    refine aZ hT ?_
    clear hT
    unfold gV at h0
    obtain ⟨rr0, hl0, h0⟩ := aX h0
    refine bV (by kernel_rfl) (fun (s : List aC × Int) T H => ∃ lo7 : Nat, Has T [(6, (.msl 3 lo7 0 (List.length s.1))), (25, (eL (eL aD) t25)), (26, (eI t26)), (27, (eI s.2))] ∧ aL ⟨H0, [], []⟩ H [(lo7, 3, List.map aD s.1)]) hl0 ⟨lo7, .eq (by kernel_rfl), hO⟩ ?_
    clear hO
    rintro k0 s out1 T H ⟨lo7, hT, hO⟩ h1 ho0
    obtain ⟨cT, t27⟩ := s
    replace h1 : cE t25 t26 cT t27 = some out1 := h1
    dsimp only at hT
    refine aZ hT ?_
    clear hT
    unfold cE at h1
    refine aU aH 1 [] [(28, (aK (decide (t27 < t26))))] ?_
    refine aO ?_
    refine bF h1 (fun h1 => ?_) (fun h1 => ?_)
    · refine bH ?_
      refine bD [(6, (.msl 3 lo7 0 (List.length cT))), (25, (eL (eL aD) t25)), (26, (eI t26)), (27, (eI t27))] ?_
      refine aO ?_
      refine bN 3 ?_
      refine aO ?_
      refine aT aH 3 ?_
      obtain ⟨c9, h1⟩ := bA h1
      refine nG [0 ≤ t27 ∧ t27 < (lN t25)] ⟨c9, trivial⟩ ?_
      refine bP [] [(8, (eL aD (gD t25 t27)))] ?_
      refine aT aH 4 ?_
      refine bO 2 ?_
      obtain ⟨c11, h1⟩ := bA h1
      refine uG (e := aD) cT (gD t25 t27) 0 lo7 3 40 (eL aD (gD t25 t27)) (fun lo10 => [(lo10, 3, List.map aD (cT ++ (gD t25 t27)))]) (by kernel_rfl) (by kernel_rfl) hO (by kernel_rfl) (DA (fun _ => by kernel_rfl)) c11 (fun _ => by kernel_rfl) ?_
      intro lo10 H hO
      refine bB ?_
      refine cY [(6, (.msl 3 lo10 0 (List.length (cT ++ (gD t25 t27))))), (25, (eL (eL aD) t25)), (26, (eI t26)), (27, (eI t27))] ?_
      refine aJ (aV (aI (?_)))
      refine aT aH 2 ?_
      refine bB ?_
      exact aJ (aI (⟨rfl, _, (oI h1).symm, _, .eq (by kernel_rfl), hO⟩))
    refine dG 2 ?_
    obtain rfl := oI h1
    obtain rfl : _ = rr0 := ho0
    replace h0 : eC cT = some r := h0
    exact aJ (aR (aR (bL (aI (⟨rfl, _, _, .eq (by kernel_rfl), hO, h0⟩)))))
  refine aU aH 3 [] [(9, (eL (eL aD) cZ)), (10, (eI (lN cZ))), (11, (eI (0 : Int)))] ?_
  refine bN 0 ?_
  refine cR [(0, (eL (eL aD) cZ)), (3, (eI (0 : Int))), (9, (eL (eL aD) cZ)), (10, (eI (lN cZ))), (11, (eI (0 : Int)))] ?_
  refine cG (fun T H => ∃ lV : Int, ∃ t9 : (List (List aC)), ∃ t10 : Int, ∃ t11 : Int, Has T [(0, (eL (eL aD) cZ)), (3, (eI lV)), (9, (eL (eL aD) t9)), (10, (eI t10)), (11, (eI t11))] ∧ aL ⟨H0, [], []⟩ H [] ∧ gJ cZ lV t9 t10 t11 = some r) ?_ ⟨(0 : Int), cZ, (lN cZ), (0 : Int), .eq (by kernel_rfl), hO, h0⟩
  clear hO h0
  rintro T H ⟨lV, t9, t10, t11, hT, hO, h0⟩
  refine aZ hT ?_
  clear hT
  unfold gJ at h0
  obtain ⟨rr0, hl0, h0⟩ := aX h0
  refine bV (by kernel_rfl) (fun (s : Int × Int) T H => Has T [(0, (eL (eL aD) cZ)), (3, (eI s.1)), (9, (eL (eL aD) t9)), (10, (eI t10)), (11, (eI s.2))] ∧ aL ⟨H0, [], []⟩ H []) hl0 ⟨.eq (by kernel_rfl), hO⟩ ?_
  clear hO
  rintro k0 s out1 T H ⟨hT, hO⟩ h1 ho0
  obtain ⟨lV, t11⟩ := s
  replace h1 : cD cZ t9 t10 lV t11 = some out1 := h1
  dsimp only at hT
  refine aZ hT ?_
  clear hT
  unfold cD at h1
  refine aU aH 1 [] [(12, (aK (decide (t11 < t10))))] ?_
  refine aO ?_
  refine bF h1 (fun h1 => ?_) (fun h1 => ?_)
  · refine bH ?_
    refine bD [(0, (eL (eL aD) cZ)), (3, (eI lV)), (9, (eL (eL aD) t9)), (10, (eI t10)), (11, (eI t11))] ?_
    refine aO ?_
    refine bN 1 ?_
    refine aO ?_
    refine aT aH 3 ?_
    obtain ⟨c13, h1⟩ := bA h1
    refine nG [0 ≤ t11 ∧ t11 < (lN t9)] ⟨c13, trivial⟩ ?_
    refine bP [] [(5, (eL aD (gD t9 t11)))] ?_
    refine aU aH 5 [3, 5] [(3, (eI (wR (lV + (lN (gD t9 t11))))))] ?_
    refine aU aH 2 [] [(20, (aK (decide ((wR (lV + (lN (gD t9 t11)))) < (0 : Int)))))] ?_
    refine bF h1 (fun h1 => ?_) (fun h1 => ?_)
    · cases h1
    refine bH ?_
    refine cY [(0, (eL (eL aD) cZ)), (3, (eI (wR (lV + (lN (gD t9 t11)))))), (9, (eL (eL aD) t9)), (10, (eI t10)), (11, (eI t11))] ?_
    refine aJ (aV (aI (?_)))
    refine aT aH 2 ?_
    refine bB ?_
    exact aJ (aI (⟨rfl, _, (oI h1).symm, .eq (by kernel_rfl), hO⟩))
  refine dG 0 ?_
  obtain rfl := oI h1
  obtain rfl : _ = rr0 := ho0
  replace h0 : eD cZ lV = some r := h0
  exact aJ (aR (aR (bL (aI (⟨rfl, _, .eq (by kernel_rfl), hO, h0⟩)))))

theorem UT (a0 : (List aC)) (b1 : (List aC)) (r : ((List aC) × Int)) (h0 : yB a0 b1 = some r) : bR Try.prog 37 [(eL aD a0), (eL aD b1)] (.tup [(eL aD r.1), (eI r.2)]) := by
  intro H0
  refine bY Try.func37 ?_
  have hO := aL.start H0
  unfold yB at h0
  refine aU aH 2 [] [] ?_
  refine aO ?_
  refine aO ?_
  refine aT aH 8 ?_
  refine bO 1 ?_
  obtain ⟨x1, hx2, h0⟩ := aX h0
  refine cJ (AO a0 _ hx2) hO ?_
  intro H hO
  refine bO 5 ?_
  obtain ⟨x4, hx5, h0⟩ := aX h0
  refine mG [(9, false)] 25 [(eL aD b1)] (aK x4) (!(!x1)) (by kernel_rfl) (by kernel_rfl) (by kernel_rfl) (fun hb6 => (AO b1 _ (jO hx5 hb6))) hO ?_
  intro H hO
  refine bB ?_
  refine bP [] [(13, (aK ((!x1) || (!x4))))] ?_
  refine bF h0 (fun h0 => ?_) (fun h0 => ?_)
  · refine bM aH 2 [(4, (.sl true 0 (fun _ => .bad))), (5, (eI (2 : Int)))] ?_
    refine bE ?_
    refine cH (l := [(4, (eL aD ([]))), (5, (eI (2 : Int)))]) ⟨[(4, (.sl true 0 (fun _ => .bad))), (5, (eI (2 : Int)))], by kernel_rfl, rfl, ⟨dW, aS.refl _, trivial⟩⟩ ?_
    obtain rfl := oI h0
    exact aJ (aP (Q_r hO))
  refine bH ?_
  refine bD [(0, (eL aD a0)), (1, (eL aD b1))] ?_
  refine aO ?_
  refine aT aH 9 ?_
  refine bO 2 ?_
  refine mD (xs := [(eL aD a0), (eL aD b1)]) (k := 1) (by kernel_rfl) (by kernel_rfl) ?_
  obtain ⟨x8, hx9, h0⟩ := aX h0
  refine YT 79 [(fV [(eL aD a0), (eL aD b1)])] (eL aD x8) (bR.sub (vM ([a0, b1]) _ hx9) ⟨FH (l := [a0, b1]), trivial⟩) hO ?_
  intro H hO
  obtain ⟨x11, hx12, h0⟩ := aX h0
  refine cJ (HN x8 _ hx12) hO ?_
  intro H hO
  refine bB ?_
  refine bD [(4, (eL aD x11.1)), (5, (eI x11.2))] ?_
  refine bE ?_
  obtain rfl := oI h0
  exact aJ (Q_r hO)

theorem PY  (r : Bool) (h0 : tK  = some r) : bR Try.prog 22 [] (aK r) := by
  intro H0
  refine bY Try.func22 ?_
  have hO := aL.start H0
  unfold tK at h0
  refine bM aH 1 [] ?_
  refine aO ?_
  refine aT aH 3 ?_
  refine bO 1 ?_
  refine mD (xs := [(aG (aF.mk (1 : Int) (1 : Int) ByteArray.empty))]) (k := 3) (by kernel_rfl) (by kernel_rfl) ?_
  refine bB ?_
  refine cH (l := [(1, (eL aG ([aF.mk (1 : Int) (1 : Int) ByteArray.empty])))]) ⟨[(1, (fV [(aG (aF.mk (1 : Int) (1 : Int) ByteArray.empty))]))], by kernel_rfl, rfl, ⟨FH (l := [aF.mk (1 : Int) (1 : Int) ByteArray.empty]), trivial⟩⟩ ?_
  refine aJ (aI (?_))
  refine aO ?_
  refine aT aH 8 ?_
  refine bO 2 ?_
  obtain ⟨x1, hx2, h0⟩ := aX h0
  refine cJ (GA ([aF.mk (1 : Int) (1 : Int) ByteArray.empty]) (dS.mk (2 : Int) (5 : Int)) _ hx2) hO ?_
  intro H hO
  refine bB ?_
  refine bP [] [(2, (eL aD x1.1)), (3, (eI x1.2))] ?_
  refine aO ?_
  refine aT aH 8 ?_
  refine bO 2 ?_
  obtain ⟨x4, hx5, h0⟩ := aX h0
  refine cJ (GA ([aF.mk (1 : Int) (1 : Int) ByteArray.empty]) (dS.mk (5 : Int) (9 : Int)) _ hx5) hO ?_
  intro H hO
  refine bB ?_
  refine bP [1] [(4, (eL aD x4.1)), (5, (eI x4.2))] ?_
  refine aO ?_
  refine aT aH 8 ?_
  refine bO 2 ?_
  obtain ⟨x7, hx8, h0⟩ := aX h0
  refine cJ (UT x1.1 x4.1 _ hx8) hO ?_
  intro H hO
  refine bB ?_
  refine bP [4] [(6, (eL aD x7.1)), (7, (eI x7.2))] ?_
  refine aO ?_
  refine aT aH 56 ?_
  obtain ⟨c10, h0⟩ := bA h0
  obtain ⟨c11, h0⟩ := bA h0
  obtain ⟨c12, h0⟩ := bA h0
  obtain ⟨c13, h0⟩ := bA h0
  refine oG 50 [(((((((decide (x1.2 = (0 : Int))) && (decide (x4.2 = (0 : Int)))) && (decide (x7.2 = (0 : Int)))) && (decide ((lN x1.1) = (2 : Int)))) && (decide ((lN x7.1) = (2 : Int))))) = true → 0 ≤ (0 : Int) ∧ (0 : Int) < (lN x7.1)), ((((((((decide (x1.2 = (0 : Int))) && (decide (x4.2 = (0 : Int)))) && (decide (x7.2 = (0 : Int)))) && (decide ((lN x1.1) = (2 : Int)))) && (decide ((lN x7.1) = (2 : Int)))) && (decide (((gD x7.1 (0 : Int)).At) = (2 : Int))))) = true → 0 ≤ (0 : Int) ∧ (0 : Int) < (lN x7.1)), (((((((((decide (x1.2 = (0 : Int))) && (decide (x4.2 = (0 : Int)))) && (decide (x7.2 = (0 : Int)))) && (decide ((lN x1.1) = (2 : Int)))) && (decide ((lN x7.1) = (2 : Int)))) && (decide (((gD x7.1 (0 : Int)).At) = (2 : Int)))) && (decide (((gD x7.1 (0 : Int)).Net) = (1 : Int))))) = true → 0 ≤ (1 : Int) ∧ (1 : Int) < (lN x7.1)), ((((((((((decide (x1.2 = (0 : Int))) && (decide (x4.2 = (0 : Int)))) && (decide (x7.2 = (0 : Int)))) && (decide ((lN x1.1) = (2 : Int)))) && (decide ((lN x7.1) = (2 : Int)))) && (decide (((gD x7.1 (0 : Int)).At) = (2 : Int)))) && (decide (((gD x7.1 (0 : Int)).Net) = (1 : Int)))) && (decide (((gD x7.1 (1 : Int)).At) = (9 : Int))))) = true → 0 ≤ (1 : Int) ∧ (1 : Int) < (lN x7.1))] ⟨c10, c11, c12, c13, trivial⟩ ?_
  obtain ⟨x14, hx15, h0⟩ := aX h0
  refine mG [(76, true)] 17 [(eL aD x7.1)] (aK x14) (((((((((decide (x1.2 = (0 : Int))) && (decide (x4.2 = (0 : Int)))) && (decide (x7.2 = (0 : Int)))) && (decide ((lN x1.1) = (2 : Int)))) && (decide ((lN x7.1) = (2 : Int)))) && (decide (((gD x7.1 (0 : Int)).At) = (2 : Int)))) && (decide (((gD x7.1 (0 : Int)).Net) = (1 : Int)))) && (decide (((gD x7.1 (1 : Int)).At) = (9 : Int)))) && (decide (((gD x7.1 (1 : Int)).Net) = (-1 : Int)))) (by kernel_rfl) (by kernel_rfl) (by kernel_rfl) (fun hb16 => (GK x7.1 _ (jO hx15 hb16))) hO ?_
  intro H hO
  refine bO 53 ?_
  obtain ⟨x17, hx18, h0⟩ := aX h0
  refine mG [(80, true)] 25 [(.sl true 0 (fun _ => .bad))] (aK x17) ((((((((((decide (x1.2 = (0 : Int))) && (decide (x4.2 = (0 : Int)))) && (decide (x7.2 = (0 : Int)))) && (decide ((lN x1.1) = (2 : Int)))) && (decide ((lN x7.1) = (2 : Int)))) && (decide (((gD x7.1 (0 : Int)).At) = (2 : Int)))) && (decide (((gD x7.1 (0 : Int)).Net) = (1 : Int)))) && (decide (((gD x7.1 (1 : Int)).At) = (9 : Int)))) && (decide (((gD x7.1 (1 : Int)).Net) = (-1 : Int)))) && x14) (by kernel_rfl) (by kernel_rfl) (by kernel_rfl) (fun hb19 => (bR.sub (AO ([]) _ (jO hx18 hb19)) ⟨dW, trivial⟩)) hO ?_
  intro H hO
  refine bB ?_
  refine bD [(0, (aK (((((((((((decide (x1.2 = (0 : Int))) && (decide (x4.2 = (0 : Int)))) && (decide (x7.2 = (0 : Int)))) && (decide ((lN x1.1) = (2 : Int)))) && (decide ((lN x7.1) = (2 : Int)))) && (decide (((gD x7.1 (0 : Int)).At) = (2 : Int)))) && (decide (((gD x7.1 (0 : Int)).Net) = (1 : Int)))) && (decide (((gD x7.1 (1 : Int)).At) = (9 : Int)))) && (decide (((gD x7.1 (1 : Int)).Net) = (-1 : Int)))) && x14) && x17)))] ?_
  refine bE ?_
  obtain rfl := oI h0
  exact aJ (Q_r hO)

end Go.Abs
namespace Go.Abs
open Go Go.RowKit Go.Proofs
theorem OI (l0 : (List aB)) (r : ((List aB) × Int)) (h0 : tU l0 = some r) : bR Try.prog 66 [(eL aE l0)] (.tup [(eL aE r.1), (eI r.2)]) := by
  intro H0
  refine bY Try.func66 ?_
  have hO := aL.start H0
  unfold tU at h0
  refine aU aH 2 [] [] ?_
  refine cL (fun T H => Has T [(0, (eL aE l0))] ∧ aL ⟨H0, [], []⟩ H [] ∧ sC l0 = some r) ?_ ?_
  · clear hO h0
    rintro T H ⟨hT, hO, h0⟩
    refine aZ hT ?_
    clear hT
    unfold sC at h0
    refine aO ?_
    refine aT aH 2 ?_
    refine mD (xs := []) (k := 1) (by kernel_rfl) (by kernel_rfl) ?_
    refine bB ?_
    refine bP [] [(5, (.sl true 0 (fun _ => .bad)))] ?_
    refine cL (fun T H => ∃ bZ : (List Int), Has T [(0, (eL aE l0)), (5, (eL (eI) bZ))] ∧ aL ⟨H0, [], []⟩ H [] ∧ sJ l0 bZ = some r) ?_ ?_
    · clear hO h0
      rintro T H ⟨bZ, hT, hO, h0⟩
      refine aZ hT ?_
      clear hT
      unfold sJ at h0
      refine aO ?_
      refine aT aH 2 ?_
      refine mD (xs := []) (k := 1) (by kernel_rfl) (by kernel_rfl) ?_
      refine bB ?_
      refine bP [] [(7, (.sl true 0 (fun _ => .bad)))] ?_
      refine cL (fun T H => ∃ eG : List Int, ∃ lo1 : Nat, Has T [(5, (eL (eI) bZ)), (7, (.msl 1 lo1 0 (List.length eG)))] ∧ aL ⟨H0, [], []⟩ H [(lo1, 1, List.map (eI) eG)] ∧ rK bZ eG = some r) ?_ ?_
      · clear hO h0
        rintro T H ⟨eG, lo1, hT, hO, h0⟩
        refine aZ hT ?_
        clear hT
        unfold rK at h0
        refine aO ?_
        refine aT aH 7 ?_
        refine zS (e := (eI)) eG 0 7 1 lo1 (List.length eG) [] (by kernel_rfl) hO (by kernel_rfl) (by kernel_rfl) (by kernel_rfl) (by kernel_rfl) ?_
        intro H hO
        refine bO 2 ?_
        obtain ⟨x2, hx3, h0⟩ := aX h0
        refine cJ (QJ bZ eG _ hx3) hO ?_
        intro H hO
        refine bB ?_
        refine bD [(2, (eL aE x2.1)), (3, (eI x2.2))] ?_
        refine bE ?_
        obtain rfl := oI h0
        exact aJ (Q_r hO)
      refine aU aH 1 [] [(8, (eI (0 : Int)))] ?_
      refine bN 4 ?_
      refine cR [(0, (eL aE l0)), (5, (eL (eI) bZ)), (7, (.sl true 0 (fun _ => .bad))), (8, (eI (0 : Int)))] ?_
      refine zQ (el := (fun _ => .bad)) 2 7 1 hO (by kernel_rfl) ?_
      intro lo14 H15 hO
      refine cG (fun T H => ∃ eG : List Int, ∃ i8 : Int, ∃ lo6 : Nat, Has T [(0, (eL aE l0)), (5, (eL (eI) bZ)), (7, (.msl 1 lo6 0 (List.length eG))), (8, (eI i8))] ∧ aL ⟨H0, [], []⟩ H [(lo6, 1, List.map (eI) eG)] ∧ vP l0 bZ eG i8 = some r) ?_ ⟨([] : List Int), (0 : Int), lo14, .eq (by kernel_rfl), hO, h0⟩
      clear hO h0
      rintro T H ⟨eG, i8, lo6, hT, hO, h0⟩
      refine aZ hT ?_
      clear hT
      unfold vP at h0
      obtain ⟨rr0, hl0, h0⟩ := aX h0
      refine bV (by kernel_rfl) (fun (s : List Int × Int) T H => ∃ lo6 : Nat, Has T [(0, (eL aE l0)), (5, (eL (eI) bZ)), (7, (.msl 1 lo6 0 (List.length s.1))), (8, (eI s.2))] ∧ aL ⟨H0, [], []⟩ H [(lo6, 1, List.map (eI) s.1)]) hl0 ⟨lo6, .eq (by kernel_rfl), hO⟩ ?_
      clear hO
      rintro k0 s out1 T H ⟨lo6, hT, hO⟩ h1 ho0
      obtain ⟨eG, i8⟩ := s
      replace h1 : mS l0 bZ eG i8 = some out1 := h1
      dsimp only at hT
      refine aZ hT ?_
      clear hT
      unfold mS at h1
      refine aO ?_
      refine aU aH 4 [] [(67, (aK (decide (i8 < (lN bZ)))))] ?_
      refine bF h1 (fun h1 => ?_) (fun h1 => ?_)
      · refine bH ?_
        refine bD [(0, (eL aE l0)), (5, (eL (eI) bZ)), (7, (.msl 1 lo6 0 (List.length eG))), (8, (eI i8))] ?_
        refine aO ?_
        refine bN 5 ?_
        refine aT aH 10 ?_
        obtain ⟨c8, h1⟩ := bA h1
        refine oG 6 [0 ≤ i8 ∧ i8 < (lN bZ)] ⟨c8, trivial⟩ ?_
        obtain ⟨x9, hx10, h1⟩ := aX h1
        refine cJ (EP l0 (gD bZ i8) _ hx10) hO ?_
        intro H hO
        refine mD (xs := [(eI x9)]) (k := 1) (by kernel_rfl) (by kernel_rfl) ?_
        obtain ⟨c13, h1⟩ := bA h1
        refine uG (e := (eI)) eG ([x9]) 0 lo6 1 8 (fV [(eI x9)]) (fun lo12 => [(lo12, 1, List.map (eI) (eG ++ ([x9])))]) (by kernel_rfl) (by kernel_rfl) hO (by kernel_rfl) (by kernel_rfl) c13 (fun _ => by kernel_rfl) ?_
        intro lo12 H hO
        refine bB ?_
        refine cY [(0, (eL aE l0)), (5, (eL (eI) bZ)), (7, (.msl 1 lo12 0 (List.length (eG ++ ([x9]))))), (8, (eI i8))] ?_
        refine aJ (aV (aI (?_)))
        refine aT aH 3 ?_
        refine bB ?_
        exact aJ (aI (⟨rfl, _, (oI h1).symm, _, .eq (by kernel_rfl), hO⟩))
      refine dG 4 ?_
      obtain rfl := oI h1
      obtain rfl : _ = rr0 := ho0
      replace h0 : rK bZ eG = some r := h0
      exact aJ (aR (aR (bL (aI (⟨rfl, _, _, .eq (by kernel_rfl), hO, h0⟩)))))
    refine aU aH 1 [] [(6, (eI (0 : Int)))] ?_
    refine bN 2 ?_
    refine aZ (l := [(0, (eL aE l0)), (5, (eL (eI) ([]))), (6, (eI (0 : Int)))]) ⟨[(0, (eL aE l0)), (5, (.sl true 0 (fun _ => .bad))), (6, (eI (0 : Int)))], by kernel_rfl, rfl, ⟨aS.refl _, dW, aS.refl _, trivial⟩⟩ ?_
    refine cG (fun T H => ∃ bZ : (List Int), ∃ i6 : Int, Has T [(0, (eL aE l0)), (5, (eL (eI) bZ)), (6, (eI i6))] ∧ aL ⟨H0, [], []⟩ H [] ∧ wE l0 bZ i6 = some r) ?_ ⟨[], (0 : Int), .eq (by kernel_rfl), hO, h0⟩
    clear hO h0
    rintro T H ⟨bZ, i6, hT, hO, h0⟩
    refine aZ hT ?_
    clear hT
    unfold wE at h0
    obtain ⟨rr0, hl0, h0⟩ := aX h0
    refine bV (by kernel_rfl) (fun (s : (List Int) × Int) T H => Has T [(0, (eL aE l0)), (5, (eL (eI) s.1)), (6, (eI s.2))] ∧ aL ⟨H0, [], []⟩ H []) hl0 ⟨.eq (by kernel_rfl), hO⟩ ?_
    clear hO
    rintro k0 s out1 T H ⟨hT, hO⟩ h1 ho0
    obtain ⟨bZ, i6⟩ := s
    replace h1 : iX l0 bZ i6 = some out1 := h1
    dsimp only at hT
    refine aZ hT ?_
    clear hT
    unfold iX at h1
    refine aO ?_
    refine aU aH 4 [] [(33, (aK (decide (i6 < (lN l0)))))] ?_
    refine bF h1 (fun h1 => ?_) (fun h1 => ?_)
    · refine bH ?_
      refine bD [(0, (eL aE l0)), (5, (eL (eI) bZ)), (6, (eI i6))] ?_
      refine cL (fun T H => ∃ bZ : (List Int), Has T [(0, (eL aE l0)), (5, (eL (eI) bZ)), (6, (eI i6))] ∧ aL ⟨H0, [], []⟩ H [] ∧ sI l0 bZ i6 = some out1) ?_ ?_
      · clear hO h1
        rintro T H ⟨bZ, hT, hO, h1⟩
        refine aZ hT ?_
        clear hT
        unfold sI at h1
        refine aT aH 3 ?_
        refine bB ?_
        exact aJ (aI (⟨rfl, _, (oI h1).symm, .eq (by kernel_rfl), hO⟩))
      refine bN 3 ?_
      refine aO ?_
      refine aO ?_
      refine aT aH 14 ?_
      obtain ⟨c18, h1⟩ := bA h1
      obtain ⟨c19, h1⟩ := bA h1
      refine nG [0 ≤ i6 ∧ i6 < (lN l0), (((!(decide (((gD l0 i6).At) < (-1 : Int))))) = true → 0 ≤ i6 ∧ i6 < (lN l0))] ⟨c18, c19, trivial⟩ ?_
      refine bP [] [(49, (aK ((decide (((gD l0 i6).At) < (-1 : Int))) || (decide ((1125899906842624 : Int) < ((gD l0 i6).At))))))] ?_
      refine bF h1 (fun h1 => ?_) (fun h1 => ?_)
      · refine bM aH 2 [(2, (.sl true 0 (fun _ => .bad))), (3, (eI (13 : Int)))] ?_
        refine bE ?_
        refine cH (l := [(2, (eL aE ([]))), (3, (eI (13 : Int)))]) ⟨[(2, (.sl true 0 (fun _ => .bad))), (3, (eI (13 : Int)))], by kernel_rfl, rfl, ⟨dW, aS.refl _, trivial⟩⟩ ?_
        obtain rfl := oI h1
        obtain rfl : _ = rr0 := ho0
        replace h0 : some ([], (13 : Int)) = some r := h0
        obtain rfl := oI h0
        exact aJ (aP (bJ (aP (aP (bJ (aP (Q_r hO)))))))
      refine bH ?_
      refine bD [(0, (eL aE l0)), (5, (eL (eI) bZ)), (6, (eI i6))] ?_
      refine aO ?_
      refine aT aH 6 ?_
      obtain ⟨c21, h1⟩ := bA h1
      refine nG [0 ≤ i6 ∧ i6 < (lN l0)] ⟨c21, trivial⟩ ?_
      refine bP [] [(55, (aK (decide (((gD l0 i6).At) < (1125899906842624 : Int)))))] ?_
      refine bF h1 (fun h1 => ?_) (fun h1 => ?_)
      · refine aT aH 8 ?_
        obtain ⟨c23, h1⟩ := bA h1
        refine oG 6 [0 ≤ i6 ∧ i6 < (lN l0)] ⟨c23, trivial⟩ ?_
        obtain ⟨x24, hx25, h1⟩ := aX h1
        refine cJ (QI bZ ((gD l0 i6).At) _ hx25) hO ?_
        intro H hO
        refine bB ?_
        exact aJ (aV (aI (⟨rfl, _, .eq (by kernel_rfl), hO, h1⟩)))
      refine bH ?_
      exact aJ (aV (aI (⟨rfl, _, .eq (by kernel_rfl), hO, h1⟩)))
    refine dG 2 ?_
    obtain rfl := oI h1
    obtain rfl : _ = rr0 := ho0
    replace h0 : sJ l0 bZ = some r := h0
    exact aJ (aR (aR (bL (aI (⟨rfl, _, .eq (by kernel_rfl), hO, h0⟩)))))
  refine aU aH 1 [] [(4, (eI (0 : Int)))] ?_
  refine bN 0 ?_
  refine cR [(0, (eL aE l0)), (4, (eI (0 : Int)))] ?_
  refine cG (fun T H => ∃ i4 : Int, Has T [(0, (eL aE l0)), (4, (eI i4))] ∧ aL ⟨H0, [], []⟩ H [] ∧ vN l0 i4 = some r) ?_ ⟨(0 : Int), .eq (by kernel_rfl), hO, h0⟩
  clear hO h0
  rintro T H ⟨i4, hT, hO, h0⟩
  refine aZ hT ?_
  clear hT
  unfold vN at h0
  obtain ⟨rr0, hl0, h0⟩ := aX h0
  refine bV (by kernel_rfl) (fun (s : Int) T H => Has T [(0, (eL aE l0)), (4, (eI s))] ∧ aL ⟨H0, [], []⟩ H []) hl0 ⟨.eq (by kernel_rfl), hO⟩ ?_
  clear hO
  rintro k0 s out1 T H ⟨hT, hO⟩ h1 ho0
  obtain ⟨i4, rfl⟩ : ∃ x, x = s := ⟨_, rfl⟩
  replace h1 : oC l0 i4 = some out1 := h1
  refine aZ hT ?_
  clear hT
  unfold oC at h1
  refine aO ?_
  refine aU aH 4 [] [(12, (aK (decide (i4 < (lN l0)))))] ?_
  refine bF h1 (fun h1 => ?_) (fun h1 => ?_)
  · refine bH ?_
    refine bD [(0, (eL aE l0)), (4, (eI i4))] ?_
    refine aO ?_
    refine bN 1 ?_
    refine aO ?_
    refine aT aH 14 ?_
    obtain ⟨c28, h1⟩ := bA h1
    obtain ⟨c29, h1⟩ := bA h1
    refine nG [0 ≤ i4 ∧ i4 < (lN l0), (((!(decide ((1048576 : Int) < ((gD l0 i4).Net))))) = true → 0 ≤ i4 ∧ i4 < (lN l0))] ⟨c28, c29, trivial⟩ ?_
    refine bP [] [(28, (aK ((decide ((1048576 : Int) < ((gD l0 i4).Net))) || (decide (((gD l0 i4).Net) < (-1048576 : Int))))))] ?_
    refine bF h1 (fun h1 => ?_) (fun h1 => ?_)
    · refine bM aH 2 [(2, (.sl true 0 (fun _ => .bad))), (3, (eI (2 : Int)))] ?_
      refine bE ?_
      refine cH (l := [(2, (eL aE ([]))), (3, (eI (2 : Int)))]) ⟨[(2, (.sl true 0 (fun _ => .bad))), (3, (eI (2 : Int)))], by kernel_rfl, rfl, ⟨dW, aS.refl _, trivial⟩⟩ ?_
      obtain rfl := oI h1
      obtain rfl : _ = rr0 := ho0
      replace h0 : some ([], (2 : Int)) = some r := h0
      obtain rfl := oI h0
      exact aJ (bJ (aP (aP (bJ (aP (Q_r hO))))))
    refine bH ?_
    refine cY [(0, (eL aE l0)), (4, (eI i4))] ?_
    refine aJ (aV (aI (?_)))
    refine aT aH 3 ?_
    refine bB ?_
    exact aJ (aI (⟨rfl, _, (oI h1).symm, .eq (by kernel_rfl), hO⟩))
  refine dG 0 ?_
  obtain rfl := oI h1
  obtain rfl : _ = rr0 := ho0
  replace h0 : sC l0 = some r := h0
  exact aJ (aR (aR (bL (aI (⟨rfl, .eq (by kernel_rfl), hO, h0⟩)))))

theorem RI (l0 : (List aC)) (r : ((List aC) × Int)) (h0 : tZ l0 = some r) : bR Try.prog 24 [(eL aD l0)] (.tup [(eL aD r.1), (eI r.2)]) := by
  intro H0
  refine bY Try.func24 ?_
  have hO := aL.start H0
  unfold tZ at h0
  refine aU aH 2 [] [] ?_
  refine cL (fun T H => Has T [(0, (eL aD l0))] ∧ aL ⟨H0, [], []⟩ H [] ∧ rV l0 = some r) ?_ ?_
  · clear hO h0
    rintro T H ⟨hT, hO, h0⟩
    refine aZ hT ?_
    clear hT
    unfold rV at h0
    refine cL (fun T H => Has T [(0, (eL aD l0))] ∧ aL ⟨H0, [], []⟩ H [] ∧ rX l0 = some r) ?_ ?_
    · clear hO h0
      rintro T H ⟨hT, hO, h0⟩
      refine aZ hT ?_
      clear hT
      unfold rX at h0
      refine aO ?_
      refine aT aH 2 ?_
      refine mD (xs := []) (k := 3) (by kernel_rfl) (by kernel_rfl) ?_
      refine bB ?_
      refine bP [] [(6, (.sl true 0 (fun _ => .bad)))] ?_
      refine aO ?_
      refine aT aH 3 ?_
      refine bO 1 ?_
      obtain ⟨x1, hx2, h0⟩ := aX h0
      refine cJ (QW l0 _ hx2) hO ?_
      intro H hO
      refine bB ?_
      refine bP [] [(7, (eL (eL aG) x1))] ?_
      refine cL (fun T H => ∃ out6 : List aC, ∃ lo4 : Nat, Has T [(6, (.msl 3 lo4 0 (List.length out6)))] ∧ aL ⟨H0, [], []⟩ H [(lo4, 3, List.map aD out6)] ∧ pW out6 = some r) ?_ ?_
      · clear hO h0
        rintro T H ⟨out6, lo4, hT, hO, h0⟩
        refine aZ hT ?_
        clear hT
        unfold pW at h0
        refine aO ?_
        refine aU aH 3 [] [(91, (aK (decide ((4096 : Int) < (lN out6)))))] ?_
        refine bF h0 (fun h0 => ?_) (fun h0 => ?_)
        · refine aO ?_
          refine aT aH 2 ?_
          refine bB ?_
          refine cY [(2, (.sl true 0 (fun _ => .bad))), (3, (eI (7 : Int)))] ?_
          replace hO := hO.pick (L' := []) [] (by decide) (by kernel_rfl)
          refine aJ (aI (?_))
          refine bE ?_
          refine cH (l := [(2, (eL aD ([]))), (3, (eI (7 : Int)))]) ⟨[(2, (.sl true 0 (fun _ => .bad))), (3, (eI (7 : Int)))], by kernel_rfl, rfl, ⟨dW, aS.refl _, trivial⟩⟩ ?_
          obtain rfl := oI h0
          exact aJ (aP (Q_r hO))
        refine bH ?_
        refine bD [(6, (.msl 3 lo4 0 (List.length out6)))] ?_
        refine bM aH 3 [(2, (.msl 3 lo4 0 (List.length out6))), (3, (eI (0 : Int)))] ?_
        refine bE ?_
        refine cY [(2, (.msl 3 lo4 0 (List.length out6))), (3, (eI (0 : Int)))] ?_
        refine wQ (en := aD) out6 0 0 2 3 lo4 (List.length out6) hO (by kernel_rfl) (by kernel_rfl) (by kernel_rfl) (L' := []) (by kernel_rfl) ?_
        intro H6 hO
        obtain rfl := oI h0
        exact aJ (Q_r hO)
      refine aU aH 1 [] [(8, (eI (0 : Int)))] ?_
      refine bN 4 ?_
      refine cR [(0, (eL aD l0)), (6, (.sl true 0 (fun _ => .bad))), (7, (eL (eL aG) x1)), (8, (eI (0 : Int)))] ?_
      refine zQ (el := (fun _ => .bad)) 1 6 3 hO (by kernel_rfl) ?_
      intro lo22 H23 hO
      refine cG (fun T H => ∃ out6 : List aC, ∃ mW : (List (List aF)), ∃ i8 : Int, ∃ lo8 : Nat, Has T [(0, (eL aD l0)), (6, (.msl 3 lo8 0 (List.length out6))), (7, (eL (eL aG) mW)), (8, (eI i8))] ∧ aL ⟨H0, [], []⟩ H [(lo8, 3, List.map aD out6)] ∧ vQ l0 out6 mW i8 = some r) ?_ ⟨([] : List aC), x1, (0 : Int), lo22, .eq (by kernel_rfl), hO, h0⟩
      clear hO h0
      rintro T H ⟨out6, mW, i8, lo8, hT, hO, h0⟩
      refine aZ hT ?_
      clear hT
      unfold vQ at h0
      obtain ⟨rr0, hl0, h0⟩ := aX h0
      refine bV (by kernel_rfl) (fun (s : List aC × Int) T H => ∃ lo8 : Nat, Has T [(0, (eL aD l0)), (6, (.msl 3 lo8 0 (List.length s.1))), (7, (eL (eL aG) mW)), (8, (eI s.2))] ∧ aL ⟨H0, [], []⟩ H [(lo8, 3, List.map aD s.1)]) hl0 ⟨lo8, .eq (by kernel_rfl), hO⟩ ?_
      clear hO
      rintro k0 s out1 T H ⟨lo8, hT, hO⟩ h1 ho0
      obtain ⟨out6, i8⟩ := s
      replace h1 : mQ l0 mW out6 i8 = some out1 := h1
      dsimp only at hT
      refine aZ hT ?_
      clear hT
      unfold mQ at h1
      refine aO ?_
      refine aU aH 4 [] [(66, (aK (decide (i8 < (lN mW)))))] ?_
      refine bF h1 (fun h1 => ?_) (fun h1 => ?_)
      · refine bH ?_
        refine bD [(0, (eL aD l0)), (6, (.msl 3 lo8 0 (List.length out6))), (7, (eL (eL aG) mW)), (8, (eI i8))] ?_
        refine aO ?_
        refine bN 5 ?_
        refine aO ?_
        refine aT aH 12 ?_
        obtain ⟨c10, h1⟩ := bA h1
        refine oG 5 [0 ≤ i8 ∧ i8 < (lN mW)] ⟨c10, trivial⟩ ?_
        obtain ⟨x11, hx12, h1⟩ := aX h1
        refine cJ (NA l0 (gD mW i8) _ hx12) hO ?_
        intro H hO
        obtain ⟨x14, hx15, h1⟩ := aX h1
        refine cJ (OI x11 _ hx15) hO ?_
        intro H hO
        refine bB ?_
        refine bP [] [(9, (eL aE x14.1)), (10, (eI x14.2))] ?_
        refine aO ?_
        refine aU aH 2 [] [(80, (aK (!decide (x14.2 = (0 : Int)))))] ?_
        refine bF h1 (fun h1 => ?_) (fun h1 => ?_)
        · refine aO ?_
          refine aT aH 3 ?_
          refine bB ?_
          refine cY [(2, (.sl true 0 (fun _ => .bad))), (3, (eI x14.2))] ?_
          replace hO := hO.pick (L' := []) [] (by decide) (by kernel_rfl)
          refine aJ (aI (?_))
          refine bE ?_
          refine cH (l := [(2, (eL aD ([]))), (3, (eI x14.2))]) ⟨[(2, (.sl true 0 (fun _ => .bad))), (3, (eI x14.2))], by kernel_rfl, rfl, ⟨dW, aS.refl _, trivial⟩⟩ ?_
          obtain rfl := oI h1
          obtain rfl : _ = rr0 := ho0
          replace h0 : some ([], x14.2) = some r := h0
          obtain rfl := oI h0
          exact aJ (aP (bJ (aP (aP (bJ (aP (Q_r hO)))))))
        refine bH ?_
        refine bD [(0, (eL aD l0)), (6, (.msl 3 lo8 0 (List.length out6))), (7, (eL (eL aG) mW)), (8, (eI i8)), (9, (eL aE x14.1))] ?_
        refine aT aH 8 ?_
        obtain ⟨c18, h1⟩ := bA h1
        refine oG 6 [0 ≤ i8 ∧ i8 < (lN mW)] ⟨c18, trivial⟩ ?_
        obtain ⟨x19, hx20, h1⟩ := aX h1
        refine TB (L' := fun lo21 => [(lo21, 3, List.map aD x19)]) 0 lo8 3 (List.map aD out6) (List.map aD x19) 29 [(.msl 3 lo8 0 (List.length out6)), (eL aG (gD mW i8)), (eL aE x14.1)] (fun lo21 => (.msl 3 lo21 0 (List.length x19))) (by kernel_rfl) (by kernel_rfl) (RR lo8 out6 (gD mW i8) x14.1 _ hx20) hO (by kernel_rfl) (fun _ => by kernel_rfl) ?_
        intro lo21 H hO
        refine bB ?_
        refine cY [(0, (eL aD l0)), (6, (.msl 3 lo21 0 (List.length x19))), (7, (eL (eL aG) mW)), (8, (eI i8))] ?_
        refine aJ (aV (aI (?_)))
        refine aT aH 3 ?_
        refine bB ?_
        exact aJ (aI (⟨rfl, _, (oI h1).symm, _, .eq (by kernel_rfl), hO⟩))
      refine dG 4 ?_
      obtain rfl := oI h1
      obtain rfl : _ = rr0 := ho0
      replace h0 : pW out6 = some r := h0
      exact aJ (aR (aR (bL (aI (⟨rfl, _, _, .eq (by kernel_rfl), hO, h0⟩)))))
    refine aU aH 1 [] [(5, (eI (0 : Int)))] ?_
    refine bN 2 ?_
    refine cR [(0, (eL aD l0)), (5, (eI (0 : Int)))] ?_
    refine cG (fun T H => ∃ i5 : Int, Has T [(0, (eL aD l0)), (5, (eI i5))] ∧ aL ⟨H0, [], []⟩ H [] ∧ wG l0 i5 = some r) ?_ ⟨(0 : Int), .eq (by kernel_rfl), hO, h0⟩
    clear hO h0
    rintro T H ⟨i5, hT, hO, h0⟩
    refine aZ hT ?_
    clear hT
    unfold wG at h0
    obtain ⟨rr0, hl0, h0⟩ := aX h0
    refine bV (by kernel_rfl) (fun (s : Int) T H => Has T [(0, (eL aD l0)), (5, (eI s))] ∧ aL ⟨H0, [], []⟩ H []) hl0 ⟨.eq (by kernel_rfl), hO⟩ ?_
    clear hO
    rintro k0 s out1 T H ⟨hT, hO⟩ h1 ho0
    obtain ⟨i5, rfl⟩ : ∃ x, x = s := ⟨_, rfl⟩
    replace h1 : nY l0 i5 = some out1 := h1
    refine aZ hT ?_
    clear hT
    unfold nY at h1
    refine aO ?_
    refine aU aH 4 [] [(43, (aK (decide (i5 < (lN l0)))))] ?_
    refine bF h1 (fun h1 => ?_) (fun h1 => ?_)
    · refine bH ?_
      refine bD [(0, (eL aD l0)), (5, (eI i5))] ?_
      refine aO ?_
      refine bN 3 ?_
      refine aO ?_
      refine aT aH 14 ?_
      obtain ⟨c25, h1⟩ := bA h1
      obtain ⟨c26, h1⟩ := bA h1
      refine nG [0 ≤ i5 ∧ i5 < (lN l0), (((!(decide (((gD l0 i5).At) < (-1 : Int))))) = true → 0 ≤ i5 ∧ i5 < (lN l0))] ⟨c25, c26, trivial⟩ ?_
      refine bP [] [(59, (aK ((decide (((gD l0 i5).At) < (-1 : Int))) || (decide ((1125899906842624 : Int) < ((gD l0 i5).At))))))] ?_
      refine bF h1 (fun h1 => ?_) (fun h1 => ?_)
      · refine bM aH 2 [(2, (.sl true 0 (fun _ => .bad))), (3, (eI (13 : Int)))] ?_
        refine bE ?_
        refine cH (l := [(2, (eL aD ([]))), (3, (eI (13 : Int)))]) ⟨[(2, (.sl true 0 (fun _ => .bad))), (3, (eI (13 : Int)))], by kernel_rfl, rfl, ⟨dW, aS.refl _, trivial⟩⟩ ?_
        obtain rfl := oI h1
        obtain rfl : _ = rr0 := ho0
        replace h0 : some ([], (13 : Int)) = some r := h0
        obtain rfl := oI h0
        exact aJ (bJ (aP (aP (bJ (aP (Q_r hO))))))
      refine bH ?_
      refine cY [(0, (eL aD l0)), (5, (eI i5))] ?_
      refine aJ (aV (aI (?_)))
      refine aT aH 3 ?_
      refine bB ?_
      exact aJ (aI (⟨rfl, _, (oI h1).symm, .eq (by kernel_rfl), hO⟩))
    refine dG 2 ?_
    obtain rfl := oI h1
    obtain rfl : _ = rr0 := ho0
    replace h0 : rX l0 = some r := h0
    exact aJ (aR (aR (bL (aI (⟨rfl, .eq (by kernel_rfl), hO, h0⟩)))))
  refine aU aH 1 [] [(4, (eI (0 : Int)))] ?_
  refine bN 0 ?_
  refine cR [(0, (eL aD l0)), (4, (eI (0 : Int)))] ?_
  refine cG (fun T H => ∃ i4 : Int, Has T [(0, (eL aD l0)), (4, (eI i4))] ∧ aL ⟨H0, [], []⟩ H [] ∧ wF l0 i4 = some r) ?_ ⟨(0 : Int), .eq (by kernel_rfl), hO, h0⟩
  clear hO h0
  rintro T H ⟨i4, hT, hO, h0⟩
  refine aZ hT ?_
  clear hT
  unfold wF at h0
  obtain ⟨rr0, hl0, h0⟩ := aX h0
  refine bV (by kernel_rfl) (fun (s : Int) T H => Has T [(0, (eL aD l0)), (4, (eI s))] ∧ aL ⟨H0, [], []⟩ H []) hl0 ⟨.eq (by kernel_rfl), hO⟩ ?_
  clear hO
  rintro k0 s out1 T H ⟨hT, hO⟩ h1 ho0
  obtain ⟨i4, rfl⟩ : ∃ x, x = s := ⟨_, rfl⟩
  replace h1 : nT l0 i4 = some out1 := h1
  refine aZ hT ?_
  clear hT
  unfold nT at h1
  refine aO ?_
  refine aU aH 4 [] [(14, (aK (decide (i4 < (lN l0)))))] ?_
  refine bF h1 (fun h1 => ?_) (fun h1 => ?_)
  · refine bH ?_
    refine bD [(0, (eL aD l0)), (4, (eI i4))] ?_
    refine aO ?_
    refine bN 1 ?_
    refine aO ?_
    refine aT aH 23 ?_
    obtain ⟨c29, h1⟩ := bA h1
    refine oG 5 [0 ≤ i4 ∧ i4 < (lN l0)] ⟨c29, trivial⟩ ?_
    obtain ⟨x30, hx31, h1⟩ := aX h1
    refine cJ (yU ((gD l0 i4).Row) _ hx31) hO ?_
    intro H hO
    obtain ⟨c33, h1⟩ := bA h1
    obtain ⟨c34, h1⟩ := bA h1
    refine nG [(((!(!x30))) = true → 0 ≤ i4 ∧ i4 < (lN l0)), (((!((!x30) || (decide ((1048576 : Int) < ((gD l0 i4).Net)))))) = true → 0 ≤ i4 ∧ i4 < (lN l0))] ⟨c33, c34, trivial⟩ ?_
    refine bP [] [(39, (aK (((!x30) || (decide ((1048576 : Int) < ((gD l0 i4).Net)))) || (decide (((gD l0 i4).Net) < (-1048576 : Int))))))] ?_
    refine bF h1 (fun h1 => ?_) (fun h1 => ?_)
    · refine bM aH 2 [(2, (.sl true 0 (fun _ => .bad))), (3, (eI (2 : Int)))] ?_
      refine bE ?_
      refine cH (l := [(2, (eL aD ([]))), (3, (eI (2 : Int)))]) ⟨[(2, (.sl true 0 (fun _ => .bad))), (3, (eI (2 : Int)))], by kernel_rfl, rfl, ⟨dW, aS.refl _, trivial⟩⟩ ?_
      obtain rfl := oI h1
      obtain rfl : _ = rr0 := ho0
      replace h0 : some ([], (2 : Int)) = some r := h0
      obtain rfl := oI h0
      exact aJ (bJ (aP (aP (bJ (aP (Q_r hO))))))
    refine bH ?_
    refine cY [(0, (eL aD l0)), (4, (eI i4))] ?_
    refine aJ (aV (aI (?_)))
    refine aT aH 3 ?_
    refine bB ?_
    exact aJ (aI (⟨rfl, _, (oI h1).symm, .eq (by kernel_rfl), hO⟩))
  refine dG 0 ?_
  obtain rfl := oI h1
  obtain rfl : _ = rr0 := ho0
  replace h0 : rV l0 = some r := h0
  exact aJ (aR (aR (bL (aI (⟨rfl, .eq (by kernel_rfl), hO, h0⟩)))))

theorem NF (l0 : (List aC)) (r : (List aC)) (h0 : vX l0 = some r) : bR Try.prog 28 [(eL aD l0)] (.fn (.func 69) [] [(.rp (eL aD r))]) := by
  intro H0
  refine bY Try.func28 ?_
  have hO := aL.start H0
  unfold vX at h0
  refine aO ?_
  refine aT aH 2 ?_
  refine eX 1 (eL aD l0) (by kernel_rfl) (by kernel_rfl) ?_
  refine bB ?_
  refine bD [(1, (.rp (eL aD l0)))] ?_
  refine bM aH 2 [(2, (.fn (.func 69) [] [(.rp (eL aD l0))]))] ?_
  refine bE ?_
  obtain rfl := oI h0
  exact aJ (oK (x := (.fn (.func 69) [] [(.rp (eL aD l0))])) (by kernel_rfl) (aS.refl _) ⟨rfl, hO.out⟩)

theorem HC {σ : Type} (I : σ → Gs → Prop) (yield0_b : Nat) (eP : σ → (List aF) → (List aB) → Option (σ × Bool)) (yield0_h : ∀ st a0 a1 st2 r, eP st a0 a1 = some (st2, r) → GZ Try.prog (yv yield0_b) I st [(eL aG a0), (eL aE a1)] st2 (aK r)) (t1 : (List aC)) (sg0 : σ) (r : σ) (h0 : oE eP t1 sg0 = some r) : AN Try.prog 69 I sg0 [(yv yield0_b), (.rp (eL aD t1))] r (.tup []) := by
  intro H0 G0 hI hg
  refine GU aH Try.func69 (by kernel_rfl) (by kernel_rfl) (by kernel_rfl) ?_
  obtain ⟨G, hO, hI⟩ : ∃ G, aL ⟨H0, List.map (fun p : Nat × cX => p.1) G0, G⟩ H0 [] ∧ I sg0 G := ⟨G0, aL.KE hg, hI⟩
  clear hg
  unfold oE at h0
  refine aO ?_
  refine aT aH 1 ?_
  refine eX 1 (yv yield0_b) (by kernel_rfl) (by kernel_rfl) ?_
  refine cU ?_
  refine bP [0] [(2, (.rp (yv yield0_b)))] ?_
  refine aO ?_
  refine aO ?_
  refine aT aH 3 ?_
  refine bO 1 ?_
  obtain ⟨x1, hx2, h0⟩ := aX h0
  refine cJ (AO t1 _ hx2) hO ?_
  intro H hO
  refine bB ?_
  refine bP [] [(7, (aK (!x1)))] ?_
  refine bF h0 (fun h0 => ?_) (fun h0 => ?_)
  · refine bE ?_
    obtain rfl := oI h0
    exact aJ (aP (QM0 (.inr rfl) (rs := []) (xs := []) (x := (.tup [])) (by kernel_rfl) tR (by kernel_rfl) ⟨rfl, G, hI, hO.FW⟩))
  refine bH ?_
  refine bD [(1, (.rp (eL aD t1))), (2, (.rp (yv yield0_b)))] ?_
  refine aO ?_
  refine aT aH 2 ?_
  refine bO 1 ?_
  obtain ⟨x5, hx6, h0⟩ := aX h0
  refine cJ (CL t1 _ hx6) hO ?_
  intro H hO
  refine cU ?_
  refine bP [1] [(9, (.fn (.func 104) [] [(.rp (eL aD x5))]))] ?_
  refine bN 0 ?_
  refine cR [(2, (.rp (yv yield0_b))), (9, (.fn (.func 104) [] [(.rp (eL aD x5))]))] ?_
  refine cG (fun T H => ∃ sg : σ, ∃ t9c0 : (List aC), ∃ G : Gs, Has T [(2, (.rp (yv yield0_b))), (9, (.fn (.func 104) [] [(.rp (eL aD t9c0))]))] ∧ aL ⟨H0, List.map (fun p : Nat × cX => p.1) G0, G⟩ H [] ∧ I sg G ∧ qD eP sg t9c0 = some r) ?_ ⟨sg0, x5, G, .eq (by kernel_rfl), hO, hI, h0⟩
  clear hO hI h0
  rintro T H ⟨sg, t9c0, G, hT, hO, hI, h0⟩
  refine aZ (l := [(2, (.rp (yv yield0_b))), (9, (.fn (.func 104) [] [(.rp (eL aD t9c0))]))]) hT ?_
  clear hT
  unfold qD at h0
  obtain ⟨o0, hl0, h0⟩ := aX h0
  refine DU (fid := 104) (ys := []) (cs := [(.rp (eL aD t9c0))]) #[10, 11] (fun (A : AL) (b lL : Nat) (st : (σ) ⊕ (σ)) (G' : Gs) => Sum.elim (fun (s : σ) => ∃ G : Gs, I s G ∧ G' = (lL, .raw (kP b A .ready none)) :: (up [] ++ G)) (fun (s : σ) => ∃ G : Gs, I s G ∧ G' = (lL, .raw (kP b A .done (some .ret))) :: (up [] ++ G)) st) (.inl sg) o0 (.tup []) (by kernel_rfl) (by kernel_rfl) (by kernel_rfl) hO (fun _ _ => ⟨G, hI, rfl⟩) ?_ ?_
  · intro b lL
    clear hO hI h0
    refine yD _ b (fun st t10 t11 => rnd (fun (s : σ) => jT eP t9c0 s t10 t11) st) ?_ t9c0 _ _ hl0
    intro st t10 t11 st2 rr hr
    obtain ⟨s, rfl, h1, rfl⟩ := VH hr
    clear hr
    intro Hr Gr hi hg
    obtain ⟨sg, rfl⟩ : ∃ x, x = s := ⟨_, rfl⟩
    dsimp only [Sum.elim_inl] at hi
    obtain ⟨G, hI, rfl⟩ := hi
    replace h1 : jT eP t9c0 sg t10 t11 = some st2 := h1
    unfold jT at h1
    obtain ⟨E1, hE, hO⟩ := zF hg
    refine yW (EG (hO.gm 0 _ rfl).2 (by kernel_rfl) (by kernel_rfl) ?_)
    refine cR [(2, (.rp (yv yield0_b))), (9, (.fn (.func 104) [] [(.rp (eL aD t9c0))])), (10, (eL aG t10)), (11, (eL aE t11))] ?_
    refine aU aH 1 [9, 10] [(3, (eL aG t10))] ?_
    refine aT aH 1 ?_
    refine bB ?_
    refine cY [(2, (.rp (yv yield0_b))), (3, (eL aG t10)), (4, (eL aE t11))] ?_
    refine aJ (⟨rfl, rfl, (hO.gm 0 _ rfl).2, ?_⟩)
    intro o1 ho1
    replace hO := hO.xZ o1
    refine bN 1 ?_
    refine aO ?_
    refine aT aH 5 ?_
    refine bO 3 ?_
    obtain ⟨x7, hx8, h1⟩ := aX h1
    refine YN (I := I) (yv yield0_b) [(eL aG t10), (eL aE t11)] (aK x7.2) (by kernel_rfl) (by kernel_rfl) (yield0_h _ t10 t11 x7.1 x7.2 hx8) hO hI ?_
    intro G H hO hI
    refine bB ?_
    refine bD [(16, (aK (!x7.2)))] ?_
    refine bF h1 (fun h1 => ?_) (fun h1 => ?_)
    · refine bE ?_
      refine cY [] ?_
      obtain rfl := oI h1
      exact aJ (bJ (⟨(gF hO hE ho1 .dead).1, rfl, _, ⟨G, hI, rfl⟩, (gF hO hE ho1 _).2⟩))
    refine bH ?_
    refine cY [] ?_
    obtain rfl := oI h1
    exact aJ (aV (⟨(gF hO hE ho1 .dead).1, rfl, _, ⟨G, hI, rfl⟩, (gF hO hE ho1 _).2⟩))
  · intro b lD lL H' G' hi hO
    rcases o0 with s | s
    · dsimp only [Sum.elim_inl] at hi
      obtain ⟨G, hI, rfl⟩ := hi
      replace h0 : (some s) = some r := h0
      obtain ⟨hlL, hO⟩ := pZ hO
      refine ⟨_, _, hlL, (by intro e; cases e), ?_⟩
      obtain rfl := oI h0
      have hD := (hO.gm 0 _ rfl).2
      replace hO := (hO.xZ .dead).wD
      exact aJ (aV (QM1 (.inl rfl) hD (rs := []) (xs := []) (x := (.tup [])) (by kernel_rfl) tR (by kernel_rfl) ⟨rfl, G, hI, hO.FW⟩))
    · dsimp only [Sum.elim_inr] at hi
      obtain ⟨G, hI, rfl⟩ := hi
      replace h0 : (some s) = some r := h0
      obtain ⟨hlL, hO⟩ := pZ hO
      refine ⟨_, _, hlL, (by intro e; cases e), ?_⟩
      refine bE ?_
      obtain rfl := oI h0
      have hD := (hO.gm 0 _ rfl).2
      replace hO := (hO.xZ .dead).wD
      exact aJ (bJ (QM1 (.inr rfl) hD (rs := []) (xs := []) (x := (.tup [])) (by kernel_rfl) tR (by kernel_rfl) ⟨rfl, G, hI, hO.FW⟩))

theorem QX (l0 : (List aC)) (r1 : (List aF)) (r : (List aB)) (h0 : tN l0 r1 = some r) : bR Try.prog 35 [(eL aD l0), (eL aG r1)] (eL aE r) := by
  intro H0
  refine GU aH Try.func35 (by kernel_rfl) (by kernel_rfl) (by kernel_rfl) ?_
  have hO := aL.start H0
  unfold tN at h0
  refine aO ?_
  refine aT aH 2 ?_
  refine eX 1 (eL aG r1) (by kernel_rfl) (by kernel_rfl) ?_
  refine yN 1 (.sl true 0 (fun _ => .bad)) (eL aE ([])) (by kernel_rfl) (by kernel_rfl) (by kernel_rfl) (dW) (by kernel_rfl) (by kernel_rfl) hO ?_
  intro lo1 H hO
  refine cU ?_
  refine bP [1] [(3, (.rp (eL aG r1))), (4, (.lp lo1 0 0))] ?_
  refine aO ?_
  refine aO ?_
  refine aT aH 3 ?_
  refine bO 1 ?_
  obtain ⟨x2, hx3, h0⟩ := aX h0
  refine cJ (wV r1 _ hx3) hO ?_
  intro H hO
  refine bB ?_
  refine bP [] [(9, (aK (!x2)))] ?_
  refine bF h0 (fun h0 => ?_) (fun h0 => ?_)
  · refine aO ?_
    refine aT aH 1 ?_
    refine nU 0 lo1 1 0 (eL aE ([])) (.sl true 0 (fun _ => .bad)) [(eL aE ([]))] [(lo1, 1, [(.sl true 0 (fun _ => .bad))])] hO rfl (by kernel_rfl) ?_
    intro H hO
    refine cU ?_
    refine DL 0 lo1 1 (.sl true 0 (fun _ => .bad)) (eL aE ([])) [(lo1, 1, [(eL aE ([]))])] hO (by kernel_rfl) (by kernel_rfl) dW (by kernel_rfl) ?_
    intro H hO
    refine bD [(4, (.lp lo1 0 0))] ?_
    refine bE ?_
    obtain rfl := oI h0
    exact aJ (aP (QM0 (.inr rfl) (rs := [.cell 4 31]) (xs := [(eL aE ([]))]) (x := (eL aE ([]))) (by kernel_rfl) (sM (lo := lo1) (k := 1) (y := (eL aE ([]))) (x := (eL aE ([]))) 0 hO (by kernel_rfl) (by kernel_rfl) (by kernel_rfl) (by kernel_rfl) tR) (by kernel_rfl) ⟨rfl, hO.out⟩))
  refine bH ?_
  refine bD [(0, (eL aD l0)), (3, (.rp (eL aG r1))), (4, (.lp lo1 0 0))] ?_
  refine aO ?_
  refine aO ?_
  refine aT aH 2 ?_
  refine bO 1 ?_
  obtain ⟨x6, hx7, h0⟩ := aX h0
  refine cJ (NF l0 _ hx7) hO ?_
  intro H hO
  refine cU ?_
  refine bP [0] [(11, (.fn (.func 69) [] [(.rp (eL aD x6))]))] ?_
  refine bN 0 ?_
  refine cR [(3, (.rp (eL aG r1))), (4, (.lp lo1 0 0)), (11, (.fn (.func 69) [] [(.rp (eL aD x6))]))] ?_
  refine cG (fun T H => ∃ r3 : (List aF), ∃ t4 : (List aB), ∃ uH : (List aC), ∃ lo8 : Nat, Has T [(3, (.rp (eL aG r3))), (4, (.lp lo8 0 0)), (11, (.fn (.func 69) [] [(.rp (eL aD uH))]))] ∧ aL ⟨H0, [], []⟩ H [(lo8, 1, [(eL aE t4)])] ∧ vY r3 t4 uH = some r) ?_ ⟨r1, [], x6, lo1, .eq (by kernel_rfl), hO, h0⟩
  clear hO h0
  rintro T H ⟨r3, t4, uH, lo8, hT, hO, h0⟩
  refine aZ (l := [(3, (.rp (eL aG r3))), (4, (.lp lo8 0 0)), (11, (.fn (.func 69) [] [(.rp (eL aD uH))]))]) hT ?_
  clear hT
  unfold vY at h0
  obtain ⟨o0, hl0, h0⟩ := aX h0
  refine DU (fid := 69) (ys := []) (cs := [(.rp (eL aD uH))]) #[12, 13] (fun (A : AL) (b lL : Nat) (st : ((List aB)) ⊕ ((List aB))) (G' : Gs) => Sum.elim (fun (s : (List aB)) => G' = (lL, .raw (kP b A .ready none)) :: (up [(lo8, 1, [(eL aE s)])] ++ [])) (fun (s : (List aB)) => G' = (lL, .raw (kP b A .done (some .ret))) :: (up [(lo8, 1, [(eL aE s)])] ++ [])) st) (.inl t4) o0 (.tup []) (by kernel_rfl) (by kernel_rfl) (by kernel_rfl) hO (fun _ _ => rfl) ?_ ?_
  · intro b lL
    clear hO h0
    refine HC _ b (fun st t12 t13 => rnd (fun (s : (List aB)) => nW r3 uH s t12 t13) st) ?_ uH _ _ hl0
    intro st t12 t13 st2 rr hr
    obtain ⟨s, rfl, h1, rfl⟩ := VH hr
    clear hr
    intro Hr Gr hi hg
    obtain ⟨t4, rfl⟩ : ∃ x, x = s := ⟨_, rfl⟩
    dsimp only [Sum.elim_inl] at hi
    obtain rfl := hi
    replace h1 : nW r3 uH t4 t12 t13 = some st2 := h1
    unfold nW at h1
    obtain ⟨E1, hE, hO⟩ := zF hg
    refine yW (EG (hO.gm 0 _ rfl).2 (by kernel_rfl) (by kernel_rfl) ?_)
    refine cR [(3, (.rp (eL aG r3))), (4, (.lp lo8 0 0)), (11, (.fn (.func 69) [] [(.rp (eL aD uH))])), (12, (eL aG t12)), (13, (eL aE t13))] ?_
    refine aU aH 1 [11, 12] [(5, (eL aG t12))] ?_
    refine aT aH 1 ?_
    refine bB ?_
    refine cY [(3, (.rp (eL aG r3))), (4, (.lp lo8 0 0)), (5, (eL aG t12)), (6, (eL aE t13))] ?_
    refine aJ (⟨rfl, rfl, (hO.gm 0 _ rfl).2, ?_⟩)
    intro o1 ho1
    replace hO := hO.xZ o1
    refine bN 1 ?_
    refine aO ?_
    refine aT aH 3 ?_
    refine bO 2 ?_
    obtain ⟨x9, hx10, h1⟩ := aX h1
    refine cJ (EK t12 r3 _ hx10) hO ?_
    intro H hO
    refine cU ?_
    refine bP [3, 5] [(16, (aK x9))] ?_
    refine bF h1 (fun h1 => ?_) (fun h1 => ?_)
    · refine aO ?_
      refine aT aH 2 ?_
      refine bO 1 ?_
      refine nU 0 lo8 1 0 (eL aE t4) (eL aE t13) [(eL aE t4)] [(lo8, 1, [(eL aE t13)])] hO rfl (by kernel_rfl) ?_
      intro H hO
      refine cU ?_
      refine bD [(4, (.lp lo8 0 0))] ?_
      refine bE ?_
      refine cY [(4, (.lp lo8 0 0))] ?_
      obtain rfl := oI h1
      exact aJ (bJ (⟨(gF hO hE ho1 .dead).1, rfl, _, rfl, (gF hO hE ho1 _).2⟩))
    refine bH ?_
    refine cY [(4, (.lp lo8 0 0))] ?_
    obtain rfl := oI h1
    exact aJ (aV (⟨(gF hO hE ho1 .dead).1, rfl, _, rfl, (gF hO hE ho1 _).2⟩))
  · intro b lD lL H' G' hi hO
    rcases o0 with s | s
    · dsimp only [Sum.elim_inl] at hi
      obtain rfl := hi
      replace h0 : (some ([])) = some r := h0
      obtain ⟨hlL, hO⟩ := pZ hO
      refine ⟨_, _, hlL, (by intro e; cases e), ?_⟩
      refine cY [(4, (.lp lo8 0 0))] ?_
      refine aJ (aV (aI (?_)))
      refine aO ?_
      refine aT aH 1 ?_
      refine nU 0 lo8 1 0 (eL aE s) (.sl true 0 (fun _ => .bad)) [(eL aE s)] [(lo8, 1, [(.sl true 0 (fun _ => .bad))])] hO rfl (by kernel_rfl) ?_
      intro H hO
      refine cU ?_
      refine DL 0 lo8 1 (.sl true 0 (fun _ => .bad)) (eL aE ([])) [(lo8, 1, [(eL aE ([]))])] hO (by kernel_rfl) (by kernel_rfl) dW (by kernel_rfl) ?_
      intro H hO
      refine bD [(4, (.lp lo8 0 0))] ?_
      refine bE ?_
      obtain rfl := oI h0
      have hD := (hO.gm 0 _ rfl).2
      replace hO := (hO.xZ .dead).wD
      exact aJ (QM1 (.inr rfl) hD (rs := [.cell 4 31]) (xs := [(eL aE ([]))]) (x := (eL aE ([]))) (by kernel_rfl) (sM (lo := lo8) (k := 1) (y := (eL aE ([]))) (x := (eL aE ([]))) 0 hO (by kernel_rfl) (by kernel_rfl) (by kernel_rfl) (by kernel_rfl) tR) (by kernel_rfl) ⟨rfl, hO.out⟩)
    · dsimp only [Sum.elim_inr] at hi
      obtain rfl := hi
      replace h0 : (some s) = some r := h0
      obtain ⟨hlL, hO⟩ := pZ hO
      refine ⟨_, _, hlL, (by intro e; cases e), ?_⟩
      refine bE ?_
      obtain rfl := oI h0
      have hD := (hO.gm 0 _ rfl).2
      replace hO := (hO.xZ .dead).wD
      exact aJ (bJ (aP (QM1 (.inr rfl) hD (rs := [.cell 4 31]) (xs := [(eL aE s)]) (x := (eL aE s)) (by kernel_rfl) (sM (lo := lo8) (k := 1) (y := (eL aE s)) (x := (eL aE s)) 0 hO (by kernel_rfl) (by kernel_rfl) (by kernel_rfl) (by kernel_rfl) tR) (by kernel_rfl) ⟨rfl, hO.out⟩)))

theorem SP (s0 : dS) (r : Bool) (h0 : vD s0 = some r) : bR Try.prog 82 [(eJ s0)] (aK r) := by
  intro H0
  refine bY Try.func82 ?_
  have hO := aL.start H0
  unfold vD at h0
  refine aO ?_
  refine aT aH 2 ?_
  refine eX 2 (eJ s0) (by kernel_rfl) (by kernel_rfl) ?_
  refine bB ?_
  refine bD [(1, (.rp (eJ s0)))] ?_
  refine aO ?_
  refine aT aH 16 ?_
  refine bO 2 ?_
  obtain ⟨x1, hx2, h0⟩ := aX h0
  refine cJ (FJ s0.From _ hx2) hO ?_
  intro H hO
  refine bO 6 ?_
  obtain ⟨x4, hx5, h0⟩ := aX h0
  refine mG [(6, true)] 44 [(eI s0.To)] (aK x4) x1 (by kernel_rfl) (by kernel_rfl) (by kernel_rfl) (fun hb6 => (FJ s0.To _ (jO hx5 hb6))) hO ?_
  intro H hO
  refine bB ?_
  refine bD [(2, (aK ((x1 && x4) && (decide (s0.From < s0.To)))))] ?_
  refine bE ?_
  obtain rfl := oI h0
  exact aJ (Q_r hO)

theorem VP (r0 : (List aF)) (s1 : dS) (r : ((List aC) × Int)) (h0 : yI r0 s1 = some r) : bR Try.prog 40 [(eL aG r0), (eJ s1)] (.tup [(eL aD r.1), (eI r.2)]) := by
  intro H0
  refine bY Try.func40 ?_
  have hO := aL.start H0
  unfold yI at h0
  refine aO ?_
  refine aT aH 3 ?_
  refine eX 2 (eJ s1) (by kernel_rfl) (by kernel_rfl) ?_
  refine bB ?_
  refine bP [1] [(3, (.rp (eJ s1)))] ?_
  refine aO ?_
  refine aO ?_
  refine aT aH 3 ?_
  refine bO 1 ?_
  obtain ⟨x1, hx2, h0⟩ := aX h0
  refine cJ (yU r0 _ hx2) hO ?_
  intro H hO
  refine bB ?_
  refine bP [] [(8, (aK (!x1)))] ?_
  refine bF h0 (fun h0 => ?_) (fun h0 => ?_)
  · refine bM aH 2 [(4, (.sl true 0 (fun _ => .bad))), (5, (eI (2 : Int)))] ?_
    refine bE ?_
    refine cH (l := [(4, (eL aD ([]))), (5, (eI (2 : Int)))]) ⟨[(4, (.sl true 0 (fun _ => .bad))), (5, (eI (2 : Int)))], by kernel_rfl, rfl, ⟨dW, aS.refl _, trivial⟩⟩ ?_
    obtain rfl := oI h0
    exact aJ (aP (Q_r hO))
  refine bH ?_
  refine bD [(0, (eL aG r0)), (3, (.rp (eJ s1)))] ?_
  refine aO ?_
  refine aO ?_
  refine aT aH 3 ?_
  refine bO 1 ?_
  obtain ⟨x5, hx6, h0⟩ := aX h0
  refine cJ (SP s1 _ hx6) hO ?_
  intro H hO
  refine bB ?_
  refine bP [] [(11, (aK (!x5)))] ?_
  refine bF h0 (fun h0 => ?_) (fun h0 => ?_)
  · refine bM aH 2 [(4, (.sl true 0 (fun _ => .bad))), (5, (eI (14 : Int)))] ?_
    refine bE ?_
    refine cH (l := [(4, (eL aD ([]))), (5, (eI (14 : Int)))]) ⟨[(4, (.sl true 0 (fun _ => .bad))), (5, (eI (14 : Int)))], by kernel_rfl, rfl, ⟨dW, aS.refl _, trivial⟩⟩ ?_
    obtain rfl := oI h0
    exact aJ (aP (Q_r hO))
  refine bH ?_
  refine bD [(0, (eL aG r0)), (3, (.rp (eJ s1)))] ?_
  refine aO ?_
  refine aT aH 14 ?_
  refine bO 8 ?_
  refine mD (xs := [(aD (aC.mk r0 s1.From (1 : Int))), (aD (aC.mk r0 s1.To (-1 : Int)))]) (k := 3) (by kernel_rfl) (by kernel_rfl) ?_
  obtain ⟨x9, hx10, h0⟩ := aX h0
  refine YT 24 [(fV [(aD (aC.mk r0 s1.From (1 : Int))), (aD (aC.mk r0 s1.To (-1 : Int)))])] (.tup [(eL aD x9.1), (eI x9.2)]) (bR.sub (RI ([aC.mk r0 s1.From (1 : Int), aC.mk r0 s1.To (-1 : Int)]) _ hx10) ⟨FH (l := [aC.mk r0 s1.From (1 : Int), aC.mk r0 s1.To (-1 : Int)]), trivial⟩) hO ?_
  intro H hO
  refine bB ?_
  refine bD [(4, (eL aD x9.1)), (5, (eI x9.2))] ?_
  refine bE ?_
  obtain rfl := oI h0
  exact aJ (Q_r hO)

theorem nO (s10 : (List aC)) (s21 : (List aC)) (eq2_f : Nat) (eq2_a eq2_c : List V) (eq2 : aC → aC → Option Bool) (eq2_h : ∀ a0 a1 r, eq2 a0 a1 = some r → bR Try.prog eq2_f (eq2_a ++ [(aD a0), (aD a1)] ++ eq2_c) (aK r)) (r : Bool) (h0 : cS s10 s21 eq2 = some r) : bR Try.prog 83 [(eL aD s10), (eL aD s21), (.fn (.func eq2_f) eq2_a eq2_c)] (aK r) := by
  intro H0
  refine bY Try.func83 ?_
  have hO := aL.start H0
  unfold cS at h0
  refine aU aH 1 [] [] ?_
  refine aO ?_
  refine aU aH 5 [] [(14, (aK (!decide ((lN s10) = (lN s21)))))] ?_
  refine bF h0 (fun h0 => ?_) (fun h0 => ?_)
  · refine bM aH 1 [(6, (aK false))] ?_
    refine bE ?_
    obtain rfl := oI h0
    exact aJ (aP (Q_r hO))
  refine bH ?_
  refine bD [(0, (eL aD s10)), (1, (eL aD s21)), (2, (.fn (.func eq2_f) eq2_a eq2_c))] ?_
  refine cL (fun T H => Has T [] ∧ aL ⟨H0, [], []⟩ H [] ∧ cF eq2  = some r) ?_ ?_
  · clear hO h0
    rintro T H ⟨hT, hO, h0⟩
    refine aZ hT ?_
    clear hT
    unfold cF at h0
    refine bM aH 1 [(6, (aK true))] ?_
    refine bE ?_
    obtain rfl := oI h0
    exact aJ (Q_r hO)
  refine aU aH 3 [0] [(15, (eL aD s10)), (16, (eI (lN s10))), (17, (eI (0 : Int)))] ?_
  refine bN 0 ?_
  refine cR [(1, (eL aD s21)), (2, (.fn (.func eq2_f) eq2_a eq2_c)), (15, (eL aD s10)), (16, (eI (lN s10))), (17, (eI (0 : Int)))] ?_
  refine cG (fun T H => ∃ t15 : (List aC), ∃ t16 : Int, ∃ t17 : Int, Has T [(1, (eL aD s21)), (2, (.fn (.func eq2_f) eq2_a eq2_c)), (15, (eL aD t15)), (16, (eI t16)), (17, (eI t17))] ∧ aL ⟨H0, [], []⟩ H [] ∧ cO eq2 s21 t15 t16 t17 = some r) ?_ ⟨s10, (lN s10), (0 : Int), .eq (by kernel_rfl), hO, h0⟩
  clear hO h0
  rintro T H ⟨t15, t16, t17, hT, hO, h0⟩
  refine aZ hT ?_
  clear hT
  unfold cO at h0
  obtain ⟨rr0, hl0, h0⟩ := aX h0
  refine bV (by kernel_rfl) (fun (s : Int) T H => Has T [(1, (eL aD s21)), (2, (.fn (.func eq2_f) eq2_a eq2_c)), (15, (eL aD t15)), (16, (eI t16)), (17, (eI s))] ∧ aL ⟨H0, [], []⟩ H []) hl0 ⟨.eq (by kernel_rfl), hO⟩ ?_
  clear hO
  rintro k0 s out1 T H ⟨hT, hO⟩ h1 ho0
  obtain ⟨t17, rfl⟩ : ∃ x, x = s := ⟨_, rfl⟩
  replace h1 : bT eq2 s21 t15 t16 t17 = some out1 := h1
  refine aZ hT ?_
  clear hT
  unfold bT at h1
  refine aU aH 1 [] [(18, (aK (decide (t17 < t16))))] ?_
  refine aO ?_
  refine bF h1 (fun h1 => ?_) (fun h1 => ?_)
  · refine bH ?_
    refine bD [(1, (eL aD s21)), (2, (.fn (.func eq2_f) eq2_a eq2_c)), (15, (eL aD t15)), (16, (eI t16)), (17, (eI t17))] ?_
    refine aO ?_
    refine bN 1 ?_
    refine aO ?_
    refine aT aH 6 ?_
    obtain ⟨c3, h1⟩ := bA h1
    refine oG 3 [0 ≤ t17 ∧ t17 < (lN t15)] ⟨c3, trivial⟩ ?_
    refine yN 3 (.agg [(.sl true 0 (fun _ => .bad)), (eI 0), (eI 0)]) (aD (aC.mk ([]) 0 0)) (by kernel_rfl) (by kernel_rfl) (by kernel_rfl) (WE (xs := [(.sl true 0 (fun _ => .bad)), (eI 0), (eI 0)]) (ys := [(eL aG ([])), (eI 0), (eI 0)]) ⟨dW, aS.refl _, aS.refl _, trivial⟩) (by kernel_rfl) (by kernel_rfl) hO ?_
    intro lo4 H hO
    refine bO 5 ?_
    refine nU 0 lo4 3 0 (aD (aC.mk ([]) 0 0)) (aD (gD t15 t17)) [(aD (aC.mk ([]) 0 0))] [(lo4, 3, [(aD (gD t15 t17))])] hO rfl (by kernel_rfl) ?_
    intro H hO
    refine cU ?_
    refine bP [] [(7, (eI t17)), (8, (.lp lo4 0 0))] ?_
    refine aO ?_
    refine aT aH 6 ?_
    obtain ⟨c5, h1⟩ := bA h1
    refine oG 4 [0 ≤ t17 ∧ t17 < (lN s21)] ⟨c5, trivial⟩ ?_
    refine yN 3 (.agg [(.sl true 0 (fun _ => .bad)), (eI 0), (eI 0)]) (aD (aC.mk ([]) 0 0)) (by kernel_rfl) (by kernel_rfl) (by kernel_rfl) (WE (xs := [(.sl true 0 (fun _ => .bad)), (eI 0), (eI 0)]) (ys := [(eL aG ([])), (eI 0), (eI 0)]) ⟨dW, aS.refl _, aS.refl _, trivial⟩) (by kernel_rfl) (by kernel_rfl) hO ?_
    intro lo6 H hO
    refine nU 1 lo6 3 0 (aD (aC.mk ([]) 0 0)) (aD (gD s21 t17)) [(aD (aC.mk ([]) 0 0))] [(lo4, 3, [(aD (gD t15 t17))]), (lo6, 3, [(aD (gD s21 t17))])] hO rfl (by kernel_rfl) ?_
    intro H hO
    refine cU ?_
    refine bP [7] [(9, (.lp lo6 0 0))] ?_
    refine aO ?_
    refine aT aH 5 ?_
    refine bO 1 ?_
    refine zY 0 lo4 3 0 (aD (gD t15 t17)) (aD (gD t15 t17)) [(aD (gD t15 t17))] hO rfl ?_
    refine zY 1 lo6 3 0 (aD (gD s21 t17)) (aD (gD s21 t17)) [(aD (gD s21 t17))] hO rfl ?_
    obtain ⟨x7, hx8, h1⟩ := aX h1
    refine cJ (eq2_h (gD t15 t17) (gD s21 t17) _ hx8) hO ?_
    intro H hO
    refine bB ?_
    replace hO := hO.pick (L' := []) [] (by decide) (by kernel_rfl)
    refine bP [8, 9] [(30, (aK (!x7)))] ?_
    refine bF h1 (fun h1 => ?_) (fun h1 => ?_)
    · refine bM aH 1 [(6, (aK false))] ?_
      refine bE ?_
      obtain rfl := oI h1
      obtain rfl : _ = rr0 := ho0
      replace h0 : some false = some r := h0
      obtain rfl := oI h0
      exact aJ (bJ (aP (aP (bJ (aP (Q_r hO))))))
    refine bH ?_
    refine cY [(1, (eL aD s21)), (2, (.fn (.func eq2_f) eq2_a eq2_c)), (15, (eL aD t15)), (16, (eI t16)), (17, (eI t17))] ?_
    refine aJ (aV (aI (?_)))
    refine aT aH 2 ?_
    refine bB ?_
    exact aJ (aI (⟨rfl, _, (oI h1).symm, .eq (by kernel_rfl), hO⟩))
  refine dG 0 ?_
  obtain rfl := oI h1
  obtain rfl : _ = rr0 := ho0
  replace h0 : cF eq2  = some r := h0
  exact aJ (aR (aR (bL (aI (⟨rfl, .eq (by kernel_rfl), hO, h0⟩)))))

theorem ND (x0 : aC) (y1 : aC) (r : Bool) (h0 : pT x0 y1 = some r) : bR Try.prog 84 [(aD x0), (aD y1)] (aK r) := by
  intro H0
  refine bY Try.func84 ?_
  have hO := aL.start H0
  unfold pT at h0
  refine aO ?_
  refine aT aH 3 ?_
  refine eX 3 (aD x0) (by kernel_rfl) (by kernel_rfl) ?_
  refine eX 3 (aD y1) (by kernel_rfl) (by kernel_rfl) ?_
  refine bB ?_
  refine bD [(2, (.rp (aD x0))), (3, (.rp (aD y1)))] ?_
  refine aO ?_
  refine aT aH 20 ?_
  refine bO 17 ?_
  obtain ⟨x1, hx2, h0⟩ := aX h0
  refine mG [(17, true)] 77 [(eL aG x0.Row), (eL aG y1.Row)] (aK x1) ((decide (x0.At = y1.At)) && (decide (x0.Net = y1.Net))) (by kernel_rfl) (by kernel_rfl) (by kernel_rfl) (fun hb3 => (EK x0.Row y1.Row _ (jO hx2 hb3))) hO ?_
  intro H hO
  refine bB ?_
  refine bD [(4, (aK (((decide (x0.At = y1.At)) && (decide (x0.Net = y1.Net))) && x1)))] ?_
  refine bE ?_
  obtain rfl := oI h0
  exact aJ (Q_r hO)

theorem SK (a0 : (List aC)) (b1 : (List aC)) (r : Bool) (h0 : vG a0 b1 = some r) : bR Try.prog 41 [(eL aD a0), (eL aD b1)] (aK r) := by
  intro H0
  refine bY Try.func41 ?_
  have hO := aL.start H0
  unfold vG at h0
  refine aU aH 1 [] [] ?_
  refine aO ?_
  refine aT aH 4 ?_
  refine bO 2 ?_
  obtain ⟨x1, hx2, h0⟩ := aX h0
  refine cJ (nO a0 b1 84 [] [] (fun y0 y1 => pT y0 y1) (fun y0 y1 r h => ND y0 y1 r h) _ hx2) hO ?_
  intro H hO
  refine bB ?_
  refine bD [(4, (aK x1))] ?_
  refine bE ?_
  obtain rfl := oI h0
  exact aJ (Q_r hO)

theorem VN (f0 : (List aB)) (t1 : Int) (r : Int) (h0 : yA f0 t1 = some r) : bR Try.prog 42 [(eL aE f0), (eI t1)] (eI r) := by
  intro H0
  refine bY Try.func42 ?_
  have hO := aL.start H0
  unfold yA at h0
  refine aU aH 1 [] [] ?_
  refine aO ?_
  refine aO ?_
  refine aT aH 3 ?_
  refine bO 1 ?_
  obtain ⟨x1, hx2, h0⟩ := aX h0
  refine cJ (HK f0 _ hx2) hO ?_
  intro H hO
  refine bB ?_
  refine bP [] [(7, (aK (!x1)))] ?_
  refine bF h0 (fun h0 => ?_) (fun h0 => ?_)
  · refine bM aH 1 [(4, (eI (0 : Int)))] ?_
    refine bE ?_
    obtain rfl := oI h0
    exact aJ (aP (Q_r hO))
  refine bH ?_
  refine bD [(0, (eL aE f0)), (1, (eI t1))] ?_
  refine aO ?_
  refine aT aH 4 ?_
  refine bO 2 ?_
  obtain ⟨x5, hx6, h0⟩ := aX h0
  refine cJ (EP f0 t1 _ hx6) hO ?_
  intro H hO
  refine bB ?_
  refine bD [(4, (eI x5))] ?_
  refine bE ?_
  obtain rfl := oI h0
  exact aJ (Q_r hO)

theorem KV (r0 : (List aF)) (s1 : dS) (r : Bool) (h0 : uM r0 s1 = some r) : bR Try.prog 10 [(eL aG r0), (eJ s1)] (aK r) := by
  intro H0
  refine bY Try.func10 ?_
  have hO := aL.start H0
  unfold uM at h0
  refine aO ?_
  refine aT aH 2 ?_
  refine eX 2 (eJ s1) (by kernel_rfl) (by kernel_rfl) ?_
  refine bB ?_
  refine bP [1] [(3, (.rp (eJ s1)))] ?_
  refine aO ?_
  refine aT aH 8 ?_
  refine bO 2 ?_
  obtain ⟨x1, hx2, h0⟩ := aX h0
  refine cJ (GA r0 s1 _ hx2) hO ?_
  intro H hO
  refine bB ?_
  refine bP [] [(5, (eL aD x1.1)), (6, (eI x1.2))] ?_
  refine aO ?_
  refine aT aH 8 ?_
  refine bO 2 ?_
  obtain ⟨x4, hx5, h0⟩ := aX h0
  refine cJ (VP r0 s1 _ hx5) hO ?_
  intro H hO
  refine bB ?_
  refine bP [] [(7, (eL aD x4.1)), (8, (eI x4.2))] ?_
  refine aO ?_
  obtain ⟨x7, hx8, h0⟩ := aX h0
  obtain ⟨x9, hx10, h0⟩ := aX h0
  obtain ⟨x11, hx12, h0⟩ := aX h0
  obtain ⟨x13, hx14, h0⟩ := aX h0
  obtain ⟨x15, hx16, h0⟩ := aX h0
  obtain ⟨x17, hx18, h0⟩ := aX h0
  refine hU (hM [48]) aH 34 ?_
  refine yH (K := fun T H => Has (lift T) [(4, (aK ((((x7 && (decide (x1.2 = x4.2))) && x9) && x11) && ((!decide (x1.2 = (0 : Int))) || (x13 && (decide (x17 = (1 : Int))))))))] ∧ aL ⟨H0, [], []⟩ H []) ?_ ?_
  · refine qT 22 [] (aK x7) (by kernel_rfl) (by kernel_rfl) (PY  _ hx8) hO ?_
    intro H hO
    refine mT 2 ?_
    refine nS (t := 22) (e := x7) (by kernel_rfl) (fun hg19 => ?_) (fun hg19 => ?_)
    · refine mT 7 ?_
      refine nS (t := 27) (e := decide (x1.2 = x4.2)) (by kernel_rfl) (fun hg20 => ?_) (fun hg20 => ?_)
      · refine mT 9 ?_
        refine qT 16 [(eL aD x1.1), (eL aD x4.1)] (aK x9) (by kernel_rfl) (by kernel_rfl) (RE x1.1 x4.1 _ (jO hx10 (eH hg19 hg20))) hO ?_
        intro H hO
        refine mT 12 ?_
        refine nS (t := 32) (e := x9) (by kernel_rfl) (fun hg21 => ?_) (fun hg21 => ?_)
        · refine mT 14 ?_
          refine qT 41 [(eL aD x1.1), (eL aD x4.1)] (aK x11) (by kernel_rfl) (by kernel_rfl) (SK x1.1 x4.1 _ (jO hx12 (eH (eH hg19 hg20) hg21))) hO ?_
          intro H hO
          refine mT 17 ?_
          refine nS (t := 37) (e := x11) (by kernel_rfl) (fun hg22 => ?_) (fun hg22 => ?_)
          · refine mT 20 ?_
            refine nS (t := 40) (e := !decide (x1.2 = (0 : Int))) (by kernel_rfl) (fun hg23 => ?_) (fun hg23 => ?_)
            · refine jN ?_
              exact ⟨⟨[(4, (aK true))], by kernel_rfl, rfl, ⟨aS.eq (by first | (simp only [aK, hg19, hg20, hg21, hg22, hg23, Bool.not_true, Bool.not_false, Bool.true_and, Bool.and_true, Bool.false_and, Bool.and_false, Bool.or_true, Bool.true_or, Bool.or_false, Bool.false_or, cond_true, cond_false]; done) | simp [aK, hg19, hg20, hg21, hg22, hg23]), trivial⟩⟩, hO⟩
            refine mT 21 ?_
            refine qT 17 [(eL aD x1.1)] (aK x13) (by kernel_rfl) (by kernel_rfl) (GK x1.1 _ (jO hx14 (eH (BW hg23) (eH (eH (eH hg19 hg20) hg21) hg22)))) hO ?_
            intro H hO
            refine mT 23 ?_
            refine nS (t := 43) (e := x13) (by kernel_rfl) (fun hg24 => ?_) (fun hg24 => ?_)
            · refine mT 25 ?_
              refine qT 35 [(eL aD x1.1), (eL aG r0)] (eL aE x15) (by kernel_rfl) (by kernel_rfl) (QX x1.1 r0 _ (jO hx16 (eH hg24 (eH (BW hg23) (eH (eH (eH hg19 hg20) hg21) hg22))))) hO ?_
              intro H hO
              refine mT 28 ?_
              refine qT 42 [(eL aE x15), (eI s1.From)] (eI x17) (by kernel_rfl) (by kernel_rfl) (VN x15 s1.From _ (jO hx18 (eH hg24 (eH (BW hg23) (eH (eH (eH hg19 hg20) hg21) hg22))))) hO ?_
              intro H hO
              refine jN ?_
              exact ⟨⟨[(4, (aK (decide (x17 = (1 : Int)))))], by kernel_rfl, rfl, ⟨aS.eq (congrArg aK (eH (eH (eH (eH hg19 hg20) hg21) hg22) (QE hg23 (eH hg24 rfl))).symm), trivial⟩⟩, hO⟩
            refine jN ?_
            exact ⟨⟨[(4, (aK false))], by kernel_rfl, rfl, ⟨aS.eq (congrArg aK (eH (eH (eH (eH hg19 hg20) hg21) hg22) (QE hg23 (eH hg24 rfl))).symm), trivial⟩⟩, hO⟩
          refine jN ?_
          exact ⟨⟨[(4, (aK false))], by kernel_rfl, rfl, ⟨aS.eq (by first | (simp only [aK, hg19, hg20, hg21, hg22, Bool.not_true, Bool.not_false, Bool.true_and, Bool.and_true, Bool.false_and, Bool.and_false, Bool.or_true, Bool.true_or, Bool.or_false, Bool.false_or, cond_true, cond_false]; done) | simp [aK, hg19, hg20, hg21, hg22]), trivial⟩⟩, hO⟩
        refine jN ?_
        exact ⟨⟨[(4, (aK false))], by kernel_rfl, rfl, ⟨aS.eq (by first | (simp only [aK, hg19, hg20, hg21, Bool.not_true, Bool.not_false, Bool.true_and, Bool.and_true, Bool.false_and, Bool.and_false, Bool.or_true, Bool.true_or, Bool.or_false, Bool.false_or, cond_true, cond_false]; done) | simp [aK, hg19, hg20, hg21]), trivial⟩⟩, hO⟩
      refine jN ?_
      exact ⟨⟨[(4, (aK false))], by kernel_rfl, rfl, ⟨aS.eq (by first | (simp only [aK, hg19, hg20, Bool.not_true, Bool.not_false, Bool.true_and, Bool.and_true, Bool.false_and, Bool.and_false, Bool.or_true, Bool.true_or, Bool.or_false, Bool.false_or, cond_true, cond_false]; done) | simp [aK, hg19, hg20]), trivial⟩⟩, hO⟩
    refine jN ?_
    exact ⟨⟨[(4, (aK false))], by kernel_rfl, rfl, ⟨aS.eq (by first | (simp only [aK, hg19, Bool.not_true, Bool.not_false, Bool.true_and, Bool.and_true, Bool.false_and, Bool.and_false, Bool.or_true, Bool.true_or, Bool.or_false, Bool.false_or, cond_true, cond_false]; done) | simp [aK, hg19]), trivial⟩⟩, hO⟩
  · rintro T H ⟨hT, hO⟩
    refine cH hT ?_
    clear hT
    refine aJ (aI ?_)
    refine bE ?_
    obtain rfl := oI h0
    exact aJ (Q_r hO)

end Go.Abs
namespace Go.Abs
open Go Go.RowKit Go.Proofs
theorem FI {H : Type} {enc : TypeId × Value → H} {w : World} : yZ enc Try.prog w 60 aG xX :=
  GN Try.underlying60 (by kernel_rfl) (vI (c' := HI) (ok' := xX) (fun (a : Int) (b : Int × ByteArray × Unit) => (aF.mk a b.1 b.2.1 : aF)) (by kernel_rfl) (CC Try.underlying58) (vI (c' := fun (b : Int × ByteArray × Unit) => (V.cells (wL .i64 b.1) ++ (V.cells (yQ b.2.1) ++ []))) (ok' := fun b => (EE b.1 ∧ ((fun s => s.size ≤ maxLen) b.2.1 ∧ True))) (fun a b => (a, b)) (by kernel_rfl) (CC Try.underlying3) (vI (c' := fun (b : ByteArray × Unit) => (V.cells (yQ b.1) ++ [])) (ok' := fun b => ((fun s => s.size ≤ maxLen) b.1 ∧ True)) (fun a b => (a, b)) (by kernel_rfl) (PN Try.underlying9) (JS ()) (fun _ _ => rfl) (fun _ _ h1 h2 => ⟨h1, h2⟩)) (fun _ _ => rfl) (fun _ _ h1 h2 => ⟨h1, h2⟩)) (fun _ _ => rfl) (fun _ _ h1 h2 => ⟨h1, h2⟩))

theorem HE {H : Type} {enc : TypeId × Value → H} {w : World} : yZ enc Try.prog w 54 eJ yY :=
  GN Try.underlying54 (by kernel_rfl) (vI (c' := DQ) (ok' := yY) (fun (a : Int) (b : Int × Unit) => (dS.mk a b.1 : dS)) (by kernel_rfl) (CC Try.underlying3) (vI (c' := fun (b : Int × Unit) => (V.cells (wL .i64 b.1) ++ [])) (ok' := fun b => (EE b.1 ∧ True)) (fun a b => (a, b)) (by kernel_rfl) (CC Try.underlying3) (JS ()) (fun _ _ => rfl) (fun _ _ h1 h2 => ⟨h1, h2⟩)) (fun _ _ => rfl) (fun _ _ h1 h2 => ⟨h1, h2⟩))

end Go.Abs
namespace Go.Abs
open Go
theorem jJ {n : Int} (h1 : -9223372036854775808 ≤ n) (h2 : n ≤ 9223372036854775807) : IntKind.i64.wrap n = n := by
  simp only [IntKind.wrap, IntKind.bits, IntKind.signed]
  simp
  split <;> omega

def wA {α st R : Type} (step : st → α → Option (st ⊕ R)) (fin : st → R) : st → List α → Option R
  | s, [] => some (fin s)
  | s, a :: r => match step s a with
    | some (.inl s') => wA step fin s' r
    | some (.inr x) => some x
    | none => none

theorem UK {α st R : Type} {step : st → α → Option (st ⊕ R)} {fin : st → R} {s s' : st} {a : α} {r : List α} (h : step s a = some (.inl s')) : wA step fin s (a :: r) = wA step fin s' r := by
  simp only [wA, h]

theorem UR {α st R : Type} {step : st → α → Option (st ⊕ R)} {fin : st → R} {s : st} {x : R} {a : α} {r : List α} (h : step s a = some (.inr x)) : wA step fin s (a :: r) = some x := by
  simp only [wA, h]

theorem TF {α S st R : Type} {body : S → Option (S ⊕ R)} {l : List α} (mk : st → Int → S) (step : st → α → Option (st ⊕ R)) (fin : st → R)
    (hn : ∀ (i : Nat) a s, l[i]? = some a → (∀ s', step s a = some (.inl s') → body (mk s i) = some (.inl (mk s' ((i + 1 : Nat) : Int)))) ∧ (∀ x, step s a = some (.inr x) → body (mk s i) = some (.inr x)))
    (he : ∀ s, body (mk s (l.length : Nat)) = some (.inr (fin s))) : ∀ (m k : Nat) (s : st) (r : R), l.length - k = m → k ≤ l.length → wA step fin s (l.drop k) = some r → lp body (mk s k) = some r
  | 0, k, s, r, hm, hk, h => by
    have : k = l.length := by omega
    subst this
    rw [List.drop_length] at h
    simp only [wA, Option.some.injEq] at h
    subst h
    exact cK (he s)
  | m + 1, k, s, r, hm, hk, h => by
    have hlt : k < l.length := by omega
    have hd : l.drop k = l[k] :: l.drop (k + 1) := List.drop_eq_getElem_cons hlt
    rw [hd] at h
    simp only [wA] at h
    obtain ⟨h1, h2⟩ := hn k l[k] s (List.getElem?_eq_getElem hlt)
    split at h
    · rename_i s' hs
      rw [eS (h1 s' hs)]
      exact TF mk step fin hn he m (k + 1) s' r (by omega) (by omega) h
    · rename_i x hs
      simp at h; subst h
      exact cK (h2 x hs)
    · cases h

theorem ZP {α S st R : Type} {body : S → Option (S ⊕ R)} {l : List α} (mk : st → Int → S) (step : st → α → Option (st ⊕ R)) (fin : st → R)
    (hn : ∀ (i : Nat) a s, l[i]? = some a → (∀ s', step s a = some (.inl s') → body (mk s i) = some (.inl (mk s' ((i + 1 : Nat) : Int)))) ∧ (∀ x, step s a = some (.inr x) → body (mk s i) = some (.inr x)))
    (he : ∀ s, body (mk s (l.length : Nat)) = some (.inr (fin s))) {s : st} {r : R} (h : wA step fin s l = some r) : lp body (mk s 0) = some r :=
  TF mk step fin hn he _ 0 s r rfl (Nat.zero_le _) (by simpa using h)

theorem idx {α : Type} [Inhabited α] {l : List α} {i : Nat} {a : α} (h : l[i]? = some a) (hl : l.length < 4611686018427387904) :
    decide ((i : Int) < ((l.length : Nat) : Int)) = true ∧ (0 ≤ (i : Int) ∧ (i : Int) < ((l.length : Nat) : Int)) ∧ l.getD (Int.toNat (i : Int)) default = a ∧ IntKind.i64.wrap ((i : Int) + 1) = ((i + 1 : Nat) : Int) := by
  have hlt : i < l.length := (List.getElem?_eq_some_iff.1 h).1
  refine ⟨by simpa using hlt, ⟨by omega, by omega⟩, ?_, ?_⟩
  · rw [Int.toNat_natCast, List.getD_eq_getElem?_getD, h]; rfl
  · rw [jJ (by omega) (by omega)]; omega

theorem dY {n : Nat} : decide (((n : Nat) : Int) < ((n : Nat) : Int)) = false := by simp

theorem aBF {α : Type} {j : α} {r : List α} : (0 : Int) ≤ 0 ∧ (0 : Int) < ((List.length (j :: r) : Nat) : Int) := ⟨by omega, by simp⟩

theorem aBg {α : Type} [Inhabited α] {j : α} {r : List α} : List.getD (j :: r) (Int.toNat (0 : Int)) default = j := rfl

end Go.Abs
namespace Go.Abs
open Go
theorem drop_cons {α : Type} {l r : List α} {a : α} {k : Nat} (h : l.drop k = a :: r) : l[k]? = some a ∧ l.drop (k + 1) = r := by
  have hk : k < l.length := by
    apply Classical.byContradiction; intro hn
    rw [List.drop_eq_nil_of_le (by omega)] at h; cases h
  rw [List.drop_eq_getElem_cons hk] at h
  obtain ⟨h1, h2⟩ := List.cons.inj h
  exact ⟨by rw [List.getElem?_eq_getElem hk, h1], h2⟩

theorem XW {α S st R : Type} {body : S → Option (S ⊕ R)} {l : List α} (mk : st → Int → S) (G : st → List α → R) (Inv : st → List α → Prop)
    (hn : ∀ (i : Nat) a r s, l[i]? = some a → Inv s (a :: r) → (∃ s', body (mk s i) = some (.inl (mk s' ((i + 1 : Nat) : Int))) ∧ Inv s' r ∧ G s' r = G s (a :: r)) ∨ body (mk s i) = some (.inr (G s (a :: r))))
    (he : ∀ s, Inv s [] → body (mk s (l.length : Nat)) = some (.inr (G s []))) : ∀ (r : List α) (k : Nat) (s : st), l.drop k = r → k ≤ l.length → Inv s r → lp body (mk s k) = some (G s r)
  | [], k, s, hd, hk, hi => by
    have : k = l.length := by
      have := congrArg List.length hd
      simp only [List.length_drop, List.length_nil] at this; omega
    subst this
    exact cK (he s hi)
  | a :: r, k, s, hd, hk, hi => by
    obtain ⟨h1, h2⟩ := drop_cons hd
    have hlt : k < l.length := (List.getElem?_eq_some_iff.1 h1).1
    rcases hn k a r s h1 hi with ⟨s', hb, hi', hg⟩ | hb
    · rw [eS hb, XW mk G Inv hn he r (k + 1) s' h2 (by omega) hi', hg]
    · exact cK hb

theorem nR {α S st R : Type} {body : S → Option (S ⊕ R)} {l : List α} (mk : st → Int → S) (G : st → List α → R) (Inv : st → List α → Prop) (s : st)
    (hn : ∀ (i : Nat) a r s, l[i]? = some a → Inv s (a :: r) → (∃ s', body (mk s i) = some (.inl (mk s' ((i + 1 : Nat) : Int))) ∧ Inv s' r ∧ G s' r = G s (a :: r)) ∨ body (mk s i) = some (.inr (G s (a :: r))))
    (he : ∀ s, Inv s [] → body (mk s (l.length : Nat)) = some (.inr (G s []))) (hi : Inv s l) : lp body (mk s 0) = some (G s l) :=
  XW mk G Inv hn he l 0 s rfl (Nat.zero_le _) hi

theorem KP {α S R : Type} {body : S → Option (S ⊕ R)} {l : List α} (mk : Int → S) (bad : α → Bool) (x y : R)
    (hn : ∀ (i : Nat) a, l[i]? = some a → body (mk i) = some (if bad a then .inr x else .inl (mk ((i + 1 : Nat) : Int))))
    (he : body (mk (l.length : Nat)) = some (.inr y)) : lp body (mk 0) = some (if l.any bad then x else y) := by
  refine nR (st := Unit) (fun _ i => mk i) (fun _ r => if r.any bad then x else y) (fun _ _ => True) () ?_ ?_ trivial
  · intro i a r s ha _
    have hb := hn i a ha
    cases h : bad a
    · left; refine ⟨(), ?_, trivial, ?_⟩
      · simpa [h] using hb
      · simp [List.any_cons, h]
    · right; simpa [h, List.any_cons] using hb
  · intro _ _; simpa using he

end Go.Abs
namespace Go.Abs
open Go
noncomputable def zR {α : Type} [Inhabited α] (cmp3 : α → α → Option Int) (aA : List α) (a1 : Int) (b2 : Int) (i8 : Int) : Option ((List α × Int) ⊕ ((List α))) :=
  some (.inl (aA, IntKind.i64.wrap (i8 + (1 : Int))))

noncomputable def lS {α : Type} [Inhabited α] (cmp3 : α → α → Option Int) (a1 : Int) (b2 : Int) (i8 : Int) (aA : List α) (j9 : Int) : Option ((List α × Int) ⊕ ((List α))) :=
  bC ((((decide (a1 < j9))) = true → 0 ≤ j9 ∧ j9 < ((List.length aA : Nat) : Int))) <|
  bC ((((decide (a1 < j9))) = true → 0 ≤ (IntKind.i64.wrap (j9 - (1 : Int))) ∧ (IntKind.i64.wrap (j9 - (1 : Int))) < ((List.length aA : Nat) : Int))) <|
  (cN (decide (a1 < j9)) (cmp3 (List.getD aA (Int.toNat j9) default) (List.getD aA (Int.toNat (IntKind.i64.wrap (j9 - (1 : Int)))) default))).bind fun x3 =>
  cond ((decide (a1 < j9)) && (decide (x3 < (0 : Int))))
  (bC (0 ≤ (IntKind.i64.wrap (j9 - (1 : Int))) ∧ (IntKind.i64.wrap (j9 - (1 : Int))) < ((List.length aA : Nat) : Int)) <|
  bC (0 ≤ j9 ∧ j9 < ((List.length aA : Nat) : Int)) <|
  bC (0 ≤ j9 ∧ j9 < ((List.length aA : Nat) : Int)) <|
  bC (0 ≤ (IntKind.i64.wrap (j9 - (1 : Int))) ∧ (IntKind.i64.wrap (j9 - (1 : Int))) < ((List.length aA : Nat) : Int)) <|
  some (.inl (List.set (List.set aA (Int.toNat j9) (List.getD aA (Int.toNat (IntKind.i64.wrap (j9 - (1 : Int)))) default)) (Int.toNat (IntKind.i64.wrap (j9 - (1 : Int)))) (List.getD aA (Int.toNat j9) default), IntKind.i64.wrap (j9 - (1 : Int)))))
  (some (.inr aA))

noncomputable def zN {α : Type} [Inhabited α] (cmp3 : α → α → Option Int) (aA : List α) (a1 : Int) (b2 : Int) (i8 : Int) (j9 : Int) : Option ((List α × Int) ⊕ ((List α))) :=
  (lp (fun s => lS cmp3 a1 b2 i8 s.1 s.2) (aA, j9)).bind (fun rr => zR cmp3 rr a1 b2 i8)

noncomputable def jU {α : Type} [Inhabited α] (cmp3 : α → α → Option Int) (a1 : Int) (b2 : Int) (aA : List α) (i8 : Int) : Option ((List α × Int) ⊕ ((List α))) :=
  cond (decide (i8 < b2))
  (zN cmp3 aA a1 b2 i8 i8)
  (some (.inr aA))

noncomputable def zT {α : Type} [Inhabited α] (cmp3 : α → α → Option Int) (aA : List α) (a1 : Int) (b2 : Int) (i8 : Int) : Option (List α) :=
  (lp (fun s => jU cmp3 a1 b2 s.1 s.2) (aA, i8)).bind (fun rr => some rr)

noncomputable def nF {α : Type} [Inhabited α] (aA : (List α)) (a1 : Int) (b2 : Int) (cmp3 : α → α → Option Int) : Option (List α) :=
  zT cmp3 aA a1 b2 (IntKind.i64.wrap (a1 + (1 : Int)))

noncomputable def oV {α : Type} [Inhabited α] (cmp4 : α → α → Option Int) (a1 : Int) (b2 : Int) (n3 : Int) (aA : List α) (i10 : Int) : Option ((List α × Int) ⊕ ((List α))) :=
  cond (decide (i10 < n3))
  (bC (0 ≤ (IntKind.i64.wrap (b2 + i10)) ∧ (IntKind.i64.wrap (b2 + i10)) < ((List.length aA : Nat) : Int)) <|
  bC (0 ≤ (IntKind.i64.wrap (a1 + i10)) ∧ (IntKind.i64.wrap (a1 + i10)) < ((List.length aA : Nat) : Int)) <|
  bC (0 ≤ (IntKind.i64.wrap (a1 + i10)) ∧ (IntKind.i64.wrap (a1 + i10)) < ((List.length aA : Nat) : Int)) <|
  bC (0 ≤ (IntKind.i64.wrap (b2 + i10)) ∧ (IntKind.i64.wrap (b2 + i10)) < ((List.length aA : Nat) : Int)) <|
  some (.inl (List.set (List.set aA (Int.toNat (IntKind.i64.wrap (a1 + i10))) (List.getD aA (Int.toNat (IntKind.i64.wrap (b2 + i10))) default)) (Int.toNat (IntKind.i64.wrap (b2 + i10))) (List.getD aA (Int.toNat (IntKind.i64.wrap (a1 + i10))) default), IntKind.i64.wrap (i10 + (1 : Int)))))
  (some (.inr aA))

noncomputable def CS {α : Type} [Inhabited α] (cmp4 : α → α → Option Int) (aA : List α) (a1 : Int) (b2 : Int) (n3 : Int) (i10 : Int) : Option (List α) :=
  (lp (fun s => oV cmp4 a1 b2 n3 s.1 s.2) (aA, i10)).bind (fun rr => some rr)

noncomputable def tJ {α : Type} [Inhabited α] (aA : (List α)) (a1 : Int) (b2 : Int) (n3 : Int) (cmp4 : α → α → Option Int) : Option (List α) :=
  CS cmp4 aA a1 b2 n3 (0 : Int)

noncomputable def CK {α : Type} [Inhabited α] (cmp4 : α → α → Option Int) (aA : List α) (m2 : Int) (i10 : Int) : Option (List α) :=
  (tJ aA (IntKind.i64.wrap (m2 - i10)) m2 i10 cmp4).bind fun x1 =>
  some x1

noncomputable def lY {α : Type} [Inhabited α] (cmp4 : α → α → Option Int) (m2 : Int) (aA : List α) (i10 : Int) (j11 : Int) : Option ((List α × Int × Int) ⊕ ((List α × Int))) :=
  cond (!decide (i10 = j11))
  (cond (decide (j11 < i10))
  ((tJ aA (IntKind.i64.wrap (m2 - i10)) m2 j11 cmp4).bind fun x4 =>
  some (.inl (x4, IntKind.i64.wrap (i10 - j11), j11)))
  ((tJ aA (IntKind.i64.wrap (m2 - i10)) (IntKind.i64.wrap ((IntKind.i64.wrap (m2 + j11)) - i10)) i10 cmp4).bind fun x7 =>
  some (.inl (x7, i10, IntKind.i64.wrap (j11 - i10)))))
  (some (.inr (aA, i10)))

noncomputable def HR {α : Type} [Inhabited α] (cmp4 : α → α → Option Int) (aA : List α) (m2 : Int) (i10 : Int) (j11 : Int) : Option (List α) :=
  (lp (fun s => lY cmp4 m2 s.1 s.2.1 s.2.2) (aA, i10, j11)).bind (fun rr => CK cmp4 rr.1 m2 rr.2)

noncomputable def CA {α : Type} [Inhabited α] (aA : (List α)) (a1 : Int) (m2 : Int) (b3 : Int) (cmp4 : α → α → Option Int) : Option (List α) :=
  HR cmp4 aA m2 (IntKind.i64.wrap (m2 - a1)) (IntKind.i64.wrap (b3 - m2))

noncomputable def AD {α : Type} [Inhabited α] (cmp4 : α → α → Option Int) (rec : (List α) → Int → Int → Int → Option (List α)) (aA : List α) (b3 : Int) (bQ : Int) (dV : Int) : Option (List α) :=
  cond ((decide (bQ < dV)) && (decide (dV < b3)))
  ((rec aA bQ dV b3).bind fun x2 =>
  some x2)
  (some aA)

noncomputable def pO {α : Type} [Inhabited α] (cmp4 : α → α → Option Int) (rec : (List α) → Int → Int → Int → Option (List α)) (aA : List α) (a1 : Int) (b3 : Int) (bQ : Int) (aQ : Int) (dV : Int) : Option (List α) :=
  cond ((decide (a1 < aQ)) && (decide (aQ < bQ)))
  ((rec aA a1 aQ bQ).bind fun x6 =>
  AD cmp4 rec x6 b3 bQ dV)
  (AD cmp4 rec aA b3 bQ dV)

noncomputable def EW {α : Type} [Inhabited α] (cmp4 : α → α → Option Int) (rec : (List α) → Int → Int → Int → Option (List α)) (aA : List α) (a1 : Int) (m2 : Int) (b3 : Int) (bQ : Int) (n19 : Int) (aQ : Int) : Option (List α) :=
  cond ((decide (aQ < m2)) && (decide (m2 < (IntKind.i64.wrap (n19 - aQ)))))
  ((CA aA aQ m2 (IntKind.i64.wrap (n19 - aQ)) cmp4).bind fun x10 =>
  pO cmp4 rec x10 a1 b3 bQ aQ (IntKind.i64.wrap (n19 - aQ)))
  (pO cmp4 rec aA a1 b3 bQ aQ (IntKind.i64.wrap (n19 - aQ)))

noncomputable def nX {α : Type} [Inhabited α] (cmp4 : α → α → Option Int) (rec : (List α) → Int → Int → Int → Option (List α)) (a1 : Int) (m2 : Int) (b3 : Int) (bQ : Int) (n19 : Int) (p22 : Int) (aA : List α) (aQ : Int) (r21 : Int) : Option ((List α × Int × Int) ⊕ ((List α × Int))) :=
  cond (decide (aQ < r21))
  (bC (0 ≤ (1 : Int)) <|
  bC (0 ≤ (IntKind.i64.wrap (p22 - (IntKind.i64.wrap (Int.fdiv (IntKind.u64.wrap (IntKind.i64.wrap (aQ + r21))) (2 ^ (min (Int.toNat (1 : Int)) 64)))))) ∧ (IntKind.i64.wrap (p22 - (IntKind.i64.wrap (Int.fdiv (IntKind.u64.wrap (IntKind.i64.wrap (aQ + r21))) (2 ^ (min (Int.toNat (1 : Int)) 64)))))) < ((List.length aA : Nat) : Int)) <|
  bC (0 ≤ (IntKind.i64.wrap (Int.fdiv (IntKind.u64.wrap (IntKind.i64.wrap (aQ + r21))) (2 ^ (min (Int.toNat (1 : Int)) 64)))) ∧ (IntKind.i64.wrap (Int.fdiv (IntKind.u64.wrap (IntKind.i64.wrap (aQ + r21))) (2 ^ (min (Int.toNat (1 : Int)) 64)))) < ((List.length aA : Nat) : Int)) <|
  (cmp4 (List.getD aA (Int.toNat (IntKind.i64.wrap (p22 - (IntKind.i64.wrap (Int.fdiv (IntKind.u64.wrap (IntKind.i64.wrap (aQ + r21))) (2 ^ (min (Int.toNat (1 : Int)) 64))))))) default) (List.getD aA (Int.toNat (IntKind.i64.wrap (Int.fdiv (IntKind.u64.wrap (IntKind.i64.wrap (aQ + r21))) (2 ^ (min (Int.toNat (1 : Int)) 64))))) default)).bind fun x17 =>
  cond (!(decide (x17 < (0 : Int))))
  (some (.inl (aA, IntKind.i64.wrap ((IntKind.i64.wrap (Int.fdiv (IntKind.u64.wrap (IntKind.i64.wrap (aQ + r21))) (2 ^ (min (Int.toNat (1 : Int)) 64)))) + (1 : Int)), r21)))
  (some (.inl (aA, aQ, IntKind.i64.wrap (Int.fdiv (IntKind.u64.wrap (IntKind.i64.wrap (aQ + r21))) (2 ^ (min (Int.toNat (1 : Int)) 64)))))))
  (some (.inr (aA, aQ)))

noncomputable def ER {α : Type} [Inhabited α] (cmp4 : α → α → Option Int) (rec : (List α) → Int → Int → Int → Option (List α)) (aA : List α) (a1 : Int) (m2 : Int) (b3 : Int) (bQ : Int) (n19 : Int) (aQ : Int) (r21 : Int) (p22 : Int) : Option (List α) :=
  (lp (fun s => nX cmp4 rec a1 m2 b3 bQ n19 p22 s.1 s.2.1 s.2.2) (aA, aQ, r21)).bind (fun rr => EW cmp4 rec rr.1 a1 m2 b3 bQ n19 rr.2)

noncomputable def wH {α : Type} [Inhabited α] (cmp4 : α → α → Option Int) (rec : (List α) → Int → Int → Int → Option (List α)) (aA : List α) (a1 : Int) (m2 : Int) (b3 : Int) (bQ : Int) (n19 : Int) (aQ : Int) (r21 : Int) : Option (List α) :=
  ER cmp4 rec aA a1 m2 b3 bQ n19 aQ r21 (IntKind.i64.wrap (n19 - (1 : Int)))

noncomputable def vS {α : Type} [Inhabited α] (cmp4 : α → α → Option Int) (rec : (List α) → Int → Int → Int → Option (List α)) (aA : List α) (a1 : Int) (m2 : Int) (b3 : Int) : Option (List α) :=
  bC (0 ≤ (1 : Int)) <|
  cond (decide ((IntKind.i64.wrap (Int.fdiv (IntKind.u64.wrap (IntKind.i64.wrap (a1 + b3))) (2 ^ (min (Int.toNat (1 : Int)) 64)))) < m2))
  (wH cmp4 rec aA a1 m2 b3 (IntKind.i64.wrap (Int.fdiv (IntKind.u64.wrap (IntKind.i64.wrap (a1 + b3))) (2 ^ (min (Int.toNat (1 : Int)) 64)))) (IntKind.i64.wrap ((IntKind.i64.wrap (Int.fdiv (IntKind.u64.wrap (IntKind.i64.wrap (a1 + b3))) (2 ^ (min (Int.toNat (1 : Int)) 64)))) + m2)) (IntKind.i64.wrap ((IntKind.i64.wrap ((IntKind.i64.wrap (Int.fdiv (IntKind.u64.wrap (IntKind.i64.wrap (a1 + b3))) (2 ^ (min (Int.toNat (1 : Int)) 64)))) + m2)) - b3)) (IntKind.i64.wrap (Int.fdiv (IntKind.u64.wrap (IntKind.i64.wrap (a1 + b3))) (2 ^ (min (Int.toNat (1 : Int)) 64)))))
  (wH cmp4 rec aA a1 m2 b3 (IntKind.i64.wrap (Int.fdiv (IntKind.u64.wrap (IntKind.i64.wrap (a1 + b3))) (2 ^ (min (Int.toNat (1 : Int)) 64)))) (IntKind.i64.wrap ((IntKind.i64.wrap (Int.fdiv (IntKind.u64.wrap (IntKind.i64.wrap (a1 + b3))) (2 ^ (min (Int.toNat (1 : Int)) 64)))) + m2)) a1 m2)

noncomputable def EX {α : Type} [Inhabited α] (cmp4 : α → α → Option Int) (rec : (List α) → Int → Int → Int → Option (List α)) (aA : List α) : Option (List α) :=
  some aA

noncomputable def nC {α : Type} [Inhabited α] (cmp4 : α → α → Option Int) (rec : (List α) → Int → Int → Int → Option (List α)) (i14 : Int) (aA : List α) (k17 : Int) : Option ((List α × Int) ⊕ ((List α))) :=
  cond (decide (i14 < k17))
  (bC (0 ≤ (IntKind.i64.wrap (k17 - (1 : Int))) ∧ (IntKind.i64.wrap (k17 - (1 : Int))) < ((List.length aA : Nat) : Int)) <|
  bC (0 ≤ k17 ∧ k17 < ((List.length aA : Nat) : Int)) <|
  bC (0 ≤ k17 ∧ k17 < ((List.length aA : Nat) : Int)) <|
  bC (0 ≤ (IntKind.i64.wrap (k17 - (1 : Int))) ∧ (IntKind.i64.wrap (k17 - (1 : Int))) < ((List.length aA : Nat) : Int)) <|
  some (.inl (List.set (List.set aA (Int.toNat k17) (List.getD aA (Int.toNat (IntKind.i64.wrap (k17 - (1 : Int)))) default)) (Int.toNat (IntKind.i64.wrap (k17 - (1 : Int)))) (List.getD aA (Int.toNat k17) default), IntKind.i64.wrap (k17 - (1 : Int)))))
  (some (.inr aA))

noncomputable def DD {α : Type} [Inhabited α] (cmp4 : α → α → Option Int) (rec : (List α) → Int → Int → Int → Option (List α)) (aA : List α) (i14 : Int) (k17 : Int) : Option (List α) :=
  (lp (fun s => nC cmp4 rec i14 s.1 s.2) (aA, k17)).bind (fun rr => EX cmp4 rec rr)

noncomputable def EO {α : Type} [Inhabited α] (cmp4 : α → α → Option Int) (rec : (List α) → Int → Int → Int → Option (List α)) (aA : List α) (m2 : Int) (i14 : Int) : Option (List α) :=
  DD cmp4 rec aA i14 m2

noncomputable def nD {α : Type} [Inhabited α] (cmp4 : α → α → Option Int) (rec : (List α) → Int → Int → Int → Option (List α)) (m2 : Int) (aA : List α) (i14 : Int) (j15 : Int) : Option ((List α × Int × Int) ⊕ ((List α × Int))) :=
  cond (decide (i14 < j15))
  (bC (0 ≤ (1 : Int)) <|
  bC (0 ≤ m2 ∧ m2 < ((List.length aA : Nat) : Int)) <|
  bC (0 ≤ (IntKind.i64.wrap (Int.fdiv (IntKind.u64.wrap (IntKind.i64.wrap (i14 + j15))) (2 ^ (min (Int.toNat (1 : Int)) 64)))) ∧ (IntKind.i64.wrap (Int.fdiv (IntKind.u64.wrap (IntKind.i64.wrap (i14 + j15))) (2 ^ (min (Int.toNat (1 : Int)) 64)))) < ((List.length aA : Nat) : Int)) <|
  (cmp4 (List.getD aA (Int.toNat m2) default) (List.getD aA (Int.toNat (IntKind.i64.wrap (Int.fdiv (IntKind.u64.wrap (IntKind.i64.wrap (i14 + j15))) (2 ^ (min (Int.toNat (1 : Int)) 64))))) default)).bind fun x31 =>
  cond (!(decide (x31 < (0 : Int))))
  (some (.inl (aA, IntKind.i64.wrap ((IntKind.i64.wrap (Int.fdiv (IntKind.u64.wrap (IntKind.i64.wrap (i14 + j15))) (2 ^ (min (Int.toNat (1 : Int)) 64)))) + (1 : Int)), j15)))
  (some (.inl (aA, i14, IntKind.i64.wrap (Int.fdiv (IntKind.u64.wrap (IntKind.i64.wrap (i14 + j15))) (2 ^ (min (Int.toNat (1 : Int)) 64)))))))
  (some (.inr (aA, i14)))

noncomputable def CV {α : Type} [Inhabited α] (cmp4 : α → α → Option Int) (rec : (List α) → Int → Int → Int → Option (List α)) (aA : List α) (m2 : Int) (i14 : Int) (j15 : Int) : Option (List α) :=
  (lp (fun s => nD cmp4 rec m2 s.1 s.2.1 s.2.2) (aA, i14, j15)).bind (fun rr => EO cmp4 rec rr.1 m2 rr.2)

noncomputable def zW {α : Type} [Inhabited α] (cmp4 : α → α → Option Int) (rec : (List α) → Int → Int → Int → Option (List α)) (aA : List α) (a1 : Int) (m2 : Int) (b3 : Int) : Option (List α) :=
  cond (decide ((IntKind.i64.wrap (b3 - m2)) = (1 : Int)))
  (CV cmp4 rec aA m2 a1 m2)
  (vS cmp4 rec aA a1 m2 b3)

noncomputable def DF {α : Type} [Inhabited α] (cmp4 : α → α → Option Int) (rec : (List α) → Int → Int → Int → Option (List α)) (aA : List α) : Option (List α) :=
  some aA

noncomputable def nH {α : Type} [Inhabited α] (cmp4 : α → α → Option Int) (rec : (List α) → Int → Int → Int → Option (List α)) (i10 : Int) (aA : List α) (k13 : Int) : Option ((List α × Int) ⊕ ((List α))) :=
  cond (decide (k13 < (IntKind.i64.wrap (i10 - (1 : Int)))))
  (bC (0 ≤ (IntKind.i64.wrap (k13 + (1 : Int))) ∧ (IntKind.i64.wrap (k13 + (1 : Int))) < ((List.length aA : Nat) : Int)) <|
  bC (0 ≤ k13 ∧ k13 < ((List.length aA : Nat) : Int)) <|
  bC (0 ≤ k13 ∧ k13 < ((List.length aA : Nat) : Int)) <|
  bC (0 ≤ (IntKind.i64.wrap (k13 + (1 : Int))) ∧ (IntKind.i64.wrap (k13 + (1 : Int))) < ((List.length aA : Nat) : Int)) <|
  some (.inl (List.set (List.set aA (Int.toNat k13) (List.getD aA (Int.toNat (IntKind.i64.wrap (k13 + (1 : Int)))) default)) (Int.toNat (IntKind.i64.wrap (k13 + (1 : Int)))) (List.getD aA (Int.toNat k13) default), IntKind.i64.wrap (k13 + (1 : Int)))))
  (some (.inr aA))

noncomputable def CQ {α : Type} [Inhabited α] (cmp4 : α → α → Option Int) (rec : (List α) → Int → Int → Int → Option (List α)) (aA : List α) (i10 : Int) (k13 : Int) : Option (List α) :=
  (lp (fun s => nH cmp4 rec i10 s.1 s.2) (aA, k13)).bind (fun rr => DF cmp4 rec rr)

noncomputable def CW {α : Type} [Inhabited α] (cmp4 : α → α → Option Int) (rec : (List α) → Int → Int → Int → Option (List α)) (aA : List α) (a1 : Int) (i10 : Int) : Option (List α) :=
  CQ cmp4 rec aA i10 a1

noncomputable def nB {α : Type} [Inhabited α] (cmp4 : α → α → Option Int) (rec : (List α) → Int → Int → Int → Option (List α)) (a1 : Int) (aA : List α) (i10 : Int) (j11 : Int) : Option ((List α × Int × Int) ⊕ ((List α × Int))) :=
  cond (decide (i10 < j11))
  (bC (0 ≤ (1 : Int)) <|
  bC (0 ≤ (IntKind.i64.wrap (Int.fdiv (IntKind.u64.wrap (IntKind.i64.wrap (i10 + j11))) (2 ^ (min (Int.toNat (1 : Int)) 64)))) ∧ (IntKind.i64.wrap (Int.fdiv (IntKind.u64.wrap (IntKind.i64.wrap (i10 + j11))) (2 ^ (min (Int.toNat (1 : Int)) 64)))) < ((List.length aA : Nat) : Int)) <|
  bC (0 ≤ a1 ∧ a1 < ((List.length aA : Nat) : Int)) <|
  (cmp4 (List.getD aA (Int.toNat (IntKind.i64.wrap (Int.fdiv (IntKind.u64.wrap (IntKind.i64.wrap (i10 + j11))) (2 ^ (min (Int.toNat (1 : Int)) 64))))) default) (List.getD aA (Int.toNat a1) default)).bind fun x45 =>
  cond (decide (x45 < (0 : Int)))
  (some (.inl (aA, IntKind.i64.wrap ((IntKind.i64.wrap (Int.fdiv (IntKind.u64.wrap (IntKind.i64.wrap (i10 + j11))) (2 ^ (min (Int.toNat (1 : Int)) 64)))) + (1 : Int)), j11)))
  (some (.inl (aA, i10, IntKind.i64.wrap (Int.fdiv (IntKind.u64.wrap (IntKind.i64.wrap (i10 + j11))) (2 ^ (min (Int.toNat (1 : Int)) 64)))))))
  (some (.inr (aA, i10)))

noncomputable def CR {α : Type} [Inhabited α] (cmp4 : α → α → Option Int) (rec : (List α) → Int → Int → Int → Option (List α)) (aA : List α) (a1 : Int) (i10 : Int) (j11 : Int) : Option (List α) :=
  (lp (fun s => nB cmp4 rec a1 s.1 s.2.1 s.2.2) (aA, i10, j11)).bind (fun rr => CW cmp4 rec rr.1 a1 rr.2)

noncomputable def dX {α : Type} [Inhabited α] (cmp4 : α → α → Option Int) (rec : (List α) → Int → Int → Int → Option (List α)) (aA : (List α)) (a1 : Int) (m2 : Int) (b3 : Int) : Option (List α) :=
  cond (decide ((IntKind.i64.wrap (m2 - a1)) = (1 : Int)))
  (CR cmp4 rec aA a1 m2 b3)
  (zW cmp4 rec aA a1 m2 b3)

noncomputable def dZ {α : Type} [Inhabited α] (cmp4 : α → α → Option Int) : Nat → (List α) → Int → Int → Int → Option (List α)
  | 0 => fun _ _ _ _ => none
  | k + 1 => dX cmp4 (dZ cmp4 k)

noncomputable def oR {α : Type} [Inhabited α] (aA : (List α)) (a1 : Int) (m2 : Int) (b3 : Int) (cmp4 : α → α → Option Int) : Option (List α) := ID (fun k => dZ cmp4 k aA a1 m2 b3)

noncomputable def zB {α : Type} [Inhabited α] (cmp2 : α → α → Option Int) (aA : List α) (n1 : Int) (aN : Int) : Option ((List α × Int) ⊕ ((List α))) :=
  some (.inl (aA, IntKind.i64.wrap (aN * (2 : Int))))

noncomputable def uW {α : Type} [Inhabited α] (cmp2 : α → α → Option Int) (aA : List α) (n1 : Int) (aN : Int) (a7 : Int) : Option ((List α × Int) ⊕ ((List α))) :=
  cond (decide ((IntKind.i64.wrap (a7 + aN)) < n1))
  ((oR aA a7 (IntKind.i64.wrap (a7 + aN)) n1 cmp2).bind fun x4 =>
  zB cmp2 x4 n1 aN)
  (zB cmp2 aA n1 aN)

noncomputable def lZ {α : Type} [Inhabited α] (cmp2 : α → α → Option Int) (n1 : Int) (aN : Int) (aA : List α) (a7 : Int) (b8 : Int) : Option ((List α × Int × Int) ⊕ ((List α × Int))) :=
  cond (decide (b8 ≤ n1))
  ((oR aA a7 (IntKind.i64.wrap (a7 + aN)) b8 cmp2).bind fun x8 =>
  some (.inl (x8, b8, IntKind.i64.wrap (b8 + (IntKind.i64.wrap ((2 : Int) * aN))))))
  (some (.inr (aA, a7)))

noncomputable def vF {α : Type} [Inhabited α] (cmp2 : α → α → Option Int) (aA : List α) (n1 : Int) (aN : Int) (a7 : Int) (b8 : Int) : Option ((List α × Int) ⊕ ((List α))) :=
  (lp (fun s => lZ cmp2 n1 aN s.1 s.2.1 s.2.2) (aA, a7, b8)).bind (fun rr => uW cmp2 rr.1 n1 aN rr.2)

noncomputable def jV {α : Type} [Inhabited α] (cmp2 : α → α → Option Int) (n1 : Int) (aA : List α) (aN : Int) : Option ((List α × Int) ⊕ ((List α))) :=
  cond (decide (aN < n1))
  (vF cmp2 aA n1 aN (0 : Int) (IntKind.i64.wrap ((2 : Int) * aN)))
  (some (.inr aA))

noncomputable def zI {α : Type} [Inhabited α] (cmp2 : α → α → Option Int) (aA : List α) (n1 : Int) (aN : Int) : Option (List α) :=
  (lp (fun s => jV cmp2 n1 s.1 s.2) (aA, aN)).bind (fun rr => some rr)

noncomputable def yX {α : Type} [Inhabited α] (cmp2 : α → α → Option Int) (aA : List α) (n1 : Int) (aN : Int) (a7 : Int) : Option (List α) :=
  (nF aA a7 n1 cmp2).bind fun x1 =>
  zI cmp2 x1 n1 aN

noncomputable def mB {α : Type} [Inhabited α] (cmp2 : α → α → Option Int) (n1 : Int) (aN : Int) (aA : List α) (a7 : Int) (b8 : Int) : Option ((List α × Int × Int) ⊕ ((List α × Int))) :=
  cond (decide (b8 ≤ n1))
  ((nF aA a7 b8 cmp2).bind fun x13 =>
  some (.inl (x13, b8, IntKind.i64.wrap (b8 + aN))))
  (some (.inr (aA, a7)))

noncomputable def zG {α : Type} [Inhabited α] (cmp2 : α → α → Option Int) (aA : List α) (n1 : Int) (aN : Int) (a7 : Int) (b8 : Int) : Option (List α) :=
  (lp (fun s => mB cmp2 n1 aN s.1 s.2.1 s.2.2) (aA, a7, b8)).bind (fun rr => yX cmp2 rr.1 n1 aN rr.2)

noncomputable def wW {α : Type} [Inhabited α] (aA : (List α)) (n1 : Int) (cmp2 : α → α → Option Int) : Option (List α) :=
  zG cmp2 aA n1 (20 : Int) (0 : Int) (20 : Int)

end Go.Abs
namespace Go.Abs
open Go
variable {α : Type} [Inhabited α]
structure Cmp {β : Type} (ok : β → Prop) (le : β → β → Prop) (cmp : β → β → Option Int) : Prop where
  ans : ∀ x y, ok x → ok y → ∃ v, cmp x y = some v ∧ (v < 0 ↔ ¬ le y x)
  trans : ∀ x y z, ok x → ok y → ok z → le x y → le y z → le x z
  total : ∀ x y, ok x → ok y → le x y ∨ le y x

abbrev Srt {β : Type} (le : β → β → Prop) (l : List β) : Prop := l.Pairwise le

abbrev Oks {β : Type} (ok : β → Prop) (l : List β) : Prop := ∀ x ∈ l, ok x

theorem ZG {Q R : List α} {x : α} : (Q ++ x :: R).getD Q.length default = x := by simp [List.getD_eq_getElem?_getD]

theorem aAS {β : Type} {Q R : List β} {x y : β} : (Q ++ x :: R).set Q.length y = Q ++ y :: R := by simp

theorem pX {Q R d : List α} {x : α} {n : Nat} (hd : d = Q ++ x :: R) (hn : n = Q.length) : d.getD n default = x := by subst hd; subst hn; exact ZG

theorem CT {β : Type} {Q R d : List β} {x y : β} {n : Nat} (hd : d = Q ++ x :: R) (hn : n = Q.length) : d.set n y = Q ++ y :: R := by subst hd; subst hn; exact aAS

theorem wr {n : Int} (h1 : -1099511627776 ≤ n) (h2 : n ≤ 8796093022208) : IntKind.i64.wrap n = n := jJ (by omega) (by omega)

theorem RG {β : Type} {Q M R d : List β} {x y : β} {a b : Nat} (hd : d = Q ++ x :: (M ++ y :: R)) (ha : a = Q.length) (hb : b = Q.length + 1 + M.length) : (d.set a y).set b x = Q ++ y :: (M ++ x :: R) := by
  rw [CT hd ha, CT (Q := Q ++ y :: M) (x := y) (R := R) (by simp) (by simp; omega)]
  simp

section ins
variable {ok : α → Prop} {le : α → α → Prop} {cmp : α → α → Option Int}
theorem ET {A T : List α} {x : α} {a b i : Int} {P : List α} (ha : a = (P.length : Nat)) (hl : (P ++ A ++ x :: T).length ≤ 1099511627776)
    (hs : A = [] ∨ ∃ A' y v, A = A' ++ [y] ∧ cmp x y = some v ∧ ¬ v < 0) : lS cmp a b i (P ++ A ++ x :: T) ((P.length + A.length : Nat) : Int) = some (.inr (P ++ A ++ x :: T)) := by
  simp only [List.length_append, List.length_cons] at hl
  unfold lS
  rcases hs with rfl | ⟨A', y, v, rfl, hc, hv⟩
  · have h : decide (a < ((P.length + ([] : List α).length : Nat) : Int)) = false := by subst ha; simp
    rw [h, aW (fun h => by cases h), aW (fun h => by cases h)]
    simp [cN]
  · simp only [List.length_append, List.length_cons, List.length_nil] at hl ⊢
    have h : decide (a < ((P.length + (A'.length + (0 + 1)) : Nat) : Int)) = true := by subst ha; simp; omega
    have hw : IntKind.i64.wrap (((P.length + (A'.length + (0 + 1)) : Nat) : Int) - 1) = ((P.length + A'.length : Nat) : Int) := by rw [wr (by omega) (by omega)]; omega
    have g1 : (P ++ (A' ++ [y]) ++ x :: T).getD (P.length + (A'.length + (0 + 1))) default = x := pX (Q := P ++ (A' ++ [y])) rfl (by simp)
    have g2 : (P ++ (A' ++ [y]) ++ x :: T).getD (P.length + A'.length) default = y := pX (Q := P ++ A') (R := x :: T) (by simp) (by simp)
    rw [h, hw, aW (fun _ => ⟨by omega, by omega⟩), aW (fun _ => ⟨by omega, by omega⟩)]
    rw [Int.toNat_natCast, Int.toNat_natCast, g1, g2]
    simp [cN, hc, hv]

theorem RS {A T : List α} {x y : α} {v : Int} {a b i : Int} {P : List α} (ha : a = (P.length : Nat)) (hl : (P ++ (A ++ [y]) ++ x :: T).length ≤ 1099511627776)
    (hc : cmp x y = some v) (hv : v < 0) : lS cmp a b i (P ++ (A ++ [y]) ++ x :: T) ((P.length + (A ++ [y]).length : Nat) : Int) = some (.inl (P ++ A ++ x :: (y :: T), ((P.length + A.length : Nat) : Int))) := by
  simp only [List.length_append, List.length_cons, List.length_nil] at hl ⊢
  unfold lS
  have h : decide (a < ((P.length + (A.length + (0 + 1)) : Nat) : Int)) = true := by subst ha; simp; omega
  have hw : IntKind.i64.wrap (((P.length + (A.length + (0 + 1)) : Nat) : Int) - 1) = ((P.length + A.length : Nat) : Int) := by rw [wr (by omega) (by omega)]; omega
  have g1 : (P ++ (A ++ [y]) ++ x :: T).getD (P.length + (A.length + (0 + 1))) default = x := pX (Q := P ++ (A ++ [y])) rfl (by simp)
  have g2 : (P ++ (A ++ [y]) ++ x :: T).getD (P.length + A.length) default = y := pX (Q := P ++ A) (R := x :: T) (by simp) (by simp)
  have hs : ((P ++ (A ++ [y]) ++ x :: T).set (P.length + (A.length + (0 + 1))) y).set (P.length + A.length) x = P ++ A ++ x :: (y :: T) := by
    rw [CT (Q := P ++ (A ++ [y])) (x := x) (R := T) rfl (by simp), CT (Q := P ++ A) (x := y) (R := y :: T) (by simp) (by simp)]
  have b1 : 0 ≤ ((P.length + (A.length + (0 + 1)) : Nat) : Int) ∧ ((P.length + (A.length + (0 + 1)) : Nat) : Int) < ((List.length (P ++ (A ++ [y]) ++ x :: T) : Nat) : Int) := ⟨by omega, by simp only [List.length_append, List.length_cons, List.length_nil]; omega⟩
  have b2 : 0 ≤ ((P.length + A.length : Nat) : Int) ∧ ((P.length + A.length : Nat) : Int) < ((List.length (P ++ (A ++ [y]) ++ x :: T) : Nat) : Int) := ⟨by omega, by simp only [List.length_append, List.length_cons, List.length_nil]; omega⟩
  rw [h, hw, aW (fun _ => b1), aW (fun _ => b2), Int.toNat_natCast, Int.toNat_natCast, g1, g2]
  simp only [cN, cond_true, hc, Option.bind_some, Bool.true_and, decide_eq_true hv]
  rw [aW b2, aW b1, aW b1, aW b2, hs]

theorem VW (C : Cmp ok le cmp) {x : α} (hx : ok x) {a b i : Int} {P : List α} (ha : a = (P.length : Nat)) : ∀ (n : Nat) (A B T : List α), A.length = n → Oks ok A → Oks ok B → Srt le (A ++ B) → (∀ y ∈ B, ¬ le y x) → (P ++ A ++ x :: (B ++ T)).length ≤ 1099511627776 →
    ∃ D, D.Perm (A ++ x :: B) ∧ Srt le D ∧ lp (fun s : List α × Int => lS cmp a b i s.1 s.2) (P ++ A ++ x :: (B ++ T), ((P.length + A.length : Nat) : Int)) = some (P ++ D ++ T) := by
  intro n
  induction n with
  | zero =>
    intro A B T hn _ hB hs hlt hl
    have hA : A = [] := List.length_eq_zero_iff.1 hn
    subst hA
    refine ⟨x :: B, List.Perm.refl _, ?_, ?_⟩
    · refine List.pairwise_cons.2 ⟨fun y hy => ?_, by simpa using hs⟩
      rcases C.total x y hx (hB y hy) with h | h
      · exact h
      · exact absurd h (hlt y hy)
    · rw [cK (ET ha hl (Or.inl rfl))]; simp
  | succ n ih =>
    intro A B T hn hA hB hs hlt hl
    obtain ⟨A', y, rfl⟩ : ∃ A' y, A = A' ++ [y] := by
      rcases List.eq_nil_or_concat A with h | ⟨A', y, h⟩
      · rw [h] at hn; simp at hn
      · exact ⟨A', y, by simpa using h⟩
    have hy : ok y := hA y (by simp)
    obtain ⟨v, hc, hv⟩ := C.ans x y hx hy
    by_cases hneg : v < 0
    · have hb := RS (i := i) (b := b) ha hl hc hneg
      have hl' : (P ++ A' ++ x :: ((y :: B) ++ T)).length ≤ 1099511627776 := by
        simp only [List.length_append, List.length_cons, List.length_nil] at hl ⊢; omega
      obtain ⟨D, d1, d2, d3⟩ := ih A' (y :: B) T (by simpa using hn) (fun z hz => hA z (by simp [hz])) (fun z hz => by rcases List.mem_cons.1 hz with rfl | hz; exact hy; exact hB z hz) (by simpa using hs)
        (fun z hz => by rcases List.mem_cons.1 hz with rfl | hz; exact hv.1 hneg; exact hlt z hz) hl'
      refine ⟨D, d1.trans ?_, d2, ?_⟩
      · simp only [List.append_assoc, List.singleton_append]
        exact List.Perm.append_left _ (List.Perm.swap ..)
      · rw [eS hb]; simpa using d3
    · refine ⟨A' ++ [y] ++ x :: B, List.Perm.refl _, ?_, ?_⟩
      · have hyx : le y x := Classical.byContradiction fun h => hneg (hv.2 h)
        simp only [Srt, List.pairwise_append] at hs ⊢
        obtain ⟨s1, s2, s3⟩ := hs
        refine ⟨s1, List.pairwise_cons.2 ⟨fun z hz => ?_, s2⟩, ?_⟩
        · rcases C.total x z hx (hB z hz) with h | h
          · exact h
          · exact absurd h (hlt z hz)
        · intro z hz w hw
          rcases List.mem_cons.1 hw with rfl | hw
          · rcases List.mem_append.1 hz with hz' | hz'
            · exact C.trans z y w (hA z hz) hy hx (s1.2.2 z hz' y (by simp)) hyx
            · rw [List.mem_singleton] at hz'; subst hz'; exact hyx
          · exact s3 z hz w hw
      · rw [cK (ET ha hl (Or.inr ⟨A', y, v, rfl, hc, hneg⟩))]
        simp

theorem LS (C : Cmp ok le cmp) {a b : Int} {P : List α} (ha : a = (P.length : Nat)) : ∀ (B A T : List α), Oks ok A → Oks ok B → Srt le A → b = ((P.length + A.length + B.length : Nat) : Int) → (P ++ A ++ (B ++ T)).length ≤ 1099511627776 →
    ∃ D, D.Perm (A ++ B) ∧ Srt le D ∧ lp (fun s : List α × Int => jU cmp a b s.1 s.2) (P ++ A ++ (B ++ T), ((P.length + A.length : Nat) : Int)) = some (P ++ D ++ T)
  | [], A, T, _, _, hs, hb, _ => by
    refine ⟨A, by simp, hs, cK ?_⟩
    have : decide (((P.length + A.length : Nat) : Int) < b) = false := by subst hb; simp
    simp only [jU, this, cond_false, List.nil_append]
  | x :: B, A, T, hA, hB, hs, hb, hl => by
    obtain ⟨D, d1, d2, d3⟩ := VW C (hB x (by simp)) (b := b) (i := ((P.length + A.length : Nat) : Int)) ha A.length A [] (B ++ T) rfl hA (by intro z hz; simp at hz) (by simpa using hs) (by simp) (by simpa using hl)
    have hD : D.length = A.length + 1 := by rw [d1.length_eq]; simp
    have hlt : decide (((P.length + A.length : Nat) : Int) < b) = true := by subst hb; simp; omega
    have hbod : (fun s : List α × Int => jU cmp a b s.1 s.2) (P ++ A ++ (x :: B ++ T), ((P.length + A.length : Nat) : Int)) = some (.inl (P ++ D ++ (B ++ T), ((P.length + D.length : Nat) : Int))) := by
      show jU cmp a b _ _ = _
      simp only [jU, hlt, cond_true, zN]
      rw [show P ++ A ++ (x :: B ++ T) = P ++ A ++ x :: ([] ++ (B ++ T)) by simp, d3]
      simp only [Option.bind_some, zR]
      rw [wr (by omega) (by simp only [List.length_append, List.length_cons] at hl; omega), hD]
      congr 1
    have hl' : (P ++ D ++ (B ++ T)).length ≤ 1099511627776 := by simp only [List.length_append, List.length_cons] at hl ⊢; omega
    obtain ⟨E, e1, e2, e3⟩ := LS C (b := b) ha B D T (fun z hz => by
      have := d1.mem_iff.1 hz
      rcases List.mem_append.1 this with h | h
      · exact hA z h
      · rw [List.mem_singleton] at h; subst h; exact hB z (by simp)) (fun z hz => hB z (by simp [hz])) d2 (by rw [hb]; simp only [List.length_cons]; congr 1; omega) hl'
    refine ⟨E, e1.trans ?_, e2, by rw [eS hbod]; exact e3⟩
    have := d1.append_right B
    simpa using this

theorem VX (C : Cmp ok le cmp) {P A T : List α} {a b : Int} (ha : a = (P.length : Nat)) (hb : b = ((P.length + A.length : Nat) : Int)) (hA : Oks ok A) (hl : (P ++ A ++ T).length ≤ 1099511627776) :
    ∃ D, D.Perm A ∧ Srt le D ∧ nF (P ++ A ++ T) a b cmp = some (P ++ D ++ T) := by
  unfold nF zT
  simp only [List.length_append] at hl
  cases A with
  | nil =>
    refine ⟨[], List.Perm.refl _, List.Pairwise.nil, ?_⟩
    rw [cK (r := P ++ [] ++ T)]
    · rfl
    · have : decide (IntKind.i64.wrap (a + 1) < b) = false := by
        rw [wr (by omega) (by omega)]; subst ha; subst hb; simp; omega
      simp only [jU, this, cond_false]
  | cons x A =>
    simp only [List.length_cons] at hl
    have hw : IntKind.i64.wrap (a + 1) = ((P.length + [x].length : Nat) : Int) := by rw [wr (by omega) (by omega)]; subst ha; simp
    obtain ⟨D, d1, d2, d3⟩ := LS C (b := b) ha A [x] T (fun z hz => by rw [List.mem_singleton] at hz; subst hz; exact hA z (by simp)) (fun z hz => hA z (by simp [hz])) (by simp) (by rw [hb]; simp only [List.length_cons, List.length_nil]; congr 1; omega) (by simp only [List.length_append, List.length_cons, List.length_nil]; omega)
    refine ⟨D, by simpa using d1, d2, ?_⟩
    rw [hw, show P ++ x :: A ++ T = P ++ [x] ++ (A ++ T) by simp, d3]
    rfl

end ins
theorem GC {cmp : α → α → Option Int} {a b n : Int} : ∀ (X Y Q Z R : List α) (i : Nat), X.length = Y.length → a + i = (Q.length : Nat) → b + i = ((Q.length + X.length + Z.length : Nat) : Int) → n = ((i + X.length : Nat) : Int) → 0 ≤ a → 0 ≤ b → (Q ++ X ++ Z ++ Y ++ R).length ≤ 1099511627776 →
    lp (fun s : List α × Int => oV cmp a b n s.1 s.2) (Q ++ X ++ Z ++ Y ++ R, ((i : Nat) : Int)) = some (Q ++ Y ++ Z ++ X ++ R)
  | [], Y, Q, Z, R, i, hxy, ha, hb, hn, _, _, hl => by
    have : Y = [] := List.length_eq_zero_iff.1 hxy.symm
    subst this
    refine cK ?_
    have : decide (((i : Nat) : Int) < n) = false := by subst hn; simp
    simp only [oV, this, cond_false]
  | x :: X, [], Q, Z, R, i, hxy, _, _, _, _, _, _ => by simp at hxy
  | x :: X, y :: Y, Q, Z, R, i, hxy, ha, hb, hn, ha0, hb0, hl => by
    simp only [List.length_append, List.length_cons] at hl hb hn hxy
    have hlt : decide (((i : Nat) : Int) < n) = true := by subst hn; simp; omega
    have wa : IntKind.i64.wrap (a + i) = ((Q.length : Nat) : Int) := by rw [wr (by omega) (by omega)]; exact ha
    have wb : IntKind.i64.wrap (b + i) = ((Q.length + 1 + (X ++ Z).length : Nat) : Int) := by rw [wr (by omega) (by omega), hb]; simp only [List.length_append]; congr 1; omega
    have wi : IntKind.i64.wrap (((i : Nat) : Int) + 1) = ((i + 1 : Nat) : Int) := by rw [wr (by omega) (by omega)]; omega
    have hd : Q ++ x :: X ++ Z ++ y :: Y ++ R = Q ++ x :: ((X ++ Z) ++ y :: (Y ++ R)) := by simp
    have b1 : 0 ≤ ((Q.length : Nat) : Int) ∧ ((Q.length : Nat) : Int) < ((List.length (Q ++ x :: X ++ Z ++ y :: Y ++ R) : Nat) : Int) := ⟨by omega, by simp only [List.length_append, List.length_cons]; omega⟩
    have b2 : 0 ≤ ((Q.length + 1 + (X ++ Z).length : Nat) : Int) ∧ ((Q.length + 1 + (X ++ Z).length : Nat) : Int) < ((List.length (Q ++ x :: X ++ Z ++ y :: Y ++ R) : Nat) : Int) := ⟨by omega, by simp only [List.length_append, List.length_cons]; omega⟩
    have g1 : (Q ++ x :: X ++ Z ++ y :: Y ++ R).getD Q.length default = x := pX hd rfl
    have g2 : (Q ++ x :: X ++ Z ++ y :: Y ++ R).getD (Q.length + 1 + (X ++ Z).length) default = y := pX (Q := Q ++ x :: X ++ Z) (R := Y ++ R) (by simp) (by simp; omega)
    have hbod : (fun s : List α × Int => oV cmp a b n s.1 s.2) (Q ++ x :: X ++ Z ++ y :: Y ++ R, ((i : Nat) : Int)) = some (.inl ((Q ++ [y]) ++ X ++ (Z ++ [x]) ++ Y ++ R, ((i + 1 : Nat) : Int))) := by
      show oV cmp a b n _ _ = _
      simp only [oV, hlt, cond_true, wa, wb, wi, aW b1, aW b2, Int.toNat_natCast, g1, g2]
      rw [RG hd rfl rfl]
      simp
    rw [eS hbod, GC X Y (Q ++ [y]) (Z ++ [x]) R (i + 1) (by omega) (by simp; omega) (by simp; omega) (by rw [hn]; congr 1; omega) ha0 hb0 (by simp only [List.length_append, List.length_cons, List.length_nil]; omega)]
    simp

theorem KU {cmp : α → α → Option Int} {a b n : Int} {X Y Q Z R d : List α} (hd : d = Q ++ X ++ Z ++ Y ++ R) (hxy : X.length = Y.length) (ha : a = (Q.length : Nat)) (hb : b = ((Q.length + X.length + Z.length : Nat) : Int)) (hn : n = (X.length : Nat)) (hl : d.length ≤ 1099511627776) :
    tJ d a b n cmp = some (Q ++ Y ++ Z ++ X ++ R) := by
  subst hd
  unfold tJ CS
  have := GC (cmp := cmp) (a := a) (b := b) (n := n) X Y Q Z R 0 hxy (by omega) (by omega) (by omega) (by omega) (by omega) hl
  simp only [Int.natCast_zero] at this
  rw [this]; rfl

theorem WJ {cmp : α → α → Option Int} {m : Int} : ∀ (n : Nat) (X Y Q R : List α), X.length + Y.length ≤ n → X ≠ [] → Y ≠ [] → m = ((Q.length + X.length : Nat) : Int) → (Q ++ X ++ Y ++ R).length ≤ 1099511627776 →
    (lp (fun s : List α × Int × Int => lY cmp m s.1 s.2.1 s.2.2) (Q ++ X ++ Y ++ R, ((X.length : Nat) : Int), ((Y.length : Nat) : Int))).bind (fun rr => CK cmp rr.1 m rr.2) = some (Q ++ Y ++ X ++ R) := by
  intro n
  induction n with
  | zero => intro X Y Q R hn hX; exact absurd (List.length_eq_zero_iff.1 (by omega)) hX
  | succ n ih =>
    intro X Y Q R hn hX hY hm hl
    have hX' : 0 < X.length := List.length_pos_iff.2 hX
    have hY' : 0 < Y.length := List.length_pos_iff.2 hY
    simp only [List.length_append] at hl
    rcases Nat.lt_trichotomy X.length Y.length with h | h | h
    · -- the second is longer
      obtain ⟨Y1, Y2, rfl, hY2⟩ : ∃ Y1 Y2, Y = Y1 ++ Y2 ∧ Y2.length = X.length := ⟨Y.take (Y.length - X.length), Y.drop (Y.length - X.length), (List.take_append_drop _ _).symm, by rw [List.length_drop]; omega⟩
      simp only [List.length_append] at hn hl h
      have hne : decide (((X.length : Nat) : Int) = (((Y1 ++ Y2).length : Nat) : Int)) = false := by simp only [List.length_append]; simp; omega
      have hlt : decide ((((Y1 ++ Y2).length : Nat) : Int) < ((X.length : Nat) : Int)) = false := by simp only [List.length_append]; simp; omega
      have e1 : IntKind.i64.wrap (m - ((X.length : Nat) : Int)) = ((Q.length : Nat) : Int) := by rw [wr (by omega) (by omega)]; omega
      have e0 : IntKind.i64.wrap (m + (((Y1 ++ Y2).length : Nat) : Int)) = m + (((Y1 ++ Y2).length : Nat) : Int) := by simp only [List.length_append]; exact wr (by omega) (by omega)
      have e2 : IntKind.i64.wrap (m + (((Y1 ++ Y2).length : Nat) : Int) - ((X.length : Nat) : Int)) = ((Q.length + X.length + Y1.length : Nat) : Int) := by simp only [List.length_append]; rw [wr (by omega) (by omega)]; omega
      have e3 : IntKind.i64.wrap ((((Y1 ++ Y2).length : Nat) : Int) - ((X.length : Nat) : Int)) = ((Y1.length : Nat) : Int) := by simp only [List.length_append]; rw [wr (by omega) (by omega)]; omega
      have hbod : (fun s : List α × Int × Int => lY cmp m s.1 s.2.1 s.2.2) (Q ++ X ++ (Y1 ++ Y2) ++ R, ((X.length : Nat) : Int), (((Y1 ++ Y2).length : Nat) : Int)) = some (.inl (Q ++ Y2 ++ Y1 ++ (X ++ R), ((Y2.length : Nat) : Int), ((Y1.length : Nat) : Int))) := by
        show lY cmp m _ _ _ = _
        simp only [lY, hne, Bool.not_false, cond_true, hlt, cond_false, e0, e1, e2, e3]
        rw [KU (X := X) (Y := Y2) (Q := Q) (Z := Y1) (R := R) (by simp) hY2.symm rfl rfl rfl (by simp only [List.length_append]; omega)]
        simp [hY2]
      rw [eS hbod, ih Y2 Y1 Q (X ++ R) (by omega) (fun h => by rw [h] at hY2; simp at hY2; omega) (fun h' => by rw [h'] at h; simp at h; omega) (by rw [hm]; congr 1; omega) (by simp only [List.length_append]; omega)]
      simp
    · -- alike
      have hne : decide (((X.length : Nat) : Int) = ((Y.length : Nat) : Int)) = true := by simp; omega
      rw [cK (r := (Q ++ X ++ Y ++ R, ((X.length : Nat) : Int))) (by show lY cmp m _ _ _ = _; simp only [lY, hne, Bool.not_true, cond_false])]
      simp only [Option.bind_some, CK]
      have e1 : IntKind.i64.wrap (m - ((X.length : Nat) : Int)) = ((Q.length : Nat) : Int) := by rw [wr (by omega) (by omega)]; omega
      rw [e1, KU (X := X) (Y := Y) (Q := Q) (Z := []) (R := R) (by simp) h rfl (by rw [hm]; simp) rfl (by simp only [List.length_append]; omega)]
      simp
    · -- the first is longer
      obtain ⟨X1, X2, rfl, hX1⟩ : ∃ X1 X2, X = X1 ++ X2 ∧ X1.length = Y.length := ⟨X.take Y.length, X.drop Y.length, (List.take_append_drop _ _).symm, by rw [List.length_take]; omega⟩
      simp only [List.length_append] at hn hl h hm
      have hne : decide ((((X1 ++ X2).length : Nat) : Int) = ((Y.length : Nat) : Int)) = false := by simp only [List.length_append]; simp; omega
      have hlt : decide (((Y.length : Nat) : Int) < (((X1 ++ X2).length : Nat) : Int)) = true := by simp only [List.length_append]; simp; omega
      have e1 : IntKind.i64.wrap (m - (((X1 ++ X2).length : Nat) : Int)) = ((Q.length : Nat) : Int) := by simp only [List.length_append]; rw [wr (by omega) (by omega)]; omega
      have e3 : IntKind.i64.wrap ((((X1 ++ X2).length : Nat) : Int) - ((Y.length : Nat) : Int)) = ((X2.length : Nat) : Int) := by simp only [List.length_append]; rw [wr (by omega) (by omega)]; omega
      have hbod : (fun s : List α × Int × Int => lY cmp m s.1 s.2.1 s.2.2) (Q ++ (X1 ++ X2) ++ Y ++ R, (((X1 ++ X2).length : Nat) : Int), ((Y.length : Nat) : Int)) = some (.inl ((Q ++ Y) ++ X2 ++ X1 ++ R, ((X2.length : Nat) : Int), ((X1.length : Nat) : Int))) := by
        show lY cmp m _ _ _ = _
        simp only [lY, hne, Bool.not_false, cond_true, hlt, e1, e3]
        rw [KU (X := X1) (Y := Y) (Q := Q) (Z := X2) (R := R) (by simp) hX1 rfl (by rw [hm]; congr 1; omega) (by rw [hX1]) (by simp only [List.length_append]; omega)]
        simp [hX1]
      rw [eS hbod, ih X2 X1 (Q ++ Y) R (by omega) (fun h' => by rw [h'] at h; simp at h; omega) (fun h => by rw [h] at hX1; simp at hX1; omega) (by rw [hm]; simp only [List.length_append]; congr 1; omega) (by simp only [List.length_append]; omega)]
      simp

theorem aA0 {cmp : α → α → Option Int} {a m b : Int} {X Y Q R d : List α} (hd : d = Q ++ X ++ Y ++ R) (hX : X ≠ []) (hY : Y ≠ []) (ha : a = (Q.length : Nat)) (hm : m = ((Q.length + X.length : Nat) : Int)) (hb : b = ((Q.length + X.length + Y.length : Nat) : Int)) (hl : d.length ≤ 1099511627776) :
    CA d a m b cmp = some (Q ++ Y ++ X ++ R) := by
  subst hd
  unfold CA HR
  have hl' := hl
  simp only [List.length_append] at hl'
  rw [show IntKind.i64.wrap (m - a) = ((X.length : Nat) : Int) by rw [wr (by omega) (by omega)]; omega, show IntKind.i64.wrap (b - m) = ((Y.length : Nat) : Int) by rw [wr (by omega) (by omega)]; omega]
  exact WJ _ X Y Q R (Nat.le_refl _) hX hY hm hl

end Go.Abs
namespace Go.Abs
open Go
variable {α : Type} [Inhabited α]
theorem half {s : Nat} (h : s ≤ 4398046511104) : IntKind.i64.wrap (Int.fdiv (IntKind.u64.wrap (IntKind.i64.wrap (s : Int))) (2 ^ (min (Int.toNat (1 : Int)) 64))) = ((s / 2 : Nat) : Int) := by
  rw [wr (n := (s : Int)) (by omega) (by omega)]
  have hu : IntKind.u64.wrap (s : Int) = (s : Int) := by
    simp only [IntKind.wrap, IntKind.bits, IntKind.signed]
    simp
    omega
  have hp : (2 : Int) ^ (min (Int.toNat (1 : Int)) 64) = 2 := by decide
  rw [hu, hp, Int.fdiv_eq_ediv_of_nonneg _ (by omega), wr (by omega) (by omega)]
  omega

theorem DR {P B S d : List α} {n k : Nat} (hd : d = P ++ B ++ S) (hn : n = P.length + k) (hk : k < B.length) : d.getD n default = B.getD k default := by
  subst hd; subst hn
  simp only [List.getD_eq_getElem?_getD]
  rw [List.append_assoc, List.getElem?_append_right (by omega), List.getElem?_append_left (by omega)]
  congr 2; omega

theorem DJ {l : List α} {t : Nat} {y : α} (h : y ∈ l.take t) : ∃ i, i < t ∧ i < l.length ∧ y = l.getD i default := by
  obtain ⟨i, hi, rfl⟩ := List.mem_iff_getElem.1 h
  rw [List.length_take] at hi
  refine ⟨i, by omega, by omega, ?_⟩
  rw [List.getElem_take, List.getD_eq_getElem?_getD, List.getElem?_eq_getElem (by omega)]; rfl

theorem tO {l : List α} {t : Nat} {y : α} (h : y ∈ l.drop t) : ∃ i, t ≤ i ∧ i < l.length ∧ y = l.getD i default := by
  obtain ⟨i, hi, rfl⟩ := List.mem_iff_getElem.1 h
  rw [List.length_drop] at hi
  refine ⟨t + i, by omega, by omega, ?_⟩
  rw [List.getElem_drop, List.getD_eq_getElem?_getD, List.getElem?_eq_getElem (by omega)]; rfl

theorem dH {l : List α} {i : Nat} (h : i < l.length) : l.getD i default ∈ l := by
  rw [List.getD_eq_getElem?_getD, List.getElem?_eq_getElem h]; exact List.getElem_mem h

section sym
variable {ok : α → Prop} {le : α → α → Prop} {cmp : α → α → Option Int}
theorem Cmp.refl {β : Type} {ok : β → Prop} {le : β → β → Prop} {cmp : β → β → Option Int} (C : Cmp ok le cmp) {x : β} (h : ok x) : le x x := by rcases C.total x x h h with h | h <;> exact h

theorem rL (C : Cmp ok le cmp) {l : List α} (ho : Oks ok l) (hs : Srt le l) {i j : Nat} (hij : i ≤ j) (hj : j < l.length) : le (l.getD i default) (l.getD j default) := by
  rcases Nat.lt_or_eq_of_le hij with h | h
  · have := List.pairwise_iff_getElem.1 hs i j (by omega) hj h
    simpa [List.getD_eq_getElem?_getD, List.getElem?_eq_getElem hj, List.getElem?_eq_getElem (show i < l.length by omega)] using this
  · subst h; exact C.refl (ho _ (dH hj))

theorem PL {β : Type} {le : β → β → Prop} {l : List β} (h : Srt le l) (t : Nat) : Srt le (l.take t) := List.Pairwise.sublist (List.take_sublist t l) h

theorem OJ {β : Type} {le : β → β → Prop} {l : List β} (h : Srt le l) (t : Nat) : Srt le (l.drop t) := List.Pairwise.sublist (List.drop_sublist t l) h

theorem QH {β : Type} {body : (List β × Int × Int) → Option ((List β × Int × Int) ⊕ (List β × Int))} {d : List β} {f : Nat → Prop} {lo hi : Nat}
    (hb : ∀ i j : Nat, lo ≤ i → i < j → j ≤ hi → ∃ t : Bool, (t = true ↔ f ((i + j) / 2)) ∧ body (d, (i : Int), (j : Int)) = some (.inl (if t then (d, (((i + j) / 2 + 1 : Nat) : Int), (j : Int)) else (d, (i : Int), (((i + j) / 2 : Nat) : Int)))))
    (he : ∀ i : Nat, body (d, (i : Int), (i : Int)) = some (.inr (d, (i : Int)))) :
    ∀ (n i j : Nat), j - i ≤ n → lo ≤ i → i ≤ j → j ≤ hi → (i = lo ∨ f (i - 1)) → (j = hi ∨ ¬ f j) → ∃ s, lo ≤ s ∧ s ≤ hi ∧ (s = lo ∨ f (s - 1)) ∧ (s = hi ∨ ¬ f s) ∧ lp body (d, (i : Int), (j : Int)) = some (d, ((s : Nat) : Int)) := by
  intro n
  induction n with
  | zero =>
    intro i j hn h1 h2 h3 h4 h5
    have : i = j := by omega
    subst this
    exact ⟨i, h1, h3, h4, h5, cK (he i)⟩
  | succ n ih =>
    intro i j hn h1 h2 h3 h4 h5
    by_cases hij : i = j
    · subst hij; exact ⟨i, h1, h3, h4, h5, cK (he i)⟩
    · obtain ⟨t, ht, hbt⟩ := hb i j h1 (by omega) h3
      cases t
      · obtain ⟨s, r1, r2, r3, r4, r5⟩ := ih i ((i + j) / 2) (by omega) h1 (by omega) (by omega) h4 (Or.inr (fun h => by have := ht.2 h; cases this))
        refine ⟨s, r1, r2, r3, r4, ?_⟩
        rw [eS hbt]; exact r5
      · obtain ⟨s, r1, r2, r3, r4, r5⟩ := ih ((i + j) / 2 + 1) j (by omega) (by omega) (by omega) h3 (Or.inr (by simpa using ht.1 rfl)) h5
        refine ⟨s, r1, r2, r3, r4, ?_⟩
        rw [eS hbt]; exact r5

def IV (le : α → α → Prop) (P A B S r : List α) : Prop := ∃ D, D.Perm (A ++ B) ∧ Srt le D ∧ r = P ++ D ++ S

end sym
end Go.Abs
