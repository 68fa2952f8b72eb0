/- What the law LifeLasts stands on: the framework, the given functions as plain functions, their walks, and the plain laws; part 4. -/
import Derived.Test.YtbnnpfncgndidaaLifeLastsZ3
set_option linter.unusedSimpArgs false
set_option linter.unusedVariables false
namespace Go.Abs
open Go Go.RowKit Go.Proofs
theorem sN (cmp4_f : Nat) (cmp4_a cmp4_c : List V) (cmp4 : aB → aB → Option Int) (cmp4_h : ∀ a0 a1 r, cmp4 a0 a1 = some r → bV Try.prog cmp4_f (cmp4_a ++ [(aE a0), (aE a1)] ++ cmp4_c) (eI r)) (rec : (List aB) → Int → Int → Int → Option (List aB)) (ih : ∀ (lo0p : Nat) (aA : (List aB)) (a1 : Int) (m2 : Int) (b3 : Int) (r : List aB), rec aA a1 m2 b3 = some r → kJ Try.prog 122 lo0p 2 (List.map aE aA) (List.map aE r) [(.msl 2 lo0p 0 (List.length aA)), (eI a1), (eI m2), (eI b3), (.fn (.func cmp4_f) cmp4_a cmp4_c)] (.tup [])) (lo0p : Nat) (aA : (List aB)) (a1 : Int) (m2 : Int) (b3 : Int) (r : List aB) (h0 : dN cmp4 rec aA a1 m2 b3 = some r) : kJ Try.prog 122 lo0p 2 (List.map aE aA) (List.map aE r) [(.msl 2 lo0p 0 (List.length aA)), (eI a1), (eI m2), (eI b3), (.fn (.func cmp4_f) cmp4_a cmp4_c)] (.tup []) := by
  intro H0 hl0
  refine cC Try.func122 ?_
  have hO := aL.oF hl0
  clear hl0
  obtain ⟨N0, hN0⟩ : ∃ n, n = List.length aA := ⟨_, rfl⟩
  have hN : List.length aA = N0 := hN0.symm
  unfold dN at h0
  refine cE (fun T H => ∃ aA : List aB, Has T [(0, (.msl 2 lo0p 0 (List.length aA))), (1, (eI a1)), (2, (eI m2)), (3, (eI b3)), (4, (.fn (.func cmp4_f) cmp4_a cmp4_c))] ∧ aL ⟨H0, [lo0p], []⟩ H [(lo0p, 2, List.map aE aA)] ∧ List.length aA = N0 ∧ kF cmp4 rec aA a1 m2 b3 = some r) ?_ ?_
  · clear hO hN h0
    rintro T H ⟨aA, hT, hO, hN, h0⟩
    refine aZ hT ?_
    clear hT
    unfold kF at h0
    refine cE (fun T H => ∃ aA : List aB, Has T [(0, (.msl 2 lo0p 0 (List.length aA))), (1, (eI a1)), (2, (eI m2)), (3, (eI b3)), (4, (.fn (.func cmp4_f) cmp4_a cmp4_c))] ∧ aL ⟨H0, [lo0p], []⟩ H [(lo0p, 2, List.map aE aA)] ∧ List.length aA = N0 ∧ kH cmp4 rec aA a1 m2 b3 = some r) ?_ ?_
    · clear hO hN h0
      rintro T H ⟨aA, hT, hO, hN, h0⟩
      refine aZ hT ?_
      clear hT
      unfold kH at h0
      refine aO ?_
      refine aW aH 7 ?_
      obtain ⟨c1, h0⟩ := bA h0
      refine nO [0 ≤ (1 : Int)] ⟨c1, trivial⟩ ?_
      refine bQ [] [(18, (eI (wR (Int.fdiv (IntKind.u64.wrap (wR (a1 + b3))) (2 ^ (min (Int.toNat (1 : Int)) 64))))))] ?_
      refine aT aH 4 [] [(19, (eI (wR ((wR (Int.fdiv (IntKind.u64.wrap (wR (a1 + b3))) (2 ^ (min (Int.toNat (1 : Int)) 64)))) + m2))))] ?_
      refine aT aH 2 [] [] ?_
      refine cE (fun T H => ∃ aA : List aB, ∃ bR : Int, ∃ n19 : Int, ∃ aQ : Int, ∃ r21 : Int, Has T [(0, (.msl 2 lo0p 0 (List.length aA))), (1, (eI a1)), (2, (eI m2)), (3, (eI b3)), (4, (.fn (.func cmp4_f) cmp4_a cmp4_c)), (18, (eI bR)), (19, (eI n19)), (20, (eI aQ)), (21, (eI r21))] ∧ aL ⟨H0, [lo0p], []⟩ H [(lo0p, 2, List.map aE aA)] ∧ List.length aA = N0 ∧ fZ cmp4 rec aA a1 m2 b3 bR n19 aQ r21 = some r) ?_ ?_
      · clear hO hN h0
        rintro T H ⟨aA, bR, n19, aQ, r21, hT, hO, hN, h0⟩
        refine aZ hT ?_
        clear hT
        unfold fZ at h0
        refine aT aH 3 [] [(22, (eI (wR (n19 - (1 : Int)))))] ?_
        refine cE (fun T H => ∃ aA : List aB, ∃ aQ : Int, Has T [(0, (.msl 2 lo0p 0 (List.length aA))), (1, (eI a1)), (2, (eI m2)), (3, (eI b3)), (4, (.fn (.func cmp4_f) cmp4_a cmp4_c)), (18, (eI bR)), (19, (eI n19)), (20, (eI aQ))] ∧ aL ⟨H0, [lo0p], []⟩ H [(lo0p, 2, List.map aE aA)] ∧ List.length aA = N0 ∧ fW cmp4 rec aA a1 m2 b3 bR n19 aQ = some r) ?_ ?_
        · clear hO hN h0
          rintro T H ⟨aA, aQ, hT, hO, hN, h0⟩
          refine aZ hT ?_
          clear hT
          unfold fW at h0
          refine aT aH 4 [19] [(24, (eI (wR (n19 - aQ))))] ?_
          refine cE (fun T H => ∃ aA : List aB, ∃ dO : Int, Has T [(0, (.msl 2 lo0p 0 (List.length aA))), (1, (eI a1)), (3, (eI b3)), (4, (.fn (.func cmp4_f) cmp4_a cmp4_c)), (18, (eI bR)), (20, (eI aQ)), (24, (eI dO))] ∧ aL ⟨H0, [lo0p], []⟩ H [(lo0p, 2, List.map aE aA)] ∧ List.length aA = N0 ∧ gF cmp4 rec aA a1 b3 bR aQ dO = some r) ?_ ?_
          · clear hO hN h0
            rintro T H ⟨aA, dO, hT, hO, hN, h0⟩
            refine aZ hT ?_
            clear hT
            unfold gF at h0
            refine cE (fun T H => ∃ aA : List aB, Has T [(0, (.msl 2 lo0p 0 (List.length aA))), (3, (eI b3)), (4, (.fn (.func cmp4_f) cmp4_a cmp4_c)), (18, (eI bR)), (24, (eI dO))] ∧ aL ⟨H0, [lo0p], []⟩ H [(lo0p, 2, List.map aE aA)] ∧ List.length aA = N0 ∧ fR cmp4 rec aA b3 bR dO = some r) ?_ ?_
            · clear hO hN h0
              rintro T H ⟨aA, hT, hO, hN, h0⟩
              refine aZ hT ?_
              clear hT
              unfold fR at h0
              refine aT aH 8 [] [(213, (aK ((decide (bR < dO)) && (decide (dO < b3)))))] ?_
              refine bE h0 (fun h0 => ?_) (fun h0 => ?_)
              · refine aW aH 6 ?_
                refine bS 5 ?_
                obtain ⟨x3, hx4, h0⟩ := aY h0
                refine nL [(lo0p, 2, List.map aE x3)] 0 (ih lo0p aA bR dO b3 _ hx4) hO ?_
                intro H hO hl5
                simp only [List.length_map] at hl5
                replace hN := hl5.trans hN
                refine cZ ?_
                refine cG (l := [(0, (.msl 2 lo0p 0 (List.length x3)))]) ⟨[(0, (.msl 2 lo0p 0 (List.length aA)))], by kernel_rfl, rfl, ⟨aR.eq (by simp [hl5]), trivial⟩⟩ ?_
                obtain rfl := oI h0
                exact aJ (qZ (x := (.tup [])) (by kernel_rfl) (aR.refl _) ⟨rfl, hO.ext, hO.at 0 (by kernel_rfl), by simp only [List.length_map]; exact hN.trans hN0⟩)
              refine bH ?_
              obtain rfl := oI h0
              exact aJ (qZ (x := (.tup [])) (by kernel_rfl) (aR.refl _) ⟨rfl, hO.ext, hO.at 0 (by kernel_rfl), by simp only [List.length_map]; exact hN.trans hN0⟩)
            refine aT aH 8 [] [(199, (aK ((decide (a1 < aQ)) && (decide (aQ < bR)))))] ?_
            refine bE h0 (fun h0 => ?_) (fun h0 => ?_)
            · refine aW aH 6 ?_
              refine bS 5 ?_
              obtain ⟨x7, hx8, h0⟩ := aY h0
              refine nL [(lo0p, 2, List.map aE x7)] 0 (ih lo0p aA a1 aQ bR _ hx8) hO ?_
              intro H hO hl9
              simp only [List.length_map] at hl9
              replace hN := hl9.trans hN
              refine cZ ?_
              refine cG (l := [(0, (.msl 2 lo0p 0 (List.length x7))), (3, (eI b3)), (4, (.fn (.func cmp4_f) cmp4_a cmp4_c)), (18, (eI bR)), (24, (eI dO))]) ⟨[(0, (.msl 2 lo0p 0 (List.length aA))), (3, (eI b3)), (4, (.fn (.func cmp4_f) cmp4_a cmp4_c)), (18, (eI bR)), (24, (eI dO))], by kernel_rfl, rfl, ⟨aR.eq (by simp [hl9]), aR.refl _, aR.refl _, aR.refl _, aR.refl _, trivial⟩⟩ ?_
              exact aJ (aI (⟨rfl, _, .eq (by kernel_rfl), hO, hN, h0⟩))
            refine bH ?_
            exact aJ (aI (⟨rfl, _, .eq (by kernel_rfl), hO, hN, h0⟩))
          refine aT aH 8 [] [(185, (aK ((decide (aQ < m2)) && (decide (m2 < (wR (n19 - aQ)))))))] ?_
          refine bE h0 (fun h0 => ?_) (fun h0 => ?_)
          · refine aW aH 6 ?_
            refine bS 5 ?_
            obtain ⟨x11, hx12, h0⟩ := aY h0
            refine nL [(lo0p, 2, List.map aE x11)] 0 (wY lo0p aA aQ m2 (wR (n19 - aQ)) cmp4_f cmp4_a cmp4_c cmp4 cmp4_h _ hx12) hO ?_
            intro H hO hl13
            simp only [List.length_map] at hl13
            replace hN := hl13.trans hN
            refine cZ ?_
            refine cG (l := [(0, (.msl 2 lo0p 0 (List.length x11))), (1, (eI a1)), (3, (eI b3)), (4, (.fn (.func cmp4_f) cmp4_a cmp4_c)), (18, (eI bR)), (20, (eI aQ)), (24, (eI (wR (n19 - aQ))))]) ⟨[(0, (.msl 2 lo0p 0 (List.length aA))), (1, (eI a1)), (3, (eI b3)), (4, (.fn (.func cmp4_f) cmp4_a cmp4_c)), (18, (eI bR)), (20, (eI aQ)), (24, (eI (wR (n19 - aQ))))], by kernel_rfl, rfl, ⟨aR.eq (by simp [hl13]), aR.refl _, aR.refl _, aR.refl _, aR.refl _, aR.refl _, aR.refl _, trivial⟩⟩ ?_
            exact aJ (aI (⟨rfl, _, _, .eq (by kernel_rfl), hO, hN, h0⟩))
          refine bH ?_
          exact aJ (aI (⟨rfl, _, _, .eq (by kernel_rfl), hO, hN, h0⟩))
        refine bP 8 ?_
        refine cO [(0, (.msl 2 lo0p 0 (List.length aA))), (1, (eI a1)), (2, (eI m2)), (3, (eI b3)), (4, (.fn (.func cmp4_f) cmp4_a cmp4_c)), (18, (eI bR)), (19, (eI n19)), (20, (eI aQ)), (21, (eI r21)), (22, (eI (wR (n19 - (1 : Int)))))] ?_
        refine cF (fun T H => ∃ aA : List aB, ∃ aQ : Int, ∃ r21 : Int, ∃ p22 : Int, Has T [(0, (.msl 2 lo0p 0 (List.length aA))), (1, (eI a1)), (2, (eI m2)), (3, (eI b3)), (4, (.fn (.func cmp4_f) cmp4_a cmp4_c)), (18, (eI bR)), (19, (eI n19)), (20, (eI aQ)), (21, (eI r21)), (22, (eI p22))] ∧ aL ⟨H0, [lo0p], []⟩ H [(lo0p, 2, List.map aE aA)] ∧ List.length aA = N0 ∧ kD cmp4 rec aA a1 m2 b3 bR n19 aQ r21 p22 = some r) ?_ ⟨aA, aQ, r21, wR (n19 - (1 : Int)), .eq (by kernel_rfl), hO, hN, h0⟩
        clear hO hN h0
        rintro T H ⟨aA, aQ, r21, p22, hT, hO, hN, h0⟩
        refine aZ hT ?_
        clear hT
        unfold kD at h0
        obtain ⟨rr0, hl0, h0⟩ := aY h0
        refine bW (by kernel_rfl) (fun (s : List aB × Int × Int) T H => Has T [(0, (.msl 2 lo0p 0 (List.length s.1))), (1, (eI a1)), (2, (eI m2)), (3, (eI b3)), (4, (.fn (.func cmp4_f) cmp4_a cmp4_c)), (18, (eI bR)), (19, (eI n19)), (20, (eI s.2.1)), (21, (eI s.2.2)), (22, (eI p22))] ∧ aL ⟨H0, [lo0p], []⟩ H [(lo0p, 2, List.map aE s.1)] ∧ List.length s.1 = N0) hl0 ⟨.eq (by kernel_rfl), hO, hN⟩ ?_
        clear hO hN
        rintro k0 s out1 T H ⟨hT, hO, hN⟩ h1 ho0
        obtain ⟨aA, aQ, r21⟩ := s
        replace h1 : jZ cmp4 rec a1 m2 b3 bR n19 p22 aA aQ r21 = some out1 := h1
        dsimp only at hT
        refine aZ hT ?_
        clear hT
        unfold jZ at h1
        refine aO ?_
        refine aT aH 3 [] [(151, (aK (decide (aQ < r21))))] ?_
        refine bE h1 (fun h1 => ?_) (fun h1 => ?_)
        · refine bH ?_
          refine bD [(0, (.msl 2 lo0p 0 (List.length aA))), (1, (eI a1)), (2, (eI m2)), (3, (eI b3)), (4, (.fn (.func cmp4_f) cmp4_a cmp4_c)), (18, (eI bR)), (19, (eI n19)), (20, (eI aQ)), (21, (eI r21)), (22, (eI p22))] ?_
          refine bP 9 ?_
          refine aO ?_
          refine aW aH 7 ?_
          obtain ⟨c15, h1⟩ := bA h1
          refine nO [0 ≤ (1 : Int)] ⟨c15, trivial⟩ ?_
          refine bQ [] [(23, (eI (wR (Int.fdiv (IntKind.u64.wrap (wR (aQ + r21))) (2 ^ (min (Int.toNat (1 : Int)) 64))))))] ?_
          refine aO ?_
          refine fD (fH []) aH 14 ?_
          obtain ⟨c16, h1⟩ := bA h1
          refine cN 6 [0 ≤ (wR (p22 - (wR (Int.fdiv (IntKind.u64.wrap (wR (aQ + r21))) (2 ^ (min (Int.toNat (1 : Int)) 64)))))) ∧ (wR (p22 - (wR (Int.fdiv (IntKind.u64.wrap (wR (aQ + r21))) (2 ^ (min (Int.toNat (1 : Int)) 64)))))) < (lN aA)] ⟨c16, trivial⟩ ?_
          refine kS 0 lo0p 2 (0 + Int.toNat (wR (p22 - (wR (Int.fdiv (IntKind.u64.wrap (wR (aQ + r21))) (2 ^ (min (Int.toNat (1 : Int)) 64))))))) (aE (gD aA (wR (p22 - (wR (Int.fdiv (IntKind.u64.wrap (wR (aQ + r21))) (2 ^ (min (Int.toNat (1 : Int)) 64)))))))) (aE (gD aA (wR (p22 - (wR (Int.fdiv (IntKind.u64.wrap (wR (aQ + r21))) (2 ^ (min (Int.toNat (1 : Int)) 64)))))))) (List.map aE aA) hO (cK c16) ?_
          obtain ⟨c17, h1⟩ := bA h1
          refine cN 10 [0 ≤ (wR (Int.fdiv (IntKind.u64.wrap (wR (aQ + r21))) (2 ^ (min (Int.toNat (1 : Int)) 64)))) ∧ (wR (Int.fdiv (IntKind.u64.wrap (wR (aQ + r21))) (2 ^ (min (Int.toNat (1 : Int)) 64)))) < (lN aA)] ⟨c17, trivial⟩ ?_
          refine kS 0 lo0p 2 (0 + Int.toNat (wR (Int.fdiv (IntKind.u64.wrap (wR (aQ + r21))) (2 ^ (min (Int.toNat (1 : Int)) 64))))) (aE (gD aA (wR (Int.fdiv (IntKind.u64.wrap (wR (aQ + r21))) (2 ^ (min (Int.toNat (1 : Int)) 64)))))) (aE (gD aA (wR (Int.fdiv (IntKind.u64.wrap (wR (aQ + r21))) (2 ^ (min (Int.toNat (1 : Int)) 64)))))) (List.map aE aA) hO (cK c17) ?_
          obtain ⟨x18, hx19, h1⟩ := aY h1
          refine xO (cmp4_h (gD aA (wR (p22 - (wR (Int.fdiv (IntKind.u64.wrap (wR (aQ + r21))) (2 ^ (min (Int.toNat (1 : Int)) 64))))))) (gD aA (wR (Int.fdiv (IntKind.u64.wrap (wR (aQ + r21))) (2 ^ (min (Int.toNat (1 : Int)) 64))))) _ hx19) hO ?_
          intro H hO
          refine iU ?_
          refine bQ [] [(171, (aK (!(decide (x18 < (0 : Int))))))] ?_
          refine bE h1 (fun h1 => ?_) (fun h1 => ?_)
          · refine aW aH 3 ?_
            refine bC ?_
            exact aJ (aU (aI (⟨rfl, _, (oI h1).symm, .eq (by kernel_rfl), hO, hN⟩)))
          refine aW aH 2 ?_
          refine bC ?_
          exact aJ (aU (aI (⟨rfl, _, (oI h1).symm, .eq (by kernel_rfl), hO, hN⟩)))
        refine cS 8 ?_
        obtain rfl := oI h1
        obtain rfl : _ = rr0 := ho0
        replace h0 : fW cmp4 rec aA a1 m2 b3 bR n19 aQ = some r := h0
        exact aJ (aS (aS (bL (aI (⟨rfl, _, _, .eq (by kernel_rfl), hO, hN, h0⟩)))))
      refine aT aH 3 [] [(140, (aK (decide ((wR (Int.fdiv (IntKind.u64.wrap (wR (a1 + b3))) (2 ^ (min (Int.toNat (1 : Int)) 64)))) < m2))))] ?_
      refine bE h0 (fun h0 => ?_) (fun h0 => ?_)
      · refine bN aH 4 [(0, (.msl 2 lo0p 0 (List.length aA))), (1, (eI a1)), (2, (eI m2)), (3, (eI b3)), (4, (.fn (.func cmp4_f) cmp4_a cmp4_c)), (18, (eI (wR (Int.fdiv (IntKind.u64.wrap (wR (a1 + b3))) (2 ^ (min (Int.toNat (1 : Int)) 64)))))), (19, (eI (wR ((wR (Int.fdiv (IntKind.u64.wrap (wR (a1 + b3))) (2 ^ (min (Int.toNat (1 : Int)) 64)))) + m2)))), (20, (eI (wR ((wR ((wR (Int.fdiv (IntKind.u64.wrap (wR (a1 + b3))) (2 ^ (min (Int.toNat (1 : Int)) 64)))) + m2)) - b3))))] ?_
        refine aW aH 2 ?_
        refine bC ?_
        exact aJ (aI (⟨rfl, _, _, _, _, _, .eq (by kernel_rfl), hO, hN, h0⟩))
      refine bN aH 2 [(0, (.msl 2 lo0p 0 (List.length aA))), (1, (eI a1)), (2, (eI m2)), (3, (eI b3)), (4, (.fn (.func cmp4_f) cmp4_a cmp4_c)), (18, (eI (wR (Int.fdiv (IntKind.u64.wrap (wR (a1 + b3))) (2 ^ (min (Int.toNat (1 : Int)) 64)))))), (19, (eI (wR ((wR (Int.fdiv (IntKind.u64.wrap (wR (a1 + b3))) (2 ^ (min (Int.toNat (1 : Int)) 64)))) + m2)))), (20, (eI a1))] ?_
      refine aW aH 2 ?_
      refine bC ?_
      exact aJ (aI (⟨rfl, _, _, _, _, _, .eq (by kernel_rfl), hO, hN, h0⟩))
    refine aT aH 4 [] [(80, (aK (decide ((wR (b3 - m2)) = (1 : Int)))))] ?_
    refine bE h0 (fun h0 => ?_) (fun h0 => ?_)
    · refine aT aH 2 [1, 3, 80] [(14, (eI a1))] ?_
      refine aT aH 2 [] [(15, (eI m2))] ?_
      refine cE (fun T H => ∃ aA : List aB, ∃ i14 : Int, Has T [(0, (.msl 2 lo0p 0 (List.length aA))), (2, (eI m2)), (14, (eI i14))] ∧ aL ⟨H0, [lo0p], []⟩ H [(lo0p, 2, List.map aE aA)] ∧ List.length aA = N0 ∧ gG cmp4 rec aA m2 i14 = some r) ?_ ?_
      · clear hO hN h0
        rintro T H ⟨aA, i14, hT, hO, hN, h0⟩
        refine aZ hT ?_
        clear hT
        unfold gG at h0
        refine cE (fun T H => ∃ aA : List aB, Has T [(0, (.msl 2 lo0p 0 (List.length aA)))] ∧ aL ⟨H0, [lo0p], []⟩ H [(lo0p, 2, List.map aE aA)] ∧ List.length aA = N0 ∧ gC cmp4 rec aA = some r) ?_ ?_
        · clear hO hN h0
          rintro T H ⟨aA, hT, hO, hN, h0⟩
          refine aZ hT ?_
          clear hT
          unfold gC at h0
          refine bI ?_
          obtain rfl := oI h0
          exact aJ (aP (pM (x := (.tup [])) (by kernel_rfl) (aR.refl _) ⟨rfl, hO.ext, hO.at 0 (by kernel_rfl), by simp only [List.length_map]; exact hN.trans hN0⟩))
        refine aT aH 2 [2] [(17, (eI m2))] ?_
        refine bP 6 ?_
        refine cO [(0, (.msl 2 lo0p 0 (List.length aA))), (14, (eI i14)), (17, (eI m2))] ?_
        refine cF (fun T H => ∃ aA : List aB, ∃ k17 : Int, Has T [(0, (.msl 2 lo0p 0 (List.length aA))), (14, (eI i14)), (17, (eI k17))] ∧ aL ⟨H0, [lo0p], []⟩ H [(lo0p, 2, List.map aE aA)] ∧ List.length aA = N0 ∧ jD cmp4 rec aA i14 k17 = some r) ?_ ⟨aA, m2, .eq (by kernel_rfl), hO, hN, h0⟩
        clear hO hN h0
        rintro T H ⟨aA, k17, hT, hO, hN, h0⟩
        refine aZ hT ?_
        clear hT
        unfold jD at h0
        obtain ⟨rr0, hl0, h0⟩ := aY h0
        refine bW (by kernel_rfl) (fun (s : List aB × Int) T H => Has T [(0, (.msl 2 lo0p 0 (List.length s.1))), (14, (eI i14)), (17, (eI s.2))] ∧ aL ⟨H0, [lo0p], []⟩ H [(lo0p, 2, List.map aE s.1)] ∧ List.length s.1 = N0) hl0 ⟨.eq (by kernel_rfl), hO, hN⟩ ?_
        clear hO hN
        rintro k0 s out1 T H ⟨hT, hO, hN⟩ h1 ho0
        obtain ⟨aA, k17⟩ := s
        replace h1 : jN cmp4 rec i14 aA k17 = some out1 := h1
        dsimp only at hT
        refine aZ hT ?_
        clear hT
        unfold jN at h1
        refine aO ?_
        refine aT aH 3 [] [(110, (aK (decide (i14 < k17))))] ?_
        refine bE h1 (fun h1 => ?_) (fun h1 => ?_)
        · refine bH ?_
          refine bD [(0, (.msl 2 lo0p 0 (List.length aA))), (14, (eI i14)), (17, (eI k17))] ?_
          refine aO ?_
          refine bP 7 ?_
          refine fD (fH []) aH 18 ?_
          obtain ⟨c25, h1⟩ := bA h1
          refine cN 9 [0 ≤ (wR (k17 - (1 : Int))) ∧ (wR (k17 - (1 : Int))) < (lN aA)] ⟨c25, trivial⟩ ?_
          refine kS 0 lo0p 2 (0 + Int.toNat (wR (k17 - (1 : Int)))) (aE (gD aA (wR (k17 - (1 : Int))))) (aE (gD aA (wR (k17 - (1 : Int))))) (List.map aE aA) hO (cK c25) ?_
          obtain ⟨c26, h1⟩ := bA h1
          refine cN 13 [0 ≤ k17 ∧ k17 < (lN aA)] ⟨c26, trivial⟩ ?_
          refine kS 0 lo0p 2 (0 + Int.toNat k17) (aE (gD aA k17)) (aE (gD aA k17)) (List.map aE aA) hO (cK c26) ?_
          obtain ⟨c27, h1⟩ := bA h1
          refine cN 15 [0 ≤ k17 ∧ k17 < (lN aA)] ⟨c27, trivial⟩ ?_
          refine tT 0 lo0p 2 (0 + Int.toNat k17) (aE (gD aA k17)) (aE (gD aA (wR (k17 - (1 : Int))))) (List.map aE aA) [(lo0p, 2, List.map aE (List.set aA (Int.toNat k17) (gD aA (wR (k17 - (1 : Int))))))] hO (cK c27) (by simp only [List.set, nJ]) ?_
          intro H hO
          replace hN : List.length (List.set aA (Int.toNat k17) (gD aA (wR (k17 - (1 : Int))))) = N0 := by simpa using hN
          obtain ⟨c28, h1⟩ := bA h1
          refine cN 17 [0 ≤ (wR (k17 - (1 : Int))) ∧ (wR (k17 - (1 : Int))) < (lN aA)] ⟨c28, trivial⟩ ?_
          refine tT 0 lo0p 2 (0 + Int.toNat (wR (k17 - (1 : Int)))) (aE (gD (List.set aA (Int.toNat k17) (gD aA (wR (k17 - (1 : Int))))) (wR (k17 - (1 : Int))))) (aE (gD aA k17)) (List.map aE (List.set aA (Int.toNat k17) (gD aA (wR (k17 - (1 : Int)))))) [(lo0p, 2, List.map aE (List.set (List.set aA (Int.toNat k17) (gD aA (wR (k17 - (1 : Int))))) (Int.toNat (wR (k17 - (1 : Int)))) (gD aA k17)))] hO (wJ c28 (by simp [])) (by simp only [List.set, nJ]) ?_
          intro H hO
          replace hN : List.length (List.set (List.set aA (Int.toNat k17) (gD aA (wR (k17 - (1 : Int))))) (Int.toNat (wR (k17 - (1 : Int)))) (gD aA k17)) = N0 := by simpa using hN
          refine zV (by kernel_rfl) ?_
          refine cG (l := [(0, (.msl 2 lo0p 0 (List.length (List.set (List.set aA (Int.toNat k17) (gD aA (wR (k17 - (1 : Int))))) (Int.toNat (wR (k17 - (1 : Int)))) (gD aA k17))))), (14, (eI i14)), (17, (eI k17))]) ⟨[(0, (.msl 2 lo0p 0 (List.length aA))), (14, (eI i14)), (17, (eI k17))], by kernel_rfl, rfl, ⟨aR.eq (by simp []), aR.refl _, aR.refl _, trivial⟩⟩ ?_
          refine aJ (aU (aI (?_)))
          refine aW aH 3 ?_
          refine bC ?_
          exact aJ (aI (⟨rfl, _, (oI h1).symm, .eq (by kernel_rfl), hO, hN⟩))
        refine cS 6 ?_
        obtain rfl := oI h1
        obtain rfl : _ = rr0 := ho0
        replace h0 : gC cmp4 rec aA = some r := h0
        exact aJ (aS (aS (bL (aI (⟨rfl, _, .eq (by kernel_rfl), hO, hN, h0⟩)))))
      refine bP 4 ?_
      refine cO [(0, (.msl 2 lo0p 0 (List.length aA))), (2, (eI m2)), (4, (.fn (.func cmp4_f) cmp4_a cmp4_c)), (14, (eI a1)), (15, (eI m2))] ?_
      refine cF (fun T H => ∃ aA : List aB, ∃ i14 : Int, ∃ j15 : Int, Has T [(0, (.msl 2 lo0p 0 (List.length aA))), (2, (eI m2)), (4, (.fn (.func cmp4_f) cmp4_a cmp4_c)), (14, (eI i14)), (15, (eI j15))] ∧ aL ⟨H0, [lo0p], []⟩ H [(lo0p, 2, List.map aE aA)] ∧ List.length aA = N0 ∧ jV cmp4 rec aA m2 i14 j15 = some r) ?_ ⟨aA, a1, m2, .eq (by kernel_rfl), hO, hN, h0⟩
      clear hO hN h0
      rintro T H ⟨aA, i14, j15, hT, hO, hN, h0⟩
      refine aZ hT ?_
      clear hT
      unfold jV at h0
      obtain ⟨rr0, hl0, h0⟩ := aY h0
      refine bW (by kernel_rfl) (fun (s : List aB × Int × Int) T H => Has T [(0, (.msl 2 lo0p 0 (List.length s.1))), (2, (eI m2)), (4, (.fn (.func cmp4_f) cmp4_a cmp4_c)), (14, (eI s.2.1)), (15, (eI s.2.2))] ∧ aL ⟨H0, [lo0p], []⟩ H [(lo0p, 2, List.map aE s.1)] ∧ List.length s.1 = N0) hl0 ⟨.eq (by kernel_rfl), hO, hN⟩ ?_
      clear hO hN
      rintro k0 s out1 T H ⟨hT, hO, hN⟩ h1 ho0
      obtain ⟨aA, i14, j15⟩ := s
      replace h1 : jP cmp4 rec m2 aA i14 j15 = some out1 := h1
      dsimp only at hT
      refine aZ hT ?_
      clear hT
      unfold jP at h1
      refine aO ?_
      refine aT aH 3 [] [(85, (aK (decide (i14 < j15))))] ?_
      refine bE h1 (fun h1 => ?_) (fun h1 => ?_)
      · refine bH ?_
        refine bD [(0, (.msl 2 lo0p 0 (List.length aA))), (2, (eI m2)), (4, (.fn (.func cmp4_f) cmp4_a cmp4_c)), (14, (eI i14)), (15, (eI j15))] ?_
        refine bP 5 ?_
        refine aO ?_
        refine aW aH 7 ?_
        obtain ⟨c30, h1⟩ := bA h1
        refine nO [0 ≤ (1 : Int)] ⟨c30, trivial⟩ ?_
        refine bQ [] [(16, (eI (wR (Int.fdiv (IntKind.u64.wrap (wR (i14 + j15))) (2 ^ (min (Int.toNat (1 : Int)) 64))))))] ?_
        refine aO ?_
        refine fD (fH []) aH 12 ?_
        obtain ⟨c31, h1⟩ := bA h1
        refine cN 4 [0 ≤ m2 ∧ m2 < (lN aA)] ⟨c31, trivial⟩ ?_
        refine kS 0 lo0p 2 (0 + Int.toNat m2) (aE (gD aA m2)) (aE (gD aA m2)) (List.map aE aA) hO (cK c31) ?_
        obtain ⟨c32, h1⟩ := bA h1
        refine cN 8 [0 ≤ (wR (Int.fdiv (IntKind.u64.wrap (wR (i14 + j15))) (2 ^ (min (Int.toNat (1 : Int)) 64)))) ∧ (wR (Int.fdiv (IntKind.u64.wrap (wR (i14 + j15))) (2 ^ (min (Int.toNat (1 : Int)) 64)))) < (lN aA)] ⟨c32, trivial⟩ ?_
        refine kS 0 lo0p 2 (0 + Int.toNat (wR (Int.fdiv (IntKind.u64.wrap (wR (i14 + j15))) (2 ^ (min (Int.toNat (1 : Int)) 64))))) (aE (gD aA (wR (Int.fdiv (IntKind.u64.wrap (wR (i14 + j15))) (2 ^ (min (Int.toNat (1 : Int)) 64)))))) (aE (gD aA (wR (Int.fdiv (IntKind.u64.wrap (wR (i14 + j15))) (2 ^ (min (Int.toNat (1 : Int)) 64)))))) (List.map aE aA) hO (cK c32) ?_
        obtain ⟨x33, hx34, h1⟩ := aY h1
        refine xO (cmp4_h (gD aA m2) (gD aA (wR (Int.fdiv (IntKind.u64.wrap (wR (i14 + j15))) (2 ^ (min (Int.toNat (1 : Int)) 64))))) _ hx34) hO ?_
        intro H hO
        refine iU ?_
        refine bQ [] [(103, (aK (!(decide (x33 < (0 : Int))))))] ?_
        refine bE h1 (fun h1 => ?_) (fun h1 => ?_)
        · refine aW aH 3 ?_
          refine bC ?_
          exact aJ (aU (aI (⟨rfl, _, (oI h1).symm, .eq (by kernel_rfl), hO, hN⟩)))
        refine aW aH 2 ?_
        refine bC ?_
        exact aJ (aU (aI (⟨rfl, _, (oI h1).symm, .eq (by kernel_rfl), hO, hN⟩)))
      refine cS 4 ?_
      obtain rfl := oI h1
      obtain rfl : _ = rr0 := ho0
      replace h0 : gG cmp4 rec aA m2 i14 = some r := h0
      exact aJ (aS (aS (bL (aI (⟨rfl, _, _, .eq (by kernel_rfl), hO, hN, h0⟩)))))
    refine bH ?_
    exact aJ (aI (⟨rfl, _, .eq (by kernel_rfl), hO, hN, h0⟩))
  refine aT aH 4 [] [(28, (aK (decide ((wR (m2 - a1)) = (1 : Int)))))] ?_
  refine bE h0 (fun h0 => ?_) (fun h0 => ?_)
  · refine aT aH 2 [2, 28] [(10, (eI m2))] ?_
    refine aT aH 2 [3] [(11, (eI b3))] ?_
    refine cE (fun T H => ∃ aA : List aB, ∃ i10 : Int, Has T [(0, (.msl 2 lo0p 0 (List.length aA))), (1, (eI a1)), (10, (eI i10))] ∧ aL ⟨H0, [lo0p], []⟩ H [(lo0p, 2, List.map aE aA)] ∧ List.length aA = N0 ∧ fN cmp4 rec aA a1 i10 = some r) ?_ ?_
    · clear hO hN h0
      rintro T H ⟨aA, i10, hT, hO, hN, h0⟩
      refine aZ hT ?_
      clear hT
      unfold fN at h0
      refine cE (fun T H => ∃ aA : List aB, Has T [(0, (.msl 2 lo0p 0 (List.length aA)))] ∧ aL ⟨H0, [lo0p], []⟩ H [(lo0p, 2, List.map aE aA)] ∧ List.length aA = N0 ∧ fM cmp4 rec aA = some r) ?_ ?_
      · clear hO hN h0
        rintro T H ⟨aA, hT, hO, hN, h0⟩
        refine aZ hT ?_
        clear hT
        unfold fM at h0
        refine bI ?_
        obtain rfl := oI h0
        exact aJ (aP (pM (x := (.tup [])) (by kernel_rfl) (aR.refl _) ⟨rfl, hO.ext, hO.at 0 (by kernel_rfl), by simp only [List.length_map]; exact hN.trans hN0⟩))
      refine aT aH 2 [1] [(13, (eI a1))] ?_
      refine bP 2 ?_
      refine cO [(0, (.msl 2 lo0p 0 (List.length aA))), (10, (eI i10)), (13, (eI a1))] ?_
      refine cF (fun T H => ∃ aA : List aB, ∃ k13 : Int, Has T [(0, (.msl 2 lo0p 0 (List.length aA))), (10, (eI i10)), (13, (eI k13))] ∧ aL ⟨H0, [lo0p], []⟩ H [(lo0p, 2, List.map aE aA)] ∧ List.length aA = N0 ∧ jF cmp4 rec aA i10 k13 = some r) ?_ ⟨aA, a1, .eq (by kernel_rfl), hO, hN, h0⟩
      clear hO hN h0
      rintro T H ⟨aA, k13, hT, hO, hN, h0⟩
      refine aZ hT ?_
      clear hT
      unfold jF at h0
      obtain ⟨rr0, hl0, h0⟩ := aY h0
      refine bW (by kernel_rfl) (fun (s : List aB × Int) T H => Has T [(0, (.msl 2 lo0p 0 (List.length s.1))), (10, (eI i10)), (13, (eI s.2))] ∧ aL ⟨H0, [lo0p], []⟩ H [(lo0p, 2, List.map aE s.1)] ∧ List.length s.1 = N0) hl0 ⟨.eq (by kernel_rfl), hO, hN⟩ ?_
      clear hO hN
      rintro k0 s out1 T H ⟨hT, hO, hN⟩ h1 ho0
      obtain ⟨aA, k13⟩ := s
      replace h1 : jK cmp4 rec i10 aA k13 = some out1 := h1
      dsimp only at hT
      refine aZ hT ?_
      clear hT
      unfold jK at h1
      refine aO ?_
      refine aT aH 4 [] [(58, (aK (decide (k13 < (wR (i10 - (1 : Int)))))))] ?_
      refine bE h1 (fun h1 => ?_) (fun h1 => ?_)
      · refine bH ?_
        refine bD [(0, (.msl 2 lo0p 0 (List.length aA))), (10, (eI i10)), (13, (eI k13))] ?_
        refine aO ?_
        refine bP 3 ?_
        refine fD (fH []) aH 18 ?_
        obtain ⟨c39, h1⟩ := bA h1
        refine cN 9 [0 ≤ (wR (k13 + (1 : Int))) ∧ (wR (k13 + (1 : Int))) < (lN aA)] ⟨c39, trivial⟩ ?_
        refine kS 0 lo0p 2 (0 + Int.toNat (wR (k13 + (1 : Int)))) (aE (gD aA (wR (k13 + (1 : Int))))) (aE (gD aA (wR (k13 + (1 : Int))))) (List.map aE aA) hO (cK c39) ?_
        obtain ⟨c40, h1⟩ := bA h1
        refine cN 13 [0 ≤ k13 ∧ k13 < (lN aA)] ⟨c40, trivial⟩ ?_
        refine kS 0 lo0p 2 (0 + Int.toNat k13) (aE (gD aA k13)) (aE (gD aA k13)) (List.map aE aA) hO (cK c40) ?_
        obtain ⟨c41, h1⟩ := bA h1
        refine cN 15 [0 ≤ k13 ∧ k13 < (lN aA)] ⟨c41, trivial⟩ ?_
        refine tT 0 lo0p 2 (0 + Int.toNat k13) (aE (gD aA k13)) (aE (gD aA (wR (k13 + (1 : Int))))) (List.map aE aA) [(lo0p, 2, List.map aE (List.set aA (Int.toNat k13) (gD aA (wR (k13 + (1 : Int))))))] hO (cK c41) (by simp only [List.set, nJ]) ?_
        intro H hO
        replace hN : List.length (List.set aA (Int.toNat k13) (gD aA (wR (k13 + (1 : Int))))) = N0 := by simpa using hN
        obtain ⟨c42, h1⟩ := bA h1
        refine cN 17 [0 ≤ (wR (k13 + (1 : Int))) ∧ (wR (k13 + (1 : Int))) < (lN aA)] ⟨c42, trivial⟩ ?_
        refine tT 0 lo0p 2 (0 + Int.toNat (wR (k13 + (1 : Int)))) (aE (gD (List.set aA (Int.toNat k13) (gD aA (wR (k13 + (1 : Int))))) (wR (k13 + (1 : Int))))) (aE (gD aA k13)) (List.map aE (List.set aA (Int.toNat k13) (gD aA (wR (k13 + (1 : Int)))))) [(lo0p, 2, List.map aE (List.set (List.set aA (Int.toNat k13) (gD aA (wR (k13 + (1 : Int))))) (Int.toNat (wR (k13 + (1 : Int)))) (gD aA k13)))] hO (wJ c42 (by simp [])) (by simp only [List.set, nJ]) ?_
        intro H hO
        replace hN : List.length (List.set (List.set aA (Int.toNat k13) (gD aA (wR (k13 + (1 : Int))))) (Int.toNat (wR (k13 + (1 : Int)))) (gD aA k13)) = N0 := by simpa using hN
        refine zV (by kernel_rfl) ?_
        refine cG (l := [(0, (.msl 2 lo0p 0 (List.length (List.set (List.set aA (Int.toNat k13) (gD aA (wR (k13 + (1 : Int))))) (Int.toNat (wR (k13 + (1 : Int)))) (gD aA k13))))), (10, (eI i10)), (13, (eI k13))]) ⟨[(0, (.msl 2 lo0p 0 (List.length aA))), (10, (eI i10)), (13, (eI k13))], by kernel_rfl, rfl, ⟨aR.eq (by simp []), aR.refl _, aR.refl _, trivial⟩⟩ ?_
        refine aJ (aU (aI (?_)))
        refine aW aH 3 ?_
        refine bC ?_
        exact aJ (aI (⟨rfl, _, (oI h1).symm, .eq (by kernel_rfl), hO, hN⟩))
      refine cS 2 ?_
      obtain rfl := oI h1
      obtain rfl : _ = rr0 := ho0
      replace h0 : fM cmp4 rec aA = some r := h0
      exact aJ (aS (aS (bL (aI (⟨rfl, _, .eq (by kernel_rfl), hO, hN, h0⟩)))))
    refine bP 0 ?_
    refine cO [(0, (.msl 2 lo0p 0 (List.length aA))), (1, (eI a1)), (4, (.fn (.func cmp4_f) cmp4_a cmp4_c)), (10, (eI m2)), (11, (eI b3))] ?_
    refine cF (fun T H => ∃ aA : List aB, ∃ i10 : Int, ∃ j11 : Int, Has T [(0, (.msl 2 lo0p 0 (List.length aA))), (1, (eI a1)), (4, (.fn (.func cmp4_f) cmp4_a cmp4_c)), (10, (eI i10)), (11, (eI j11))] ∧ aL ⟨H0, [lo0p], []⟩ H [(lo0p, 2, List.map aE aA)] ∧ List.length aA = N0 ∧ jC cmp4 rec aA a1 i10 j11 = some r) ?_ ⟨aA, m2, b3, .eq (by kernel_rfl), hO, hN, h0⟩
    clear hO hN h0
    rintro T H ⟨aA, i10, j11, hT, hO, hN, h0⟩
    refine aZ hT ?_
    clear hT
    unfold jC at h0
    obtain ⟨rr0, hl0, h0⟩ := aY h0
    refine bW (by kernel_rfl) (fun (s : List aB × Int × Int) T H => Has T [(0, (.msl 2 lo0p 0 (List.length s.1))), (1, (eI a1)), (4, (.fn (.func cmp4_f) cmp4_a cmp4_c)), (10, (eI s.2.1)), (11, (eI s.2.2))] ∧ aL ⟨H0, [lo0p], []⟩ H [(lo0p, 2, List.map aE s.1)] ∧ List.length s.1 = N0) hl0 ⟨.eq (by kernel_rfl), hO, hN⟩ ?_
    clear hO hN
    rintro k0 s out1 T H ⟨hT, hO, hN⟩ h1 ho0
    obtain ⟨aA, i10, j11⟩ := s
    replace h1 : jI cmp4 rec a1 aA i10 j11 = some out1 := h1
    dsimp only at hT
    refine aZ hT ?_
    clear hT
    unfold jI at h1
    refine aO ?_
    refine aT aH 3 [] [(33, (aK (decide (i10 < j11))))] ?_
    refine bE h1 (fun h1 => ?_) (fun h1 => ?_)
    · refine bH ?_
      refine bD [(0, (.msl 2 lo0p 0 (List.length aA))), (1, (eI a1)), (4, (.fn (.func cmp4_f) cmp4_a cmp4_c)), (10, (eI i10)), (11, (eI j11))] ?_
      refine bP 1 ?_
      refine aO ?_
      refine aW aH 7 ?_
      obtain ⟨c44, h1⟩ := bA h1
      refine nO [0 ≤ (1 : Int)] ⟨c44, trivial⟩ ?_
      refine bQ [] [(12, (eI (wR (Int.fdiv (IntKind.u64.wrap (wR (i10 + j11))) (2 ^ (min (Int.toNat (1 : Int)) 64))))))] ?_
      refine aO ?_
      refine fD (fH []) aH 11 ?_
      obtain ⟨c45, h1⟩ := bA h1
      refine cN 4 [0 ≤ (wR (Int.fdiv (IntKind.u64.wrap (wR (i10 + j11))) (2 ^ (min (Int.toNat (1 : Int)) 64)))) ∧ (wR (Int.fdiv (IntKind.u64.wrap (wR (i10 + j11))) (2 ^ (min (Int.toNat (1 : Int)) 64)))) < (lN aA)] ⟨c45, trivial⟩ ?_
      refine kS 0 lo0p 2 (0 + Int.toNat (wR (Int.fdiv (IntKind.u64.wrap (wR (i10 + j11))) (2 ^ (min (Int.toNat (1 : Int)) 64))))) (aE (gD aA (wR (Int.fdiv (IntKind.u64.wrap (wR (i10 + j11))) (2 ^ (min (Int.toNat (1 : Int)) 64)))))) (aE (gD aA (wR (Int.fdiv (IntKind.u64.wrap (wR (i10 + j11))) (2 ^ (min (Int.toNat (1 : Int)) 64)))))) (List.map aE aA) hO (cK c45) ?_
      obtain ⟨c46, h1⟩ := bA h1
      refine cN 8 [0 ≤ a1 ∧ a1 < (lN aA)] ⟨c46, trivial⟩ ?_
      refine kS 0 lo0p 2 (0 + Int.toNat a1) (aE (gD aA a1)) (aE (gD aA a1)) (List.map aE aA) hO (cK c46) ?_
      obtain ⟨x47, hx48, h1⟩ := aY h1
      refine xO (cmp4_h (gD aA (wR (Int.fdiv (IntKind.u64.wrap (wR (i10 + j11))) (2 ^ (min (Int.toNat (1 : Int)) 64))))) (gD aA a1) _ hx48) hO ?_
      intro H hO
      refine iU ?_
      refine bQ [] [(50, (aK (decide (x47 < (0 : Int)))))] ?_
      refine bE h1 (fun h1 => ?_) (fun h1 => ?_)
      · refine aW aH 3 ?_
        refine bC ?_
        exact aJ (aU (aI (⟨rfl, _, (oI h1).symm, .eq (by kernel_rfl), hO, hN⟩)))
      refine aW aH 2 ?_
      refine bC ?_
      exact aJ (aU (aI (⟨rfl, _, (oI h1).symm, .eq (by kernel_rfl), hO, hN⟩)))
    refine cS 0 ?_
    obtain rfl := oI h1
    obtain rfl : _ = rr0 := ho0
    replace h0 : fN cmp4 rec aA a1 i10 = some r := h0
    exact aJ (aS (aS (bL (aI (⟨rfl, _, _, .eq (by kernel_rfl), hO, hN, h0⟩)))))
  refine bH ?_
  exact aJ (aI (⟨rfl, _, .eq (by kernel_rfl), hO, hN, h0⟩))

theorem mZ (cmp4_f : Nat) (cmp4_a cmp4_c : List V) (cmp4 : aB → aB → Option Int) (cmp4_h : ∀ a0 a1 r, cmp4 a0 a1 = some r → bV Try.prog cmp4_f (cmp4_a ++ [(aE a0), (aE a1)] ++ cmp4_c) (eI r)) : ∀ (k : Nat) (lo0p : Nat) (aA : (List aB)) (a1 : Int) (m2 : Int) (b3 : Int) (r : List aB), fX cmp4 k aA a1 m2 b3 = some r → kJ Try.prog 122 lo0p 2 (List.map aE aA) (List.map aE r) [(.msl 2 lo0p 0 (List.length aA)), (eI a1), (eI m2), (eI b3), (.fn (.func cmp4_f) cmp4_a cmp4_c)] (.tup [])
  | 0, _, _, _, _, _, _, h => by cases h
  | k + 1, lo0p, aA, a1, m2, b3, r, h => sN cmp4_f cmp4_a cmp4_c cmp4 cmp4_h _ (mZ cmp4_f cmp4_a cmp4_c cmp4 cmp4_h k) lo0p aA a1 m2 b3 r h

theorem nV (lo0p : Nat) (aA : (List aB)) (a1 : Int) (m2 : Int) (b3 : Int) (cmp4_f : Nat) (cmp4_a cmp4_c : List V) (cmp4 : aB → aB → Option Int) (cmp4_h : ∀ a0 a1 r, cmp4 a0 a1 = some r → bV Try.prog cmp4_f (cmp4_a ++ [(aE a0), (aE a1)] ++ cmp4_c) (eI r)) (r : List aB) (h0 : eA aA a1 m2 b3 cmp4 = some r) : kJ Try.prog 122 lo0p 2 (List.map aE aA) (List.map aE r) [(.msl 2 lo0p 0 (List.length aA)), (eI a1), (eI m2), (eI b3), (.fn (.func cmp4_f) cmp4_a cmp4_c)] (.tup []) := by
  obtain ⟨k, hk⟩ := FE h0
  exact mZ cmp4_f cmp4_a cmp4_c cmp4 cmp4_h k lo0p aA a1 m2 b3 r hk

theorem wV (lo0p : Nat) (aA : (List aB)) (n1 : Int) (cmp2_f : Nat) (cmp2_a cmp2_c : List V) (cmp2 : aB → aB → Option Int) (cmp2_h : ∀ a0 a1 r, cmp2 a0 a1 = some r → bV Try.prog cmp2_f (cmp2_a ++ [(aE a0), (aE a1)] ++ cmp2_c) (eI r)) (r : List aB) (h0 : eS aA n1 cmp2 = some r) : kJ Try.prog 117 lo0p 2 (List.map aE aA) (List.map aE r) [(.msl 2 lo0p 0 (List.length aA)), (eI n1), (.fn (.func cmp2_f) cmp2_a cmp2_c)] (.tup []) := by
  intro H0 hl0
  refine cC Try.func117 ?_
  have hO := aL.oF hl0
  clear hl0
  obtain ⟨N0, hN0⟩ : ∃ n, n = List.length aA := ⟨_, rfl⟩
  have hN : List.length aA = N0 := hN0.symm
  unfold eS at h0
  refine aT aH 1 [] [(6, (eI (20 : Int)))] ?_
  refine aT aH 3 [] [(7, (eI (0 : Int))), (8, (eI (20 : Int)))] ?_
  refine cE (fun T H => ∃ aA : List aB, ∃ aN : Int, ∃ a7 : Int, Has T [(0, (.msl 2 lo0p 0 (List.length aA))), (1, (eI n1)), (2, (.fn (.func cmp2_f) cmp2_a cmp2_c)), (6, (eI aN)), (7, (eI a7))] ∧ aL ⟨H0, [lo0p], []⟩ H [(lo0p, 2, List.map aE aA)] ∧ List.length aA = N0 ∧ eH cmp2 aA n1 aN a7 = some r) ?_ ?_
  · clear hO hN h0
    rintro T H ⟨aA, aN, a7, hT, hO, hN, h0⟩
    refine aZ hT ?_
    clear hT
    unfold eH at h0
    refine aO ?_
    refine aW aH 5 ?_
    refine bS 4 ?_
    obtain ⟨x1, hx2, h0⟩ := aY h0
    refine nL [(lo0p, 2, List.map aE x1)] 0 (mH lo0p aA a7 n1 cmp2_f cmp2_a cmp2_c cmp2 cmp2_h _ hx2) hO ?_
    intro H hO hl3
    simp only [List.length_map] at hl3
    replace hN := hl3.trans hN
    refine cZ ?_
    refine cG (l := [(0, (.msl 2 lo0p 0 (List.length x1))), (1, (eI n1)), (2, (.fn (.func cmp2_f) cmp2_a cmp2_c)), (6, (eI aN))]) ⟨[(0, (.msl 2 lo0p 0 (List.length aA))), (1, (eI n1)), (2, (.fn (.func cmp2_f) cmp2_a cmp2_c)), (6, (eI aN))], by kernel_rfl, rfl, ⟨aR.eq (by simp [hl3]), aR.refl _, aR.refl _, aR.refl _, trivial⟩⟩ ?_
    refine aJ (aI (?_))
    refine bP 2 ?_
    refine cO [(0, (.msl 2 lo0p 0 (List.length x1))), (1, (eI n1)), (2, (.fn (.func cmp2_f) cmp2_a cmp2_c)), (6, (eI aN))] ?_
    refine cF (fun T H => ∃ aA : List aB, ∃ aN : Int, Has T [(0, (.msl 2 lo0p 0 (List.length aA))), (1, (eI n1)), (2, (.fn (.func cmp2_f) cmp2_a cmp2_c)), (6, (eI aN))] ∧ aL ⟨H0, [lo0p], []⟩ H [(lo0p, 2, List.map aE aA)] ∧ List.length aA = N0 ∧ gY cmp2 aA n1 aN = some r) ?_ ⟨x1, aN, .eq (by kernel_rfl), hO, hN, h0⟩
    clear hO hN h0
    rintro T H ⟨aA, aN, hT, hO, hN, h0⟩
    refine aZ hT ?_
    clear hT
    unfold gY at h0
    obtain ⟨rr0, hl0, h0⟩ := aY h0
    refine bW (by kernel_rfl) (fun (s : List aB × Int) T H => Has T [(0, (.msl 2 lo0p 0 (List.length s.1))), (1, (eI n1)), (2, (.fn (.func cmp2_f) cmp2_a cmp2_c)), (6, (eI s.2))] ∧ aL ⟨H0, [lo0p], []⟩ H [(lo0p, 2, List.map aE s.1)] ∧ List.length s.1 = N0) hl0 ⟨.eq (by kernel_rfl), hO, hN⟩ ?_
    clear hO hN
    rintro k0 s out1 T H ⟨hT, hO, hN⟩ h1 ho0
    obtain ⟨aA, aN⟩ := s
    replace h1 : gZ cmp2 n1 aA aN = some out1 := h1
    dsimp only at hT
    refine aZ hT ?_
    clear hT
    unfold gZ at h1
    refine aO ?_
    refine aT aH 3 [] [(30, (aK (decide (aN < n1))))] ?_
    refine bE h1 (fun h1 => ?_) (fun h1 => ?_)
    · refine bH ?_
      refine bD [(0, (.msl 2 lo0p 0 (List.length aA))), (1, (eI n1)), (2, (.fn (.func cmp2_f) cmp2_a cmp2_c)), (6, (eI aN))] ?_
      refine bP 3 ?_
      refine aT aH 4 [] [(7, (eI (0 : Int))), (8, (eI (wR ((2 : Int) * aN))))] ?_
      refine cE (fun T H => ∃ aA : List aB, ∃ a7 : Int, Has T [(0, (.msl 2 lo0p 0 (List.length aA))), (1, (eI n1)), (2, (.fn (.func cmp2_f) cmp2_a cmp2_c)), (6, (eI aN)), (7, (eI a7))] ∧ aL ⟨H0, [lo0p], []⟩ H [(lo0p, 2, List.map aE aA)] ∧ List.length aA = N0 ∧ eJ cmp2 aA n1 aN a7 = some out1) ?_ ?_
      · clear hO hN h1
        rintro T H ⟨aA, a7, hT, hO, hN, h1⟩
        refine aZ hT ?_
        clear hT
        unfold eJ at h1
        refine cE (fun T H => ∃ aA : List aB, Has T [(0, (.msl 2 lo0p 0 (List.length aA))), (1, (eI n1)), (2, (.fn (.func cmp2_f) cmp2_a cmp2_c)), (6, (eI aN))] ∧ aL ⟨H0, [lo0p], []⟩ H [(lo0p, 2, List.map aE aA)] ∧ List.length aA = N0 ∧ iC cmp2 aA n1 aN = some out1) ?_ ?_
        · clear hO hN h1
          rintro T H ⟨aA, hT, hO, hN, h1⟩
          refine aZ hT ?_
          clear hT
          unfold iC at h1
          refine aW aH 3 ?_
          refine bC ?_
          exact aJ (aU (aI (⟨rfl, _, (oI h1).symm, .eq (by kernel_rfl), hO, hN⟩)))
        refine aT aH 4 [] [(9, (eI (wR (a7 + aN))))] ?_
        refine aT aH 3 [] [(54, (aK (decide ((wR (a7 + aN)) < n1))))] ?_
        refine bE h1 (fun h1 => ?_) (fun h1 => ?_)
        · refine aW aH 6 ?_
          refine bS 5 ?_
          obtain ⟨x6, hx7, h1⟩ := aY h1
          refine nL [(lo0p, 2, List.map aE x6)] 0 (nV lo0p aA a7 (wR (a7 + aN)) n1 cmp2_f cmp2_a cmp2_c cmp2 cmp2_h _ hx7) hO ?_
          intro H hO hl8
          simp only [List.length_map] at hl8
          replace hN := hl8.trans hN
          refine cZ ?_
          refine cG (l := [(0, (.msl 2 lo0p 0 (List.length x6))), (1, (eI n1)), (2, (.fn (.func cmp2_f) cmp2_a cmp2_c)), (6, (eI aN))]) ⟨[(0, (.msl 2 lo0p 0 (List.length aA))), (1, (eI n1)), (2, (.fn (.func cmp2_f) cmp2_a cmp2_c)), (6, (eI aN))], by kernel_rfl, rfl, ⟨aR.eq (by simp [hl8]), aR.refl _, aR.refl _, aR.refl _, trivial⟩⟩ ?_
          exact aJ (aI (⟨rfl, _, .eq (by kernel_rfl), hO, hN, h1⟩))
        refine bH ?_
        exact aJ (aI (⟨rfl, _, .eq (by kernel_rfl), hO, hN, h1⟩))
      refine bP 4 ?_
      refine cO [(0, (.msl 2 lo0p 0 (List.length aA))), (1, (eI n1)), (2, (.fn (.func cmp2_f) cmp2_a cmp2_c)), (6, (eI aN)), (7, (eI (0 : Int))), (8, (eI (wR ((2 : Int) * aN))))] ?_
      refine cF (fun T H => ∃ aA : List aB, ∃ a7 : Int, ∃ b8 : Int, Has T [(0, (.msl 2 lo0p 0 (List.length aA))), (1, (eI n1)), (2, (.fn (.func cmp2_f) cmp2_a cmp2_c)), (6, (eI aN)), (7, (eI a7)), (8, (eI b8))] ∧ aL ⟨H0, [lo0p], []⟩ H [(lo0p, 2, List.map aE aA)] ∧ List.length aA = N0 ∧ gU cmp2 aA n1 aN a7 b8 = some out1) ?_ ⟨aA, (0 : Int), wR ((2 : Int) * aN), .eq (by kernel_rfl), hO, hN, h1⟩
      clear hO hN h1
      rintro T H ⟨aA, a7, b8, hT, hO, hN, h1⟩
      refine aZ hT ?_
      clear hT
      unfold gU at h1
      obtain ⟨rr1, hl1, h1⟩ := aY h1
      refine bW (by kernel_rfl) (fun (s : List aB × Int × Int) T H => Has T [(0, (.msl 2 lo0p 0 (List.length s.1))), (1, (eI n1)), (2, (.fn (.func cmp2_f) cmp2_a cmp2_c)), (6, (eI aN)), (7, (eI s.2.1)), (8, (eI s.2.2))] ∧ aL ⟨H0, [lo0p], []⟩ H [(lo0p, 2, List.map aE s.1)] ∧ List.length s.1 = N0) hl1 ⟨.eq (by kernel_rfl), hO, hN⟩ ?_
      clear hO hN
      rintro k1 s out2 T H ⟨hT, hO, hN⟩ h2 ho1
      obtain ⟨aA, a7, b8⟩ := s
      replace h2 : gW cmp2 n1 aN aA a7 b8 = some out2 := h2
      dsimp only at hT
      refine aZ hT ?_
      clear hT
      unfold gW at h2
      refine aO ?_
      refine aT aH 3 [] [(35, (aK (decide (b8 ≤ n1))))] ?_
      refine bE h2 (fun h2 => ?_) (fun h2 => ?_)
      · refine bH ?_
        refine bD [(0, (.msl 2 lo0p 0 (List.length aA))), (1, (eI n1)), (2, (.fn (.func cmp2_f) cmp2_a cmp2_c)), (6, (eI aN)), (7, (eI a7)), (8, (eI b8))] ?_
        refine bP 5 ?_
        refine aO ?_
        refine aW aH 8 ?_
        refine bS 7 ?_
        obtain ⟨x10, hx11, h2⟩ := aY h2
        refine nL [(lo0p, 2, List.map aE x10)] 0 (nV lo0p aA a7 (wR (a7 + aN)) b8 cmp2_f cmp2_a cmp2_c cmp2 cmp2_h _ hx11) hO ?_
        intro H hO hl12
        simp only [List.length_map] at hl12
        replace hN := hl12.trans hN
        refine cZ ?_
        refine cG (l := [(0, (.msl 2 lo0p 0 (List.length x10))), (1, (eI n1)), (2, (.fn (.func cmp2_f) cmp2_a cmp2_c)), (6, (eI aN)), (8, (eI b8))]) ⟨[(0, (.msl 2 lo0p 0 (List.length aA))), (1, (eI n1)), (2, (.fn (.func cmp2_f) cmp2_a cmp2_c)), (6, (eI aN)), (8, (eI b8))], by kernel_rfl, rfl, ⟨aR.eq (by simp [hl12]), aR.refl _, aR.refl _, aR.refl _, aR.refl _, trivial⟩⟩ ?_
        refine aJ (aI (?_))
        refine aT aH 2 [] [(7, (eI b8))] ?_
        refine aW aH 5 ?_
        refine bC ?_
        exact aJ (aU (aI (⟨rfl, _, (oI h2).symm, .eq (by kernel_rfl), hO, hN⟩)))
      refine cS 4 ?_
      obtain rfl := oI h2
      obtain rfl : _ = rr1 := ho1
      replace h1 : eJ cmp2 aA n1 aN a7 = some out1 := h1
      exact aJ (aS (aS (bL (aI (⟨rfl, _, _, .eq (by kernel_rfl), hO, hN, h1⟩)))))
    refine cS 2 ?_
    obtain rfl := oI h1
    obtain rfl : _ = rr0 := ho0
    replace h0 : some aA = some r := h0
    obtain rfl := oI h0
    exact aJ (aS (aS (bL (qZ (x := (.tup [])) (by kernel_rfl) (aR.refl _) ⟨rfl, hO.ext, hO.at 0 (by kernel_rfl), by simp only [List.length_map]; exact hN.trans hN0⟩))))
  refine bP 0 ?_
  refine cO [(0, (.msl 2 lo0p 0 (List.length aA))), (1, (eI n1)), (2, (.fn (.func cmp2_f) cmp2_a cmp2_c)), (6, (eI (20 : Int))), (7, (eI (0 : Int))), (8, (eI (20 : Int)))] ?_
  refine cF (fun T H => ∃ aA : List aB, ∃ aN : Int, ∃ a7 : Int, ∃ b8 : Int, Has T [(0, (.msl 2 lo0p 0 (List.length aA))), (1, (eI n1)), (2, (.fn (.func cmp2_f) cmp2_a cmp2_c)), (6, (eI aN)), (7, (eI a7)), (8, (eI b8))] ∧ aL ⟨H0, [lo0p], []⟩ H [(lo0p, 2, List.map aE aA)] ∧ List.length aA = N0 ∧ gV cmp2 aA n1 aN a7 b8 = some r) ?_ ⟨aA, (20 : Int), (0 : Int), (20 : Int), .eq (by kernel_rfl), hO, hN, h0⟩
  clear hO hN h0
  rintro T H ⟨aA, aN, a7, b8, hT, hO, hN, h0⟩
  refine aZ hT ?_
  clear hT
  unfold gV at h0
  obtain ⟨rr0, hl0, h0⟩ := aY h0
  refine bW (by kernel_rfl) (fun (s : List aB × Int × Int) T H => Has T [(0, (.msl 2 lo0p 0 (List.length s.1))), (1, (eI n1)), (2, (.fn (.func cmp2_f) cmp2_a cmp2_c)), (6, (eI aN)), (7, (eI s.2.1)), (8, (eI s.2.2))] ∧ aL ⟨H0, [lo0p], []⟩ H [(lo0p, 2, List.map aE s.1)] ∧ List.length s.1 = N0) hl0 ⟨.eq (by kernel_rfl), hO, hN⟩ ?_
  clear hO hN
  rintro k0 s out1 T H ⟨hT, hO, hN⟩ h1 ho0
  obtain ⟨aA, a7, b8⟩ := s
  replace h1 : gX cmp2 n1 aN aA a7 b8 = some out1 := h1
  dsimp only at hT
  refine aZ hT ?_
  clear hT
  unfold gX at h1
  refine aO ?_
  refine aT aH 3 [] [(13, (aK (decide (b8 ≤ n1))))] ?_
  refine bE h1 (fun h1 => ?_) (fun h1 => ?_)
  · refine bH ?_
    refine bD [(0, (.msl 2 lo0p 0 (List.length aA))), (1, (eI n1)), (2, (.fn (.func cmp2_f) cmp2_a cmp2_c)), (6, (eI aN)), (7, (eI a7)), (8, (eI b8))] ?_
    refine bP 1 ?_
    refine aO ?_
    refine aW aH 5 ?_
    refine bS 4 ?_
    obtain ⟨x14, hx15, h1⟩ := aY h1
    refine nL [(lo0p, 2, List.map aE x14)] 0 (mH lo0p aA a7 b8 cmp2_f cmp2_a cmp2_c cmp2 cmp2_h _ hx15) hO ?_
    intro H hO hl16
    simp only [List.length_map] at hl16
    replace hN := hl16.trans hN
    refine cZ ?_
    refine cG (l := [(0, (.msl 2 lo0p 0 (List.length x14))), (1, (eI n1)), (2, (.fn (.func cmp2_f) cmp2_a cmp2_c)), (6, (eI aN)), (8, (eI b8))]) ⟨[(0, (.msl 2 lo0p 0 (List.length aA))), (1, (eI n1)), (2, (.fn (.func cmp2_f) cmp2_a cmp2_c)), (6, (eI aN)), (8, (eI b8))], by kernel_rfl, rfl, ⟨aR.eq (by simp [hl16]), aR.refl _, aR.refl _, aR.refl _, aR.refl _, trivial⟩⟩ ?_
    refine aJ (aI (?_))
    refine aT aH 2 [] [(7, (eI b8))] ?_
    refine aW aH 4 ?_
    refine bC ?_
    exact aJ (aU (aI (⟨rfl, _, (oI h1).symm, .eq (by kernel_rfl), hO, hN⟩)))
  refine cS 0 ?_
  obtain rfl := oI h1
  obtain rfl : _ = rr0 := ho0
  replace h0 : eH cmp2 aA n1 aN a7 = some r := h0
  exact aJ (aS (aS (bL (aI (⟨rfl, _, _, _, .eq (by kernel_rfl), hO, hN, h0⟩)))))

theorem qR (lo0p : Nat) (x0 : (List aB)) (cmp1_f : Nat) (cmp1_a cmp1_c : List V) (cmp1 : aB → aB → Option Int) (cmp1_h : ∀ a0 a1 r, cmp1 a0 a1 = some r → bV Try.prog cmp1_f (cmp1_a ++ [(aE a0), (aE a1)] ++ cmp1_c) (eI r)) (r : List aB) (h0 : cU x0 cmp1 = some r) : kJ Try.prog 100 lo0p 2 (List.map aE x0) (List.map aE r) [(.msl 2 lo0p 0 (List.length x0)), (.fn (.func cmp1_f) cmp1_a cmp1_c)] (.tup []) := by
  intro H0 hl0
  refine cC Try.func100 ?_
  have hO := aL.oF hl0
  clear hl0
  obtain ⟨N0, hN0⟩ : ∃ n, n = List.length x0 := ⟨_, rfl⟩
  have hN : List.length x0 = N0 := hN0.symm
  unfold cU at h0
  refine aW aH 5 ?_
  refine bS 4 ?_
  obtain ⟨x1, hx2, h0⟩ := aY h0
  refine nL [(lo0p, 2, List.map aE x1)] 0 (wV lo0p x0 (lN x0) cmp1_f cmp1_a cmp1_c cmp1 cmp1_h _ hx2) hO ?_
  intro H hO hl3
  simp only [List.length_map] at hl3
  replace hN := hl3.trans hN
  refine cZ ?_
  refine cG (l := [(0, (.msl 2 lo0p 0 (List.length x1)))]) ⟨[(0, (.msl 2 lo0p 0 (List.length x0)))], by kernel_rfl, rfl, ⟨aR.eq (by simp [hl3]), trivial⟩⟩ ?_
  obtain rfl := oI h0
  exact aJ (qZ (x := (.tup [])) (by kernel_rfl) (aR.refl _) ⟨rfl, hO.ext, hO.at 0 (by kernel_rfl), by simp only [List.length_map]; exact hN.trans hN0⟩)

theorem NJ (a0 : aB) (b1 : aB) (r : Int) (h0 : lS a0 b1 = some r) : bV Try.prog 101 [(aE a0), (aE b1)] (eI r) := by
  intro H0
  refine cC Try.func101 ?_
  have hO := aL.start H0
  unfold lS at h0
  refine aO ?_
  refine aW aH 3 ?_
  refine jW 2 (aE a0) (by kernel_rfl) (by kernel_rfl) ?_
  refine jW 2 (aE b1) (by kernel_rfl) (by kernel_rfl) ?_
  refine bC ?_
  refine bD [(2, (.rp (aE a0))), (3, (.rp (aE b1)))] ?_
  refine aO ?_
  refine aW aH 6 ?_
  refine bS 4 ?_
  obtain ⟨x1, hx2, h0⟩ := aY h0
  refine cJ (uQ a0.At b1.At _ hx2) hO ?_
  intro H hO
  refine bC ?_
  refine bD [(4, (eI x1))] ?_
  refine bI ?_
  obtain rfl := oI h0
  exact aJ (Q_r hO)

theorem RR (f0 : (List aB)) (r : ((List aB) × Int)) (h0 : sC f0 = some r) : bV Try.prog 102 [(eL aE f0)] (.tup [(eL aE r.1), (eI r.2)]) := by
  intro H0
  refine cC Try.func102 ?_
  have hO := aL.start H0
  unfold sC at h0
  refine aT aH 2 [] [] ?_
  refine aO ?_
  refine aO ?_
  refine aW aH 3 ?_
  refine bS 1 ?_
  obtain ⟨x1, hx2, h0⟩ := aY h0
  refine cJ (AD f0 _ hx2) hO ?_
  intro H hO
  refine bC ?_
  refine bQ [] [(6, (aK (!x1)))] ?_
  refine bE h0 (fun h0 => ?_) (fun h0 => ?_)
  · refine bN aH 2 [(2, (.sl true 0 (fun _ => .bad))), (3, (eI (7 : Int)))] ?_
    refine bI ?_
    refine cG (l := [(2, (eL aE ([]))), (3, (eI (7 : Int)))]) ⟨[(2, (.sl true 0 (fun _ => .bad))), (3, (eI (7 : Int)))], by kernel_rfl, rfl, ⟨gN, aR.refl _, trivial⟩⟩ ?_
    obtain rfl := oI h0
    exact aJ (aP (Q_r hO))
  refine bH ?_
  refine bD [(0, (eL aE f0))] ?_
  refine bN aH 3 [(2, (eL aE f0)), (3, (eI (0 : Int)))] ?_
  refine bI ?_
  obtain rfl := oI h0
  exact aJ (Q_r hO)

theorem SY (l0 : (List aB)) (r : ((List aB) × Int)) (h0 : vA l0 = some r) : bV Try.prog 65 [(eL aE l0)] (.tup [(eL aE r.1), (eI r.2)]) := by
  intro H0
  refine cC Try.func65 ?_
  have hO := aL.start H0
  unfold vA at h0
  refine aT aH 2 [] [] ?_
  refine aO ?_
  refine aO ?_
  refine aW aH 2 ?_
  refine bS 1 ?_
  obtain ⟨x1, hx2, h0⟩ := aY h0
  refine cJ (lT l0 97 [] [] (fun y0 => rX y0) (fun y0 r h => NG y0 r h) _ hx2) hO ?_
  intro H hO
  refine cZ ?_
  refine bQ [] [(9, (aK x1))] ?_
  refine bE h0 (fun h0 => ?_) (fun h0 => ?_)
  · refine bN aH 2 [(2, (.sl true 0 (fun _ => .bad))), (3, (eI (2 : Int)))] ?_
    refine bI ?_
    refine cG (l := [(2, (eL aE ([]))), (3, (eI (2 : Int)))]) ⟨[(2, (.sl true 0 (fun _ => .bad))), (3, (eI (2 : Int)))], by kernel_rfl, rfl, ⟨gN, aR.refl _, trivial⟩⟩ ?_
    obtain rfl := oI h0
    exact aJ (aP (Q_r hO))
  refine bH ?_
  refine bD [(0, (eL aE l0))] ?_
  refine aO ?_
  refine aO ?_
  refine aW aH 2 ?_
  refine bS 1 ?_
  obtain ⟨x5, hx6, h0⟩ := aY h0
  refine cJ (lT l0 98 [] [] (fun y0 => rV y0) (fun y0 r h => NN y0 r h) _ hx6) hO ?_
  intro H hO
  refine cZ ?_
  refine bQ [] [(11, (aK x5))] ?_
  refine bE h0 (fun h0 => ?_) (fun h0 => ?_)
  · refine bN aH 2 [(2, (.sl true 0 (fun _ => .bad))), (3, (eI (13 : Int)))] ?_
    refine bI ?_
    refine cG (l := [(2, (eL aE ([]))), (3, (eI (13 : Int)))]) ⟨[(2, (.sl true 0 (fun _ => .bad))), (3, (eI (13 : Int)))], by kernel_rfl, rfl, ⟨gN, aR.refl _, trivial⟩⟩ ?_
    obtain rfl := oI h0
    exact aJ (aP (Q_r hO))
  refine bH ?_
  refine bD [(0, (eL aE l0))] ?_
  refine aO ?_
  refine aW aH 3 ?_
  refine bS 1 ?_
  obtain ⟨x9, hx10, h0⟩ := aY h0
  refine TQ (L' := fun lo11 => [(lo11, 2, List.map aE x9)]) 2 (List.map aE x9) 99 [(eL aE l0)] (fun lo11 => (.msl 2 lo11 0 (List.length x9))) (by kernel_rfl) (by kernel_rfl) (wH l0 _ hx10) hO (fun _ => by kernel_rfl) ?_
  intro lo11 H hO
  refine bC ?_
  refine bD [(4, (.msl 2 lo11 0 (List.length x9)))] ?_
  refine aO ?_
  refine aW aH 2 ?_
  refine bS 1 ?_
  obtain ⟨x12, hx13, h0⟩ := aY h0
  refine nL [(lo11, 2, List.map aE x12)] 0 (qR lo11 x9 101 [] [] (fun y0 y1 => lS y0 y1) (fun y0 y1 r h => NJ y0 y1 r h) _ hx13) hO ?_
  intro H hO hl14
  simp only [List.length_map] at hl14
  refine cZ ?_
  refine cG (l := [(4, (.msl 2 lo11 0 (List.length x12)))]) ⟨[(4, (.msl 2 lo11 0 (List.length x9)))], by kernel_rfl, rfl, ⟨aR.eq (by simp [hl14]), trivial⟩⟩ ?_
  refine aJ (aI (?_))
  refine aO ?_
  refine aW aH 2 ?_
  refine mS (xs := []) (k := 2) (by kernel_rfl) (by kernel_rfl) ?_
  refine bC ?_
  refine bQ [] [(5, (.sl true 0 (fun _ => .bad)))] ?_
  refine cE (fun T H => ∃ out5 : List aB, ∃ lo15 : Nat, Has T [(5, (.msl 2 lo15 0 (List.length out5)))] ∧ aL ⟨H0, [], []⟩ H [(lo15, 2, List.map aE out5)] ∧ tS out5 = some r) ?_ ?_
  · clear hO h0
    rintro T H ⟨out5, lo15, hT, hO, h0⟩
    refine aZ hT ?_
    clear hT
    unfold tS at h0
    refine aO ?_
    refine aW aH 6 ?_
    refine wT (e := aE) out5 0 5 2 lo15 (List.length out5) [] (by kernel_rfl) hO (by kernel_rfl) (by kernel_rfl) (by kernel_rfl) (by kernel_rfl) ?_
    intro H hO
    refine bS 1 ?_
    obtain ⟨x16, hx17, h0⟩ := aY h0
    refine cJ (RR out5 _ hx17) hO ?_
    intro H hO
    refine bC ?_
    refine bD [(2, (eL aE x16.1)), (3, (eI x16.2))] ?_
    refine bI ?_
    obtain rfl := oI h0
    exact aJ (Q_r hO)
  refine aT aH 1 [] [(6, (eI (0 : Int)))] ?_
  refine bP 0 ?_
  refine cO [(4, (.msl 2 lo11 0 (List.length x12))), (5, (.sl true 0 (fun _ => .bad))), (6, (eI (0 : Int)))] ?_
  refine yZ (el := (fun _ => .bad)) 1 5 2 hO (by kernel_rfl) ?_
  intro lo43 H44 hO
  refine cF (fun T H => ∃ all4 : List aB, ∃ out5 : List aB, ∃ i6 : Int, ∃ lo21 : Nat, ∃ lo22 : Nat, Has T [(4, (.msl 2 lo21 0 (List.length all4))), (5, (.msl 2 lo22 0 (List.length out5))), (6, (eI i6))] ∧ aL ⟨H0, [], []⟩ H [(lo21, 2, List.map aE all4), (lo22, 2, List.map aE out5)] ∧ xF all4 out5 i6 = some r) ?_ ⟨x12, ([] : List aB), (0 : Int), lo11, lo43, .eq (by kernel_rfl), hO, h0⟩
  clear hO h0
  rintro T H ⟨all4, out5, i6, lo21, lo22, hT, hO, h0⟩
  refine aZ hT ?_
  clear hT
  unfold xF at h0
  obtain ⟨rr0, hl0, h0⟩ := aY h0
  refine bW (by kernel_rfl) (fun (s : List aB × List aB × Int) T H => ∃ lo21 : Nat, ∃ lo22 : Nat, Has T [(4, (.msl 2 lo21 0 (List.length s.1))), (5, (.msl 2 lo22 0 (List.length s.2.1))), (6, (eI s.2.2))] ∧ aL ⟨H0, [], []⟩ H [(lo21, 2, List.map aE s.1), (lo22, 2, List.map aE s.2.1)]) hl0 ⟨lo21, lo22, .eq (by kernel_rfl), hO⟩ ?_
  clear hO
  rintro k0 s out1 T H ⟨lo21, lo22, hT, hO⟩ h1 ho0
  obtain ⟨all4, out5, i6⟩ := s
  replace h1 : kL all4 out5 i6 = some out1 := h1
  dsimp only at hT
  refine aZ hT ?_
  clear hT
  unfold kL at h1
  refine aO ?_
  refine aT aH 4 [] [(20, (aK (decide (i6 < (lN all4)))))] ?_
  refine bE h1 (fun h1 => ?_) (fun h1 => ?_)
  · refine bH ?_
    refine bD [(4, (.msl 2 lo21 0 (List.length all4))), (5, (.msl 2 lo22 0 (List.length out5))), (6, (eI i6))] ?_
    refine bP 1 ?_
    refine aO ?_
    refine aW aH 8 ?_
    obtain ⟨c24, h1⟩ := bA h1
    refine nH 4 [0 ≤ i6 ∧ i6 < (lN all4)] ⟨c24, trivial⟩ ?_
    refine AS 0 lo21 2 (0 + Int.toNat i6) (aE (gD all4 i6)) (eI ((gD all4 i6).At)) (List.map aE all4) hO (cK c24) ?_
    refine bS 6 ?_
    refine tJ 2 (aE (aB.mk 0 0)) (by kernel_rfl) (by kernel_rfl) hO ?_
    intro lo25 H hO
    refine pQ 2 lo25 2 0 (aE (aB.mk 0 0)) (aE (aB.mk ((gD all4 i6).At) 0)) [(aE (aB.mk 0 0))] [(lo21, 2, List.map aE all4), (lo22, 2, List.map aE out5), (lo25, 2, [(aE (aB.mk ((gD all4 i6).At) 0))])] hO rfl (by kernel_rfl) ?_
    intro H hO
    refine cZ ?_
    refine bQ [] [(7, (.lp lo25 0 0))] ?_
    refine cE (fun T H => ∃ all4 : List aB, ∃ out5 : List aB, ∃ i6 : Int, ∃ j7 : aB, ∃ lo26 : Nat, ∃ lo27 : Nat, ∃ lo28 : Nat, Has T [(4, (.msl 2 lo26 0 (List.length all4))), (5, (.msl 2 lo27 0 (List.length out5))), (6, (eI i6)), (7, (.lp lo28 0 0))] ∧ aL ⟨H0, [], []⟩ H [(lo26, 2, List.map aE all4), (lo27, 2, List.map aE out5), (lo28, 2, [(aE j7)])] ∧ sW all4 out5 i6 j7 = some out1) ?_ ?_
    · clear hO h1
      rintro T H ⟨all4, out5, i6, j7, lo26, lo27, lo28, hT, hO, h1⟩
      refine aZ hT ?_
      clear hT
      unfold sW at h1
      refine aO ?_
      refine aW aH 8 ?_
      refine bS 1 ?_
      refine AS 2 lo28 2 0 (aE j7) (eI j7.Net) [(aE j7)] hO rfl ?_
      refine bS 5 ?_
      refine wU [(55, true)] 2 lo28 2 0 (aE j7) (eI j7.At) [(aE j7)] (by kernel_rfl) (by kernel_rfl) hO (by kernel_rfl) (!decide (j7.Net = (0 : Int))) (by kernel_rfl) (fun hb29 => rfl) ?_
      refine bC ?_
      refine bQ [] [(59, (aK ((!decide (j7.Net = (0 : Int))) && (decide (j7.At < (1125899906842624 : Int))))))] ?_
      refine bE h1 (fun h1 => ?_) (fun h1 => ?_)
      · refine aW aH 5 ?_
        refine bS 1 ?_
        refine AS 2 lo28 2 0 (aE j7) (aE j7) [(aE j7)] hO rfl ?_
        refine mS (xs := [(aE j7)]) (k := 2) (by kernel_rfl) (by kernel_rfl) ?_
        obtain ⟨c32, h1⟩ := bA h1
        refine wM (e := aE) out5 ([j7]) 1 lo27 2 16 (fA [(aE j7)]) (fun lo31 => [(lo26, 2, List.map aE all4), (lo31, 2, List.map aE (out5 ++ ([j7]))), (lo28, 2, [(aE j7)])]) (by kernel_rfl) (by kernel_rfl) hO (by kernel_rfl) (by kernel_rfl) c32 (fun _ => by kernel_rfl) ?_
        intro lo31 H hO
        refine bC ?_
        replace hO := hO.pick (L' := [(lo26, 2, List.map aE all4), (lo31, 2, List.map aE (out5 ++ ([j7])))]) [0, 1] (by decide) (by kernel_rfl)
        exact aJ (aU (aI (⟨rfl, _, (oI h1).symm, _, _, .eq (by kernel_rfl), hO⟩)))
      refine bH ?_
      replace hO := hO.pick (L' := [(lo26, 2, List.map aE all4), (lo27, 2, List.map aE out5)]) [0, 1] (by decide) (by kernel_rfl)
      exact aJ (aU (aI (⟨rfl, _, (oI h1).symm, _, _, .eq (by kernel_rfl), hO⟩)))
    refine bP 2 ?_
    refine cO [(4, (.msl 2 lo21 0 (List.length all4))), (5, (.msl 2 lo22 0 (List.length out5))), (6, (eI i6)), (7, (.lp lo25 0 0))] ?_
    refine cF (fun T H => ∃ all4 : List aB, ∃ out5 : List aB, ∃ i6 : Int, ∃ j7 : aB, ∃ lo36 : Nat, ∃ lo37 : Nat, ∃ lo38 : Nat, Has T [(4, (.msl 2 lo36 0 (List.length all4))), (5, (.msl 2 lo37 0 (List.length out5))), (6, (eI i6)), (7, (.lp lo38 0 0))] ∧ aL ⟨H0, [], []⟩ H [(lo36, 2, List.map aE all4), (lo37, 2, List.map aE out5), (lo38, 2, [(aE j7)])] ∧ xG all4 out5 i6 j7 = some out1) ?_ ⟨all4, out5, i6, aB.mk ((gD all4 i6).At) 0, lo21, lo22, lo25, .eq (by kernel_rfl), hO, h1⟩
    clear hO h1
    rintro T H ⟨all4, out5, i6, j7, lo36, lo37, lo38, hT, hO, h1⟩
    refine aZ hT ?_
    clear hT
    unfold xG at h1
    obtain ⟨rr1, hl1, h1⟩ := aY h1
    refine bW (by kernel_rfl) (fun (s : List aB × List aB × Int × aB) T H => ∃ lo36 : Nat, ∃ lo37 : Nat, ∃ lo38 : Nat, Has T [(4, (.msl 2 lo36 0 (List.length s.1))), (5, (.msl 2 lo37 0 (List.length s.2.1))), (6, (eI s.2.2.1)), (7, (.lp lo38 0 0))] ∧ aL ⟨H0, [], []⟩ H [(lo36, 2, List.map aE s.1), (lo37, 2, List.map aE s.2.1), (lo38, 2, [(aE s.2.2.2)])]) hl1 ⟨lo36, lo37, lo38, .eq (by kernel_rfl), hO⟩ ?_
    clear hO
    rintro k1 s out2 T H ⟨lo36, lo37, lo38, hT, hO⟩ h2 ho1
    obtain ⟨all4, out5, i6, j7⟩ := s
    replace h2 : iV all4 out5 i6 j7 = some out2 := h2
    dsimp only at hT
    refine aZ hT ?_
    clear hT
    unfold iV at h2
    refine aO ?_
    refine aO ?_
    obtain ⟨c39, h2⟩ := bA h2
    refine fD (fH []) aH 14 ?_
    refine vE (K := fun T H => Has (lift T) [(4, (.msl 2 lo36 0 (List.length all4))), (5, (.msl 2 lo37 0 (List.length out5))), (6, (eI i6)), (7, (.lp lo38 0 0)), (40, (aK ((decide (i6 < (lN all4))) && (decide (((gD all4 i6).At) = j7.At)))))] ∧ aL ⟨H0, [], []⟩ H [(lo36, 2, List.map aE all4), (lo37, 2, List.map aE out5), (lo38, 2, [(aE j7)])]) ?_ ?_
    · refine oT 5 ?_
      refine qO (t := 31) (e := decide (i6 < (lN all4))) (by kernel_rfl) (fun hg40 => ?_) (fun hg40 => ?_)
      · refine cN 9 [0 ≤ i6 ∧ i6 < (lN all4)] ⟨(c39 hg40), trivial⟩ ?_
        refine wO 0 lo36 2 (0 + Int.toNat i6) (aE (gD all4 i6)) (eI ((gD all4 i6).At)) (List.map aE all4) (by kernel_rfl) (by kernel_rfl) (by kernel_rfl) hO (by kernel_rfl) (cK (c39 hg40)) ?_
        refine oT 11 ?_
        refine wO 2 lo38 2 0 (aE j7) (eI j7.At) [(aE j7)] (by kernel_rfl) (by kernel_rfl) (by kernel_rfl) hO (by kernel_rfl) rfl ?_
        refine iU ?_
        exact ⟨⟨[(4, (.msl 2 lo36 0 (List.length all4))), (5, (.msl 2 lo37 0 (List.length out5))), (6, (eI i6)), (7, (.lp lo38 0 0)), (40, (aK (decide (((gD all4 i6).At) = j7.At))))], by kernel_rfl, rfl, ⟨aR.refl _, aR.refl _, aR.refl _, aR.refl _, aR.eq (congrArg aK (qA hg40 rfl).symm), trivial⟩⟩, hO⟩
      refine iU ?_
      exact ⟨⟨[(4, (.msl 2 lo36 0 (List.length all4))), (5, (.msl 2 lo37 0 (List.length out5))), (6, (eI i6)), (7, (.lp lo38 0 0)), (40, (aK false))], by kernel_rfl, rfl, ⟨aR.refl _, aR.refl _, aR.refl _, aR.refl _, aR.eq (congrArg aK (qA hg40 rfl).symm), trivial⟩⟩, hO⟩
    · rintro T H ⟨hT, hO⟩
      refine cG hT ?_
      clear hT
      refine aJ (aI ?_)
      refine bE h2 (fun h2 => ?_) (fun h2 => ?_)
      · refine bH ?_
        refine bD [(4, (.msl 2 lo36 0 (List.length all4))), (5, (.msl 2 lo37 0 (List.length out5))), (6, (eI i6)), (7, (.lp lo38 0 0))] ?_
        refine aO ?_
        refine bP 3 ?_
        refine fD (fH []) aH 10 ?_
        refine oT 1 ?_
        refine kS 2 lo38 2 0 (aE j7) (eI j7.Net) [(aE j7)] hO rfl ?_
        obtain ⟨c42, h2⟩ := bA h2
        refine cN 6 [0 ≤ i6 ∧ i6 < (lN all4)] ⟨c42, trivial⟩ ?_
        refine kS 0 lo36 2 (0 + Int.toNat i6) (aE (gD all4 i6)) (eI ((gD all4 i6).Net)) (List.map aE all4) hO (cK c42) ?_
        refine oT 9 ?_
        refine tT 2 lo38 2 0 (aE j7) (aE (aB.mk j7.At (wR (j7.Net + ((gD all4 i6).Net))))) [(aE j7)] [(lo36, 2, List.map aE all4), (lo37, 2, List.map aE out5), (lo38, 2, [(aE (aB.mk j7.At (wR (j7.Net + ((gD all4 i6).Net)))))])] hO rfl (by kernel_rfl) ?_
        intro H hO
        refine zV (by kernel_rfl) ?_
        refine dY [(4, (.msl 2 lo36 0 (List.length all4))), (5, (.msl 2 lo37 0 (List.length out5))), (6, (eI i6)), (7, (.lp lo38 0 0))] ?_
        refine aJ (aU (aI (?_)))
        refine aW aH 3 ?_
        refine bC ?_
        exact aJ (aI (⟨rfl, _, (oI h2).symm, _, _, _, .eq (by kernel_rfl), hO⟩))
      refine cS 2 ?_
      obtain rfl := oI h2
      obtain rfl : _ = rr1 := ho1
      replace h1 : sW all4 out5 i6 j7 = some out1 := h1
      exact aJ (aS (aS (bL (aI (⟨rfl, _, _, _, _, _, _, _, .eq (by kernel_rfl), hO, h1⟩)))))
  refine cS 0 ?_
  replace hO := hO.pick (L' := [(lo22, 2, List.map aE out5)]) [1] (by decide) (by kernel_rfl)
  obtain rfl := oI h1
  obtain rfl : _ = rr0 := ho0
  replace h0 : tS out5 = some r := h0
  exact aJ (aS (aS (bL (aI (⟨rfl, _, _, .eq (by kernel_rfl), hO, h0⟩)))))

theorem NC (f0 : (List aB)) (r : ((List aB) × Int)) (h0 : rW f0 = some r) : bV Try.prog 64 [(eL aE f0)] (.tup [(eL aE r.1), (eI r.2)]) := by
  intro H0
  refine cC Try.func64 ?_
  have hO := aL.start H0
  unfold rW at h0
  refine aT aH 2 [] [] ?_
  refine aO ?_
  refine aW aH 6 ?_
  refine bS 1 ?_
  obtain ⟨x1, hx2, h0⟩ := aY h0
  refine cJ (SY f0 _ hx2) hO ?_
  intro H hO
  refine bC ?_
  refine bD [(2, (eL aE x1.1)), (3, (eI x1.2))] ?_
  refine bI ?_
  obtain rfl := oI h0
  exact aJ (Q_r hO)

theorem RU (l0 : (List aC)) (r : ((List aC) × Int)) (h0 : uU l0 = some r) : bV Try.prog 23 [(eL aD l0)] (.tup [(eL aD r.1), (eI r.2)]) := by
  intro H0
  refine cC Try.func23 ?_
  have hO := aL.start H0
  unfold uU at h0
  refine aT aH 2 [] [] ?_
  refine aO ?_
  refine aO ?_
  refine aW aH 2 ?_
  refine bS 1 ?_
  obtain ⟨x1, hx2, h0⟩ := aY h0
  refine cJ (lR l0 54 [] [] (fun y0 => rG y0) (fun y0 r h => NF y0 r h) _ hx2) hO ?_
  intro H hO
  refine cZ ?_
  refine bQ [] [(6, (aK x1))] ?_
  refine bE h0 (fun h0 => ?_) (fun h0 => ?_)
  · refine bN aH 2 [(2, (.sl true 0 (fun _ => .bad))), (3, (eI (2 : Int)))] ?_
    refine bI ?_
    refine cG (l := [(2, (eL aD ([]))), (3, (eI (2 : Int)))]) ⟨[(2, (.sl true 0 (fun _ => .bad))), (3, (eI (2 : Int)))], by kernel_rfl, rfl, ⟨gN, aR.refl _, trivial⟩⟩ ?_
    obtain rfl := oI h0
    exact aJ (aP (Q_r hO))
  refine bH ?_
  refine bD [(0, (eL aD l0))] ?_
  refine aO ?_
  refine aO ?_
  refine aW aH 2 ?_
  refine bS 1 ?_
  obtain ⟨x5, hx6, h0⟩ := aY h0
  refine cJ (lR l0 56 [] [] (fun y0 => rC y0) (fun y0 r h => NB y0 r h) _ hx6) hO ?_
  intro H hO
  refine cZ ?_
  refine bQ [] [(8, (aK x5))] ?_
  refine bE h0 (fun h0 => ?_) (fun h0 => ?_)
  · refine bN aH 2 [(2, (.sl true 0 (fun _ => .bad))), (3, (eI (13 : Int)))] ?_
    refine bI ?_
    refine cG (l := [(2, (eL aD ([]))), (3, (eI (13 : Int)))]) ⟨[(2, (.sl true 0 (fun _ => .bad))), (3, (eI (13 : Int)))], by kernel_rfl, rfl, ⟨gN, aR.refl _, trivial⟩⟩ ?_
    obtain rfl := oI h0
    exact aJ (aP (Q_r hO))
  refine bH ?_
  refine bD [(0, (eL aD l0))] ?_
  refine aO ?_
  refine aW aH 3 ?_
  refine bS 1 ?_
  obtain ⟨x9, hx10, h0⟩ := aY h0
  refine TQ (L' := fun lo11 => [(lo11, 3, List.map aD x9)]) 3 (List.map aD x9) 57 [(eL aD l0)] (fun lo11 => (.msl 3 lo11 0 (List.length x9))) (by kernel_rfl) (by kernel_rfl) (wD l0 _ hx10) hO (fun _ => by kernel_rfl) ?_
  intro lo11 H hO
  refine bC ?_
  refine bD [(4, (.msl 3 lo11 0 (List.length x9)))] ?_
  refine aO ?_
  refine aW aH 2 ?_
  refine bS 1 ?_
  obtain ⟨x12, hx13, h0⟩ := aY h0
  refine nL [(lo11, 3, List.map aD x12)] 0 (qQ lo11 x9 59 [] [] (fun y0 y1 => lY y0 y1) (fun y0 y1 r h => NP y0 y1 r h) _ hx13) hO ?_
  intro H hO hl14
  simp only [List.length_map] at hl14
  refine cZ ?_
  refine cG (l := [(4, (.msl 3 lo11 0 (List.length x12)))]) ⟨[(4, (.msl 3 lo11 0 (List.length x9)))], by kernel_rfl, rfl, ⟨aR.eq (by simp [hl14]), trivial⟩⟩ ?_
  refine aJ (aI (?_))
  refine aO ?_
  refine aW aH 6 ?_
  refine wT (e := aD) x12 0 4 3 lo11 (List.length x12) [] (by kernel_rfl) hO (by kernel_rfl) (by kernel_rfl) (by kernel_rfl) (by kernel_rfl) ?_
  intro H hO
  refine bS 1 ?_
  obtain ⟨x15, hx16, h0⟩ := aY h0
  refine cJ (NM x12 64 [] [] (fun y0 => rW y0) (fun y0 r h => NC y0 r h) _ hx16) hO ?_
  intro H hO
  refine bC ?_
  refine bD [(2, (eL aD x15.1)), (3, (eI x15.2))] ?_
  refine bI ?_
  obtain rfl := oI h0
  exact aJ (Q_r hO)

theorem CO (l0 : (List aC)) (d1 : Int) (bK : Int) (r : ((List aC) × Int)) (h0 : pP l0 d1 bK = some r) : bV Try.prog 14 [(eL aD l0), (eI d1), (eI bK)] (.tup [(eL aD r.1), (eI r.2)]) := by
  intro H0
  refine cC Try.func14 ?_
  have hO := aL.start H0
  unfold pP at h0
  refine aO ?_
  refine aW aH 3 ?_
  refine jW 1 (eI d1) (by kernel_rfl) (by kernel_rfl) ?_
  refine bC ?_
  refine bQ [1] [(4, (.rp (eI d1)))] ?_
  refine aO ?_
  refine bP 0 ?_
  refine aO ?_
  refine aW aH 12 ?_
  refine bS 1 ?_
  obtain ⟨x1, hx2, h0⟩ := aY h0
  refine cJ (VI l0 _ hx2) hO ?_
  intro H hO
  refine bC ?_
  refine bQ [] [(12, (aK (((!x1) || (decide (d1 < (1 : Int)))) || (decide ((1099511627776 : Int) < d1)))))] ?_
  refine bE h0 (fun h0 => ?_) (fun h0 => ?_)
  · refine bN aH 2 [(6, (.sl true 0 (fun _ => .bad))), (7, (eI (2 : Int)))] ?_
    refine bI ?_
    refine cG (l := [(6, (eL aD ([]))), (7, (eI (2 : Int)))]) ⟨[(6, (.sl true 0 (fun _ => .bad))), (7, (eI (2 : Int)))], by kernel_rfl, rfl, ⟨gN, aR.refl _, trivial⟩⟩ ?_
    obtain rfl := oI h0
    exact aJ (bM (aP (Q_r hO)))
  refine aO ?_
  refine aW aH 4 ?_
  refine bS 1 ?_
  obtain ⟨x5, hx6, h0⟩ := aY h0
  refine cJ (GL l0 _ hx6) hO ?_
  intro H hO
  refine bC ?_
  refine bQ [12] [(24, (aK (!x5)))] ?_
  refine bE h0 (fun h0 => ?_) (fun h0 => ?_)
  · refine bN aH 2 [(6, (.sl true 0 (fun _ => .bad))), (7, (eI (20 : Int)))] ?_
    refine bI ?_
    refine cG (l := [(6, (eL aD ([]))), (7, (eI (20 : Int)))]) ⟨[(6, (.sl true 0 (fun _ => .bad))), (7, (eI (20 : Int)))], by kernel_rfl, rfl, ⟨gN, aR.refl _, trivial⟩⟩ ?_
    obtain rfl := oI h0
    exact aJ (bM (aP (Q_r hO)))
  refine aT aH 7 [24] [(28, (aK ((decide (bK < (0 : Int))) || (decide ((1125899906842624 : Int) < bK)))))] ?_
  refine bE h0 (fun h0 => ?_) (fun h0 => ?_)
  · refine bN aH 2 [(6, (.sl true 0 (fun _ => .bad))), (7, (eI (13 : Int)))] ?_
    refine bI ?_
    refine cG (l := [(6, (eL aD ([]))), (7, (eI (13 : Int)))]) ⟨[(6, (.sl true 0 (fun _ => .bad))), (7, (eI (13 : Int)))], by kernel_rfl, rfl, ⟨gN, aR.refl _, trivial⟩⟩ ?_
    obtain rfl := oI h0
    exact aJ (bM (aP (Q_r hO)))
  refine bH ?_
  refine dY [(0, (eL aD l0)), (2, (eI bK)), (4, (.rp (eI d1)))] ?_
  refine aJ (aU (aI (?_)))
  refine aT aH 2 [4] [(8, (.fn (.func 43) [] [(.rp (eI d1))]))] ?_
  refine aO ?_
  refine aW aH 4 ?_
  refine bS 2 ?_
  obtain ⟨c10, h0⟩ := bA h0
  refine TW 3 40 (lN l0) (by kernel_rfl) (by kernel_rfl) c10 hO ?_
  intro lo11 H hO
  refine bC ?_
  refine bQ [] [(9, (.msl 3 lo11 0 (List.length ([] : List aC))))] ?_
  refine cE (fun T H => ∃ out9 : List aC, ∃ lo12 : Nat, Has T [(9, (.msl 3 lo12 0 (List.length out9)))] ∧ aL ⟨H0, [], []⟩ H [(lo12, 3, List.map aD out9)] ∧ tH out9 = some r) ?_ ?_
  · clear hO h0
    rintro T H ⟨out9, lo12, hT, hO, h0⟩
    refine aZ hT ?_
    clear hT
    unfold tH at h0
    refine aO ?_
    refine aW aH 6 ?_
    refine wT (e := aD) out9 0 9 3 lo12 (List.length out9) [] (by kernel_rfl) hO (by kernel_rfl) (by kernel_rfl) (by kernel_rfl) (by kernel_rfl) ?_
    intro H hO
    refine bS 1 ?_
    obtain ⟨x13, hx14, h0⟩ := aY h0
    refine cJ (RU out9 _ hx14) hO ?_
    intro H hO
    refine bC ?_
    refine bD [(6, (eL aD x13.1)), (7, (eI x13.2))] ?_
    refine bI ?_
    obtain rfl := oI h0
    exact aJ (Q_r hO)
  refine aT aH 3 [0] [(39, (eL aD l0)), (40, (eI (lN l0))), (41, (eI (0 : Int)))] ?_
  refine bP 1 ?_
  refine cO [(2, (eI bK)), (8, (.fn (.func 43) [] [(.rp (eI d1))])), (9, (.msl 3 lo11 0 (List.length ([] : List aC)))), (39, (eL aD l0)), (40, (eI (lN l0))), (41, (eI (0 : Int)))] ?_
  refine cF (fun T H => ∃ mV : Int, ∃ out9 : List aC, ∃ t39 : (List aC), ∃ t40 : Int, ∃ t41 : Int, ∃ lo17 : Nat, Has T [(2, (eI bK)), (8, (.fn (.func 43) [] [(.rp (eI mV))])), (9, (.msl 3 lo17 0 (List.length out9))), (39, (eL aD t39)), (40, (eI t40)), (41, (eI t41))] ∧ aL ⟨H0, [], []⟩ H [(lo17, 3, List.map aD out9)] ∧ xT bK mV out9 t39 t40 t41 = some r) ?_ ⟨d1, ([] : List aC), l0, (lN l0), (0 : Int), lo11, .eq (by kernel_rfl), hO, h0⟩
  clear hO h0
  rintro T H ⟨mV, out9, t39, t40, t41, lo17, hT, hO, h0⟩
  refine aZ hT ?_
  clear hT
  unfold xT at h0
  obtain ⟨rr0, hl0, h0⟩ := aY h0
  refine bW (by kernel_rfl) (fun (s : List aC × Int) T H => ∃ lo17 : Nat, Has T [(2, (eI bK)), (8, (.fn (.func 43) [] [(.rp (eI mV))])), (9, (.msl 3 lo17 0 (List.length s.1))), (39, (eL aD t39)), (40, (eI t40)), (41, (eI s.2))] ∧ aL ⟨H0, [], []⟩ H [(lo17, 3, List.map aD s.1)]) hl0 ⟨lo17, .eq (by kernel_rfl), hO⟩ ?_
  clear hO
  rintro k0 s out1 T H ⟨lo17, hT, hO⟩ h1 ho0
  obtain ⟨out9, t41⟩ := s
  replace h1 : mW bK mV t39 t40 out9 t41 = some out1 := h1
  dsimp only at hT
  refine aZ hT ?_
  clear hT
  unfold mW at h1
  refine aT aH 1 [] [(42, (aK (decide (t41 < t40))))] ?_
  refine aO ?_
  refine bE h1 (fun h1 => ?_) (fun h1 => ?_)
  · refine bH ?_
    refine bD [(2, (eI bK)), (8, (.fn (.func 43) [] [(.rp (eI mV))])), (9, (.msl 3 lo17 0 (List.length out9))), (39, (eL aD t39)), (40, (eI t40)), (41, (eI t41))] ?_
    refine cE (fun T H => ∃ out9 : List aC, ∃ lo19 : Nat, Has T [(2, (eI bK)), (8, (.fn (.func 43) [] [(.rp (eI mV))])), (9, (.msl 3 lo19 0 (List.length out9))), (39, (eL aD t39)), (40, (eI t40)), (41, (eI t41))] ∧ aL ⟨H0, [], []⟩ H [(lo19, 3, List.map aD out9)] ∧ tD bK mV out9 t39 t40 t41 = some out1) ?_ ?_
    · clear hO h1
      rintro T H ⟨out9, lo19, hT, hO, h1⟩
      refine aZ hT ?_
      clear hT
      unfold tD at h1
      refine aW aH 2 ?_
      refine bC ?_
      exact aJ (aI (⟨rfl, _, (oI h1).symm, _, .eq (by kernel_rfl), hO⟩))
    refine bP 2 ?_
    refine aO ?_
    refine aW aH 4 ?_
    obtain ⟨c20, h1⟩ := bA h1
    refine nH 2 [0 ≤ t41 ∧ t41 < (lN t39)] ⟨c20, trivial⟩ ?_
    refine ET 3 (.agg [(.sl true 0 (fun _ => .bad)), (eI 0), (eI 0)]) (aD (aC.mk ([]) 0 0)) (by kernel_rfl) (by kernel_rfl) (by kernel_rfl) (aBj (xs := [(.sl true 0 (fun _ => .bad)), (eI 0), (eI 0)]) (ys := [(eL aG ([])), (eI 0), (eI 0)]) ⟨gN, aR.refl _, aR.refl _, trivial⟩) (by kernel_rfl) (by kernel_rfl) hO ?_
    intro lo21 H hO
    refine pQ 1 lo21 3 0 (aD (aC.mk ([]) 0 0)) (aD (gD t39 t41)) [(aD (aC.mk ([]) 0 0))] [(lo17, 3, List.map aD out9), (lo21, 3, [(aD (gD t39 t41))])] hO rfl (by kernel_rfl) ?_
    intro H hO
    refine cZ ?_
    refine bQ [] [(11, (.lp lo21 0 0))] ?_
    refine aO ?_
    refine aW aH 9 ?_
    refine bS 1 ?_
    refine AS 1 lo21 3 0 (aD (gD t39 t41)) (eI ((gD t39 t41).Net)) [(aD (gD t39 t41))] hO rfl ?_
    refine bS 5 ?_
    refine wU [(48, true)] 1 lo21 3 0 (aD (gD t39 t41)) (eI ((gD t39 t41).At)) [(aD (gD t39 t41))] (by kernel_rfl) (by kernel_rfl) hO (by kernel_rfl) (decide ((0 : Int) < ((gD t39 t41).Net))) (by kernel_rfl) (fun hb22 => rfl) ?_
    refine bC ?_
    refine bQ [] [(53, (aK ((decide ((0 : Int) < ((gD t39 t41).Net))) && (decide (bK ≤ ((gD t39 t41).At))))))] ?_
    refine bE h1 (fun h1 => ?_) (fun h1 => ?_)
    · refine cO [(2, (eI bK)), (8, (.fn (.func 43) [] [(.rp (eI mV))])), (9, (.msl 3 lo17 0 (List.length out9))), (11, (.lp lo21 0 0)), (39, (eL aD t39)), (40, (eI t40)), (41, (eI t41)), (53, (aK ((decide ((0 : Int) < ((gD t39 t41).Net))) && (decide (bK ≤ ((gD t39 t41).At))))))] ?_
      refine MZ 3 1 11 3 lo21 (aD (gD t39 t41)) [(lo17, 3, List.map aD out9)] hO (by kernel_rfl) (by kernel_rfl) (by kernel_rfl) ?_
      intro H hO
      refine fD (fH [55, 57, 60, 63]) aH 15 ?_
      refine oT 7 ?_
      obtain ⟨x24, hx25, h1⟩ := aY h1
      refine xO (NO ((gD t39 t41).At) mV _ hx25) hO ?_
      intro H hO
      refine oT 12 ?_
      refine CB (xs := [(aD (gD t39 t41)), (aD (aC.mk ((gD t39 t41).Row) x24 (wR (0 - ((gD t39 t41).Net)))))]) (k := 3) (by kernel_rfl) (by kernel_rfl) ?_
      obtain ⟨c28, h1⟩ := bA h1
      refine AQ (e := aD) out9 ([gD t39 t41, aC.mk ((gD t39 t41).Row) x24 (wR (0 - ((gD t39 t41).Net)))]) 0 lo17 3 40 (fA [(aD (gD t39 t41)), (aD (aC.mk ((gD t39 t41).Row) x24 (wR (0 - ((gD t39 t41).Net)))))]) (fun lo27 => [(lo27, 3, List.map aD (out9 ++ ([gD t39 t41, aC.mk ((gD t39 t41).Row) x24 (wR (0 - ((gD t39 t41).Net)))])))]) (by kernel_rfl) (by kernel_rfl) hO (by kernel_rfl) (by kernel_rfl) c28 (fun _ => by kernel_rfl) ?_
      intro lo27 H hO
      refine iU ?_
      exact aJ (aU (aI (⟨rfl, _, _, .eq (by kernel_rfl), hO, h1⟩)))
    refine bH ?_
    replace hO := hO.pick (L' := [(lo17, 3, List.map aD out9)]) [0] (by decide) (by kernel_rfl)
    exact aJ (aU (aI (⟨rfl, _, _, .eq (by kernel_rfl), hO, h1⟩)))
  refine cS 1 ?_
  obtain rfl := oI h1
  obtain rfl : _ = rr0 := ho0
  replace h0 : tH out9 = some r := h0
  exact aJ (aS (aS (bL (aI (⟨rfl, _, _, .eq (by kernel_rfl), hO, h0⟩)))))

theorem FW  (r : Bool) (h0 : qE  = some r) : bV Try.prog 13 [] (aK r) := by
  intro H0
  refine cC Try.func13 ?_
  have hO := aL.start H0
  unfold qE at h0
  refine bN aH 1 [] ?_
  refine aO ?_
  refine aW aH 3 ?_
  refine bS 1 ?_
  refine mS (xs := [(aG (aF.mk (1 : Int) (1 : Int) ByteArray.empty))]) (k := 3) (by kernel_rfl) (by kernel_rfl) ?_
  refine bC ?_
  refine cG (l := [(1, (eL aG ([aF.mk (1 : Int) (1 : Int) ByteArray.empty])))]) ⟨[(1, (fA [(aG (aF.mk (1 : Int) (1 : Int) ByteArray.empty))]))], by kernel_rfl, rfl, ⟨KF (l := [aF.mk (1 : Int) (1 : Int) ByteArray.empty]), trivial⟩⟩ ?_
  refine aJ (aI (?_))
  refine aO ?_
  refine aW aH 15 ?_
  refine bS 8 ?_
  refine mS (xs := [(aD (aC.mk ([aF.mk (1 : Int) (1 : Int) ByteArray.empty]) (2 : Int) (1 : Int))), (aD (aC.mk ([aF.mk (1 : Int) (1 : Int) ByteArray.empty]) (5 : Int) (1 : Int))), (aD (aC.mk ([aF.mk (1 : Int) (1 : Int) ByteArray.empty]) (6 : Int) (-1 : Int))), (aD (aC.mk ([aF.mk (1 : Int) (1 : Int) ByteArray.empty]) (9 : Int) (-1 : Int)))]) (k := 3) (by kernel_rfl) (by kernel_rfl) ?_
  obtain ⟨x1, hx2, h0⟩ := aY h0
  refine aAU 14 [(fA [(aD (aC.mk ([aF.mk (1 : Int) (1 : Int) ByteArray.empty]) (2 : Int) (1 : Int))), (aD (aC.mk ([aF.mk (1 : Int) (1 : Int) ByteArray.empty]) (5 : Int) (1 : Int))), (aD (aC.mk ([aF.mk (1 : Int) (1 : Int) ByteArray.empty]) (6 : Int) (-1 : Int))), (aD (aC.mk ([aF.mk (1 : Int) (1 : Int) ByteArray.empty]) (9 : Int) (-1 : Int)))]), (eI (4 : Int)), (eI (0 : Int))] (.tup [(eL aD x1.1), (eI x1.2)]) (bV.sub (CO ([aC.mk ([aF.mk (1 : Int) (1 : Int) ByteArray.empty]) (2 : Int) (1 : Int), aC.mk ([aF.mk (1 : Int) (1 : Int) ByteArray.empty]) (5 : Int) (1 : Int), aC.mk ([aF.mk (1 : Int) (1 : Int) ByteArray.empty]) (6 : Int) (-1 : Int), aC.mk ([aF.mk (1 : Int) (1 : Int) ByteArray.empty]) (9 : Int) (-1 : Int)]) (4 : Int) (0 : Int) _ hx2) ⟨KF (l := [aC.mk ([aF.mk (1 : Int) (1 : Int) ByteArray.empty]) (2 : Int) (1 : Int), aC.mk ([aF.mk (1 : Int) (1 : Int) ByteArray.empty]) (5 : Int) (1 : Int), aC.mk ([aF.mk (1 : Int) (1 : Int) ByteArray.empty]) (6 : Int) (-1 : Int), aC.mk ([aF.mk (1 : Int) (1 : Int) ByteArray.empty]) (9 : Int) (-1 : Int)]), aR.refl _, aR.refl _, trivial⟩) hO ?_
  intro H hO
  refine bC ?_
  refine bD [(2, (eL aD x1.1)), (3, (eI x1.2))] ?_
  refine aO ?_
  refine aW aH 6 ?_
  obtain ⟨x4, hx5, h0⟩ := aY h0
  refine aAU 14 [(.sl true 0 (fun _ => .bad)), (eI (0 : Int)), (eI (0 : Int))] (.tup [(eL aD x4.1), (eI x4.2)]) (bV.sub (CO ([]) (0 : Int) (0 : Int) _ hx5) ⟨gN, aR.refl _, aR.refl _, trivial⟩) hO ?_
  intro H hO
  refine bC ?_
  refine bQ [] [(5, (eI x4.2))] ?_
  refine aO ?_
  refine aW aH 40 ?_
  obtain ⟨c7, h0⟩ := bA h0
  obtain ⟨c8, h0⟩ := bA h0
  obtain ⟨c9, h0⟩ := bA h0
  obtain ⟨c10, h0⟩ := bA h0
  refine nO [(((((decide (x1.2 = (0 : Int))) && (decide (x4.2 = (2 : Int)))) && (decide ((lN x1.1) = (4 : Int))))) = true → 0 ≤ (1 : Int) ∧ (1 : Int) < (lN x1.1)), ((((((decide (x1.2 = (0 : Int))) && (decide (x4.2 = (2 : Int)))) && (decide ((lN x1.1) = (4 : Int)))) && (decide (((gD x1.1 (1 : Int)).At) = (5 : Int))))) = true → 0 ≤ (2 : Int) ∧ (2 : Int) < (lN x1.1)), (((((((decide (x1.2 = (0 : Int))) && (decide (x4.2 = (2 : Int)))) && (decide ((lN x1.1) = (4 : Int)))) && (decide (((gD x1.1 (1 : Int)).At) = (5 : Int)))) && (decide (((gD x1.1 (2 : Int)).At) = (6 : Int))))) = true → 0 ≤ (2 : Int) ∧ (2 : Int) < (lN x1.1)), ((((((((decide (x1.2 = (0 : Int))) && (decide (x4.2 = (2 : Int)))) && (decide ((lN x1.1) = (4 : Int)))) && (decide (((gD x1.1 (1 : Int)).At) = (5 : Int)))) && (decide (((gD x1.1 (2 : Int)).At) = (6 : Int)))) && (decide (((gD x1.1 (2 : Int)).Net) = (-1 : Int))))) = true → 0 ≤ (3 : Int) ∧ (3 : Int) < (lN x1.1))] ⟨c7, c8, c9, c10, trivial⟩ ?_
  refine bD [(0, (aK (((((((decide (x1.2 = (0 : Int))) && (decide (x4.2 = (2 : Int)))) && (decide ((lN x1.1) = (4 : Int)))) && (decide (((gD x1.1 (1 : Int)).At) = (5 : Int)))) && (decide (((gD x1.1 (2 : Int)).At) = (6 : Int)))) && (decide (((gD x1.1 (2 : Int)).Net) = (-1 : Int)))) && (decide (((gD x1.1 (3 : Int)).At) = (9 : Int))))))] ?_
  refine bI ?_
  obtain rfl := oI h0
  exact aJ (Q_r hO)

theorem CL (v0 : aF) (r : Bool) (h0 : pT v0 = some r) : bV Try.prog 76 [(aG v0)] (aK r) := by
  intro H0
  refine cC Try.func76 ?_
  have hO := aL.start H0
  unfold pT at h0
  refine aO ?_
  refine aW aH 2 ?_
  refine jW 3 (aG v0) (by kernel_rfl) (by kernel_rfl) ?_
  refine bC ?_
  refine bD [(1, (.rp (aG v0)))] ?_
  refine aO ?_
  refine aT aH 3 [] [(5, (aK (decide (v0.Kind = (1 : Int)))))] ?_
  refine bE h0 (fun h0 => ?_) (fun h0 => ?_)
  · refine bN aH 4 [(2, (aK (mQ v0.Text (⟨#[]⟩ : ByteArray))))] ?_
    refine bI ?_
    obtain rfl := oI h0
    exact aJ (aP (Q_r hO))
  refine bH ?_
  refine bD [(1, (.rp (aG v0)))] ?_
  refine bN aH 15 [(2, (aK (((decide (v0.Kind = (2 : Int))) && (decide (v0.Num = (0 : Int)))) && (decide (((ByteArray.size v0.Text : Nat) : Int) ≤ (64 : Int))))))] ?_
  refine bI ?_
  obtain rfl := oI h0
  exact aJ (Q_r hO)

theorem CR (r0 : (List aF)) (r : Bool) (h0 : pV r0 = some r) : bV Try.prog 32 [(eL aG r0)] (aK r) := by
  intro H0
  refine cC Try.func32 ?_
  have hO := aL.start H0
  unfold pV at h0
  refine aT aH 1 [] [] ?_
  refine cE (fun T H => Has T [(0, (eL aG r0))] ∧ aL ⟨H0, [], []⟩ H [] ∧ qK r0 = some r) ?_ ?_
  · clear hO h0
    rintro T H ⟨hT, hO, h0⟩
    refine aZ hT ?_
    clear hT
    unfold qK at h0
    refine bN aH 4 [(2, (aK (decide ((lN r0) ≤ (8 : Int)))))] ?_
    refine bI ?_
    obtain rfl := oI h0
    exact aJ (Q_r hO)
  refine aT aH 1 [] [(3, (eI (0 : Int)))] ?_
  refine bP 0 ?_
  refine cO [(0, (eL aG r0)), (3, (eI (0 : Int)))] ?_
  refine cF (fun T H => ∃ i3 : Int, Has T [(0, (eL aG r0)), (3, (eI i3))] ∧ aL ⟨H0, [], []⟩ H [] ∧ xR r0 i3 = some r) ?_ ⟨(0 : Int), .eq (by kernel_rfl), hO, h0⟩
  clear hO h0
  rintro T H ⟨i3, hT, hO, h0⟩
  refine aZ hT ?_
  clear hT
  unfold xR at h0
  obtain ⟨rr0, hl0, h0⟩ := aY h0
  refine bW (by kernel_rfl) (fun (s : Int) T H => Has T [(0, (eL aG r0)), (3, (eI s))] ∧ aL ⟨H0, [], []⟩ H []) hl0 ⟨.eq (by kernel_rfl), hO⟩ ?_
  clear hO
  rintro k0 s out1 T H ⟨hT, hO⟩ h1 ho0
  obtain ⟨i3, rfl⟩ : ∃ x, x = s := ⟨_, rfl⟩
  replace h1 : oK r0 i3 = some out1 := h1
  refine aZ hT ?_
  clear hT
  unfold oK at h1
  refine aO ?_
  refine aT aH 8 [] [(11, (aK ((decide (i3 < (lN r0))) && (decide (i3 < (9 : Int))))))] ?_
  refine bE h1 (fun h1 => ?_) (fun h1 => ?_)
  · refine bH ?_
    refine bD [(0, (eL aG r0)), (3, (eI i3))] ?_
    refine aO ?_
    refine bP 1 ?_
    refine aO ?_
    refine aW aH 6 ?_
    obtain ⟨c2, h1⟩ := bA h1
    refine nH 4 [0 ≤ i3 ∧ i3 < (lN r0)] ⟨c2, trivial⟩ ?_
    obtain ⟨x3, hx4, h1⟩ := aY h1
    refine cJ (CL (gD r0 i3) _ hx4) hO ?_
    intro H hO
    refine bC ?_
    refine bQ [] [(19, (aK (!x3)))] ?_
    refine bE h1 (fun h1 => ?_) (fun h1 => ?_)
    · refine bN aH 1 [(2, (aK false))] ?_
      refine bI ?_
      obtain rfl := oI h1
      obtain rfl : _ = rr0 := ho0
      replace h0 : some false = some r := h0
      obtain rfl := oI h0
      exact aJ (bM (aP (aP (bM (aP (Q_r hO))))))
    refine bH ?_
    refine dY [(0, (eL aG r0)), (3, (eI i3))] ?_
    refine aJ (aU (aI (?_)))
    refine aW aH 3 ?_
    refine bC ?_
    exact aJ (aI (⟨rfl, _, (oI h1).symm, .eq (by kernel_rfl), hO⟩))
  refine cS 0 ?_
  obtain rfl := oI h1
  obtain rfl : _ = rr0 := ho0
  replace h0 : qK r0 = some r := h0
  exact aJ (aS (aS (bL (aI (⟨rfl, .eq (by kernel_rfl), hO, h0⟩)))))

theorem CS (f0 : (List aB)) (r : Bool) (h0 : nU f0 = some r) : bV Try.prog 33 [(eL aE f0)] (aK r) := by
  intro H0
  refine cC Try.func33 ?_
  have hO := aL.start H0
  unfold nU at h0
  refine aT aH 1 [] [] ?_
  refine aO ?_
  refine aT aH 3 [] [(6, (aK (decide ((1024 : Int) < (lN f0)))))] ?_
  refine bE h0 (fun h0 => ?_) (fun h0 => ?_)
  · refine bN aH 1 [(2, (aK false))] ?_
    refine bI ?_
    obtain rfl := oI h0
    exact aJ (aP (Q_r hO))
  refine bH ?_
  refine bD [(0, (eL aE f0))] ?_
  refine cE (fun T H => Has T [] ∧ aL ⟨H0, [], []⟩ H [] ∧ tB  = some r) ?_ ?_
  · clear hO h0
    rintro T H ⟨hT, hO, h0⟩
    refine aZ hT ?_
    clear hT
    unfold tB at h0
    refine bN aH 1 [(2, (aK true))] ?_
    refine bI ?_
    obtain rfl := oI h0
    exact aJ (Q_r hO)
  refine aT aH 1 [] [(3, (eI (0 : Int)))] ?_
  refine bP 0 ?_
  refine cO [(0, (eL aE f0)), (3, (eI (0 : Int)))] ?_
  refine cF (fun T H => ∃ i3 : Int, Has T [(0, (eL aE f0)), (3, (eI i3))] ∧ aL ⟨H0, [], []⟩ H [] ∧ xK f0 i3 = some r) ?_ ⟨(0 : Int), .eq (by kernel_rfl), hO, h0⟩
  clear hO h0
  rintro T H ⟨i3, hT, hO, h0⟩
  refine aZ hT ?_
  clear hT
  unfold xK at h0
  obtain ⟨rr0, hl0, h0⟩ := aY h0
  refine bW (by kernel_rfl) (fun (s : Int) T H => Has T [(0, (eL aE f0)), (3, (eI s))] ∧ aL ⟨H0, [], []⟩ H []) hl0 ⟨.eq (by kernel_rfl), hO⟩ ?_
  clear hO
  rintro k0 s out1 T H ⟨hT, hO⟩ h1 ho0
  obtain ⟨i3, rfl⟩ : ∃ x, x = s := ⟨_, rfl⟩
  replace h1 : kM f0 i3 = some out1 := h1
  refine aZ hT ?_
  clear hT
  unfold kM at h1
  refine aO ?_
  refine aT aH 4 [] [(10, (aK (decide (i3 < (lN f0)))))] ?_
  refine bE h1 (fun h1 => ?_) (fun h1 => ?_)
  · refine bH ?_
    refine bD [(0, (eL aE f0)), (3, (eI i3))] ?_
    refine aO ?_
    refine bP 1 ?_
    refine aO ?_
    refine aO ?_
    refine aW aH 38 ?_
    obtain ⟨c3, h1⟩ := bA h1
    obtain ⟨c4, h1⟩ := bA h1
    obtain ⟨c5, h1⟩ := bA h1
    obtain ⟨c6, h1⟩ := bA h1
    obtain ⟨c7, h1⟩ := bA h1
    refine nO [0 ≤ i3 ∧ i3 < (lN f0), (((!(decide (((gD f0 i3).At) < (-1 : Int))))) = true → 0 ≤ i3 ∧ i3 < (lN f0)), (((!((decide (((gD f0 i3).At) < (-1 : Int))) || (decide ((1125899906842624 : Int) ≤ ((gD f0 i3).At)))))) = true → 0 ≤ i3 ∧ i3 < (lN f0)), (((!(((decide (((gD f0 i3).At) < (-1 : Int))) || (decide ((1125899906842624 : Int) ≤ ((gD f0 i3).At)))) || (decide (((gD f0 i3).Net) = (0 : Int)))))) = true → 0 ≤ i3 ∧ i3 < (lN f0)), (((!((((decide (((gD f0 i3).At) < (-1 : Int))) || (decide ((1125899906842624 : Int) ≤ ((gD f0 i3).At)))) || (decide (((gD f0 i3).Net) = (0 : Int)))) || (decide ((1048576 : Int) < ((gD f0 i3).Net)))))) = true → 0 ≤ i3 ∧ i3 < (lN f0))] ⟨c3, c4, c5, c6, c7, trivial⟩ ?_
    refine bQ [] [(50, (aK (((((decide (((gD f0 i3).At) < (-1 : Int))) || (decide ((1125899906842624 : Int) ≤ ((gD f0 i3).At)))) || (decide (((gD f0 i3).Net) = (0 : Int)))) || (decide ((1048576 : Int) < ((gD f0 i3).Net)))) || (decide (((gD f0 i3).Net) < (-1048576 : Int))))))] ?_
    refine bE h1 (fun h1 => ?_) (fun h1 => ?_)
    · refine bN aH 1 [(2, (aK false))] ?_
      refine bI ?_
      obtain rfl := oI h1
      obtain rfl : _ = rr0 := ho0
      replace h0 : some false = some r := h0
      obtain rfl := oI h0
      exact aJ (aP (bM (aP (aP (bM (aP (Q_r hO)))))))
    refine bH ?_
    refine bD [(0, (eL aE f0)), (3, (eI i3))] ?_
    refine aO ?_
    obtain ⟨c9, h1⟩ := bA h1
    obtain ⟨c10, h1⟩ := bA h1
    refine fD (fH [58, 64]) aH 16 ?_
    refine vE (K := fun T H => Has (lift T) [(0, (eL aE f0)), (3, (eI i3)), (66, (aK ((decide ((0 : Int) < i3)) && (decide (((gD f0 i3).At) ≤ ((gD f0 (wR (i3 - (1 : Int)))).At))))))] ∧ aL ⟨H0, [], []⟩ H []) ?_ ?_
    · refine oT 3 ?_
      refine qO (t := 53) (e := decide ((0 : Int) < i3)) (by kernel_rfl) (fun hg11 => ?_) (fun hg11 => ?_)
      · refine BQ (Ds := [0 ≤ i3 ∧ i3 < (lN f0), 0 ≤ (wR (i3 - (1 : Int))) ∧ (wR (i3 - (1 : Int))) < (lN f0)]) (by kernel_rfl) ⟨(c9 hg11), (c10 hg11), trivial⟩ ?_
        exact ⟨⟨[(0, (eL aE f0)), (3, (eI i3)), (66, (aK (decide (((gD f0 i3).At) ≤ ((gD f0 (wR (i3 - (1 : Int)))).At)))))], by kernel_rfl, rfl, ⟨aR.refl _, aR.refl _, aR.eq (congrArg aK (qA hg11 rfl).symm), trivial⟩⟩, hO⟩
      refine iU ?_
      exact ⟨⟨[(0, (eL aE f0)), (3, (eI i3)), (66, (aK false))], by kernel_rfl, rfl, ⟨aR.refl _, aR.refl _, aR.eq (congrArg aK (qA hg11 rfl).symm), trivial⟩⟩, hO⟩
    · rintro T H ⟨hT, hO⟩
      refine cG hT ?_
      clear hT
      refine aJ (aI ?_)
      refine bE h1 (fun h1 => ?_) (fun h1 => ?_)
      · refine bN aH 1 [(2, (aK false))] ?_
        refine bI ?_
        obtain rfl := oI h1
        obtain rfl : _ = rr0 := ho0
        replace h0 : some false = some r := h0
        obtain rfl := oI h0
        exact aJ (bM (aP (aP (bM (aP (Q_r hO))))))
      refine bH ?_
      refine dY [(0, (eL aE f0)), (3, (eI i3))] ?_
      refine aJ (aU (aI (?_)))
      refine aW aH 3 ?_
      refine bC ?_
      exact aJ (aI (⟨rfl, _, (oI h1).symm, .eq (by kernel_rfl), hO⟩))
  refine cS 0 ?_
  obtain rfl := oI h1
  obtain rfl : _ = rr0 := ho0
  replace h0 : tB  = some r := h0
  exact aJ (aS (aS (bL (aI (⟨rfl, .eq (by kernel_rfl), hO, h0⟩)))))

theorem JT (a0 : aF) (b1 : aF) (r : Int) (h0 : pN a0 b1 = some r) : bV Try.prog 103 [(aG a0), (aG b1)] (eI r) := by
  intro H0
  refine cC Try.func103 ?_
  have hO := aL.start H0
  unfold pN at h0
  refine aO ?_
  refine aW aH 3 ?_
  refine jW 3 (aG a0) (by kernel_rfl) (by kernel_rfl) ?_
  refine jW 3 (aG b1) (by kernel_rfl) (by kernel_rfl) ?_
  refine bC ?_
  refine bD [(2, (.rp (aG a0))), (3, (.rp (aG b1)))] ?_
  refine aO ?_
  refine aO ?_
  refine aW aH 8 ?_
  refine bS 1 ?_
  obtain ⟨x1, hx2, h0⟩ := aY h0
  refine cJ (CL a0 _ hx2) hO ?_
  intro H hO
  refine bS 5 ?_
  obtain ⟨x4, hx5, h0⟩ := aY h0
  refine pF [(9, false)] 76 [(aG b1)] (aK x4) (!(!x1)) (by kernel_rfl) (by kernel_rfl) (by kernel_rfl) (fun hb6 => (CL b1 _ (nI hx5 hb6))) hO ?_
  intro H hO
  refine bC ?_
  refine bQ [] [(13, (aK ((!x1) || (!x4))))] ?_
  refine bE h0 (fun h0 => ?_) (fun h0 => ?_)
  · refine bN aH 1 [(4, (eI (0 : Int)))] ?_
    refine bI ?_
    obtain rfl := oI h0
    exact aJ (aP (Q_r hO))
  refine bH ?_
  refine bD [(2, (.rp (aG a0))), (3, (.rp (aG b1)))] ?_
  refine aO ?_
  refine aT aH 5 [] [(18, (aK (!decide (a0.Kind = b1.Kind))))] ?_
  refine bE h0 (fun h0 => ?_) (fun h0 => ?_)
  · refine aO ?_
    refine bN aH 3 [(21, (aK (decide (a0.Kind = (1 : Int)))))] ?_
    refine bE h0 (fun h0 => ?_) (fun h0 => ?_)
    · refine bN aH 1 [(4, (eI (-1 : Int)))] ?_
      refine bI ?_
      obtain rfl := oI h0
      exact aJ (aP (aP (Q_r hO)))
    refine bH ?_
    refine bD [] ?_
    refine bN aH 1 [(4, (eI (1 : Int)))] ?_
    refine bI ?_
    obtain rfl := oI h0
    exact aJ (aP (Q_r hO))
  refine bH ?_
  refine bD [(2, (.rp (aG a0))), (3, (.rp (aG b1)))] ?_
  refine aO ?_
  refine aT aH 5 [] [(26, (aK (!decide (a0.Num = b1.Num))))] ?_
  refine bE h0 (fun h0 => ?_) (fun h0 => ?_)
  · refine aO ?_
    refine bN aH 5 [(31, (aK (decide (a0.Num < b1.Num))))] ?_
    refine bE h0 (fun h0 => ?_) (fun h0 => ?_)
    · refine bN aH 1 [(4, (eI (-1 : Int)))] ?_
      refine bI ?_
      obtain rfl := oI h0
      exact aJ (aP (aP (Q_r hO)))
    refine bH ?_
    refine bD [] ?_
    refine bN aH 1 [(4, (eI (1 : Int)))] ?_
    refine bI ?_
    obtain rfl := oI h0
    exact aJ (aP (Q_r hO))
  refine bH ?_
  refine bD [(2, (.rp (aG a0))), (3, (.rp (aG b1)))] ?_
  refine cE (fun T H => ∃ a2 : aF, ∃ b3 : aF, Has T [(2, (.rp (aG a2))), (3, (.rp (aG b3)))] ∧ aL ⟨H0, [], []⟩ H [] ∧ oP a2 b3 = some r) ?_ ?_
  · clear hO h0
    rintro T H ⟨a2, b3, hT, hO, h0⟩
    refine aZ hT ?_
    clear hT
    unfold oP at h0
    refine aO ?_
    refine aT aH 7 [] [(70, (aK (!decide (((ByteArray.size a2.Text : Nat) : Int) = ((ByteArray.size b3.Text : Nat) : Int)))))] ?_
    refine bE h0 (fun h0 => ?_) (fun h0 => ?_)
    · refine aO ?_
      refine bN aH 7 [(77, (aK (decide (((ByteArray.size a2.Text : Nat) : Int) < ((ByteArray.size b3.Text : Nat) : Int)))))] ?_
      refine bE h0 (fun h0 => ?_) (fun h0 => ?_)
      · refine bN aH 1 [(4, (eI (-1 : Int)))] ?_
        refine bI ?_
        obtain rfl := oI h0
        exact aJ (aP (aP (Q_r hO)))
      refine bH ?_
      refine bD [] ?_
      refine bN aH 1 [(4, (eI (1 : Int)))] ?_
      refine bI ?_
      obtain rfl := oI h0
      exact aJ (aP (Q_r hO))
    refine bH ?_
    refine bD [] ?_
    refine bN aH 1 [(4, (eI (0 : Int)))] ?_
    refine bI ?_
    obtain rfl := oI h0
    exact aJ (Q_r hO)
  refine aT aH 1 [] [(5, (eI (0 : Int)))] ?_
  refine bP 0 ?_
  refine cO [(2, (.rp (aG a0))), (3, (.rp (aG b1))), (5, (eI (0 : Int)))] ?_
  refine cF (fun T H => ∃ a2 : aF, ∃ b3 : aF, ∃ i5 : Int, Has T [(2, (.rp (aG a2))), (3, (.rp (aG b3))), (5, (eI i5))] ∧ aL ⟨H0, [], []⟩ H [] ∧ qT a2 b3 i5 = some r) ?_ ⟨a0, b1, (0 : Int), .eq (by kernel_rfl), hO, h0⟩
  clear hO h0
  rintro T H ⟨a2, b3, i5, hT, hO, h0⟩
  refine aZ hT ?_
  clear hT
  unfold qT at h0
  obtain ⟨rr0, hl0, h0⟩ := aY h0
  refine bW (by kernel_rfl) (fun (s : Int) T H => Has T [(2, (.rp (aG a2))), (3, (.rp (aG b3))), (5, (eI s))] ∧ aL ⟨H0, [], []⟩ H []) hl0 ⟨.eq (by kernel_rfl), hO⟩ ?_
  clear hO
  rintro k0 s out1 T H ⟨hT, hO⟩ h1 ho0
  obtain ⟨i5, rfl⟩ : ∃ x, x = s := ⟨_, rfl⟩
  replace h1 : fI a2 b3 i5 = some out1 := h1
  refine aZ hT ?_
  clear hT
  unfold fI at h1
  refine aO ?_
  refine aT aH 12 [] [(43, (aK ((decide (i5 < ((ByteArray.size a2.Text : Nat) : Int))) && (decide (i5 < ((ByteArray.size b3.Text : Nat) : Int))))))] ?_
  refine bE h1 (fun h1 => ?_) (fun h1 => ?_)
  · refine bH ?_
    refine bD [(2, (.rp (aG a2))), (3, (.rp (aG b3))), (5, (eI i5))] ?_
    refine aO ?_
    refine bP 1 ?_
    refine aO ?_
    refine fD (fH [47, 51]) aH 9 ?_
    obtain ⟨c15, h1⟩ := bA h1
    obtain ⟨c16, h1⟩ := bA h1
    refine BQ (Ds := [0 ≤ i5 ∧ i5 < ((ByteArray.size a2.Text : Nat) : Int), 0 ≤ i5 ∧ i5 < ((ByteArray.size b3.Text : Nat) : Int)]) (by kernel_rfl) ⟨c15, c16, trivial⟩ ?_
    refine bQ [] [(54, (aK (!decide ((bt a2.Text i5) = (bt b3.Text i5)))))] ?_
    refine bE h1 (fun h1 => ?_) (fun h1 => ?_)
    · refine aO ?_
      refine aO ?_
      refine fD (fH [56, 60]) aH 9 ?_
      obtain ⟨c18, h1⟩ := bA h1
      obtain ⟨c19, h1⟩ := bA h1
      refine BQ (Ds := [0 ≤ i5 ∧ i5 < ((ByteArray.size a2.Text : Nat) : Int), 0 ≤ i5 ∧ i5 < ((ByteArray.size b3.Text : Nat) : Int)]) (by kernel_rfl) ⟨c18, c19, trivial⟩ ?_
      refine bD [(63, (aK (decide ((bt a2.Text i5) < (bt b3.Text i5)))))] ?_
      refine bE h1 (fun h1 => ?_) (fun h1 => ?_)
      · refine bN aH 1 [(4, (eI (-1 : Int)))] ?_
        refine bI ?_
        obtain rfl := oI h1
        obtain rfl : _ = rr0 := ho0
        replace h0 : some (-1 : Int) = some r := h0
        obtain rfl := oI h0
        exact aJ (aP (bM (aP (aP (bM (aP (Q_r hO)))))))
      refine bH ?_
      refine bD [] ?_
      refine bN aH 1 [(4, (eI (1 : Int)))] ?_
      refine bI ?_
      obtain rfl := oI h1
      obtain rfl : _ = rr0 := ho0
      replace h0 : some (1 : Int) = some r := h0
      obtain rfl := oI h0
      exact aJ (bM (aP (aP (bM (aP (Q_r hO))))))
    refine bH ?_
    refine dY [(2, (.rp (aG a2))), (3, (.rp (aG b3))), (5, (eI i5))] ?_
    refine aJ (aU (aI (?_)))
    refine aW aH 3 ?_
    refine bC ?_
    exact aJ (aI (⟨rfl, _, (oI h1).symm, .eq (by kernel_rfl), hO⟩))
  refine cS 0 ?_
  obtain rfl := oI h1
  obtain rfl : _ = rr0 := ho0
  replace h0 : oP a2 b3 = some r := h0
  exact aJ (aS (aS (bL (aI (⟨rfl, _, _, .eq (by kernel_rfl), hO, h0⟩)))))

theorem CG (a0 : (List aF)) (b1 : (List aF)) (r : Int) (h0 : nD a0 b1 = some r) : bV Try.prog 68 [(eL aG a0), (eL aG b1)] (eI r) := by
  intro H0
  refine cC Try.func68 ?_
  have hO := aL.start H0
  unfold nD at h0
  refine aT aH 1 [] [] ?_
  refine aO ?_
  refine aO ?_
  refine aW aH 8 ?_
  refine bS 1 ?_
  obtain ⟨x1, hx2, h0⟩ := aY h0
  refine cJ (CR a0 _ hx2) hO ?_
  intro H hO
  refine bS 5 ?_
  obtain ⟨x4, hx5, h0⟩ := aY h0
  refine pF [(10, false)] 32 [(eL aG b1)] (aK x4) (!(!x1)) (by kernel_rfl) (by kernel_rfl) (by kernel_rfl) (fun hb6 => (CR b1 _ (nI hx5 hb6))) hO ?_
  intro H hO
  refine bC ?_
  refine bQ [] [(14, (aK ((!x1) || (!x4))))] ?_
  refine bE h0 (fun h0 => ?_) (fun h0 => ?_)
  · refine bN aH 1 [(4, (eI (0 : Int)))] ?_
    refine bI ?_
    obtain rfl := oI h0
    exact aJ (aP (Q_r hO))
  refine bH ?_
  refine bD [(0, (eL aG a0)), (1, (eL aG b1))] ?_
  refine cE (fun T H => Has T [(0, (eL aG a0)), (1, (eL aG b1))] ∧ aL ⟨H0, [], []⟩ H [] ∧ oO a0 b1 = some r) ?_ ?_
  · clear hO h0
    rintro T H ⟨hT, hO, h0⟩
    refine aZ hT ?_
    clear hT
    unfold oO at h0
    refine aO ?_
    refine aT aH 5 [] [(43, (aK (decide ((lN a0) < (lN b1)))))] ?_
    refine bE h0 (fun h0 => ?_) (fun h0 => ?_)
    · refine bN aH 1 [(4, (eI (-1 : Int)))] ?_
      refine bI ?_
      obtain rfl := oI h0
      exact aJ (aP (Q_r hO))
    refine bH ?_
    refine bD [(0, (eL aG a0)), (1, (eL aG b1))] ?_
    refine aO ?_
    refine bN aH 5 [(48, (aK (decide ((lN b1) < (lN a0)))))] ?_
    refine bE h0 (fun h0 => ?_) (fun h0 => ?_)
    · refine bN aH 1 [(4, (eI (1 : Int)))] ?_
      refine bI ?_
      obtain rfl := oI h0
      exact aJ (aP (Q_r hO))
    refine bH ?_
    refine bD [] ?_
    refine bN aH 1 [(4, (eI (0 : Int)))] ?_
    refine bI ?_
    obtain rfl := oI h0
    exact aJ (Q_r hO)
  refine aT aH 1 [] [(5, (eI (0 : Int)))] ?_
  refine bP 0 ?_
  refine cO [(0, (eL aG a0)), (1, (eL aG b1)), (5, (eI (0 : Int)))] ?_
  refine cF (fun T H => ∃ i5 : Int, Has T [(0, (eL aG a0)), (1, (eL aG b1)), (5, (eI i5))] ∧ aL ⟨H0, [], []⟩ H [] ∧ qW a0 b1 i5 = some r) ?_ ⟨(0 : Int), .eq (by kernel_rfl), hO, h0⟩
  clear hO h0
  rintro T H ⟨i5, hT, hO, h0⟩
  refine aZ hT ?_
  clear hT
  unfold qW at h0
  obtain ⟨rr0, hl0, h0⟩ := aY h0
  refine bW (by kernel_rfl) (fun (s : Int) T H => Has T [(0, (eL aG a0)), (1, (eL aG b1)), (5, (eI s))] ∧ aL ⟨H0, [], []⟩ H []) hl0 ⟨.eq (by kernel_rfl), hO⟩ ?_
  clear hO
  rintro k0 s out1 T H ⟨hT, hO⟩ h1 ho0
  obtain ⟨i5, rfl⟩ : ∃ x, x = s := ⟨_, rfl⟩
  replace h1 : fK a0 b1 i5 = some out1 := h1
  refine aZ hT ?_
  clear hT
  unfold fK at h1
  refine aO ?_
  refine aT aH 10 [] [(24, (aK ((decide (i5 < (lN a0))) && (decide (i5 < (lN b1))))))] ?_
  refine bE h1 (fun h1 => ?_) (fun h1 => ?_)
  · refine bH ?_
    refine bD [(0, (eL aG a0)), (1, (eL aG b1)), (5, (eI i5))] ?_
    refine aO ?_
    refine bP 1 ?_
    refine aO ?_
    refine fD (fH [30, 34]) aH 10 ?_
    obtain ⟨c11, h1⟩ := bA h1
    obtain ⟨c12, h1⟩ := bA h1
    refine cN 8 [0 ≤ i5 ∧ i5 < (lN a0), 0 ≤ i5 ∧ i5 < (lN b1)] ⟨c11, c12, trivial⟩ ?_
    obtain ⟨x13, hx14, h1⟩ := aY h1
    refine xO (JT (gD a0 i5) (gD b1 i5) _ hx14) hO ?_
    intro H hO
    refine iU ?_
    refine bQ [] [(6, (eI x13))] ?_
    refine aT aH 2 [] [(37, (aK (!decide (x13 = (0 : Int)))))] ?_
    refine bE h1 (fun h1 => ?_) (fun h1 => ?_)
    · refine bN aH 2 [(4, (eI x13))] ?_
      refine bI ?_
      obtain rfl := oI h1
      obtain rfl : _ = rr0 := ho0
      replace h0 : some x13 = some r := h0
      obtain rfl := oI h0
      exact aJ (bM (aP (aP (bM (aP (Q_r hO))))))
    refine bH ?_
    refine dY [(0, (eL aG a0)), (1, (eL aG b1)), (5, (eI i5))] ?_
    refine aJ (aU (aI (?_)))
    refine aW aH 3 ?_
    refine bC ?_
    exact aJ (aI (⟨rfl, _, (oI h1).symm, .eq (by kernel_rfl), hO⟩))
  refine cS 0 ?_
  obtain rfl := oI h1
  obtain rfl : _ = rr0 := ho0
  replace h0 : oO a0 b1 = some r := h0
  exact aJ (aS (aS (bL (aI (⟨rfl, .eq (by kernel_rfl), hO, h0⟩)))))

theorem BI (a0 : (List aF)) (b1 : (List aF)) (r : Bool) (h0 : oJ a0 b1 = some r) : bV Try.prog 48 [(eL aG a0), (eL aG b1)] (aK r) := by
  intro H0
  refine cC Try.func48 ?_
  have hO := aL.start H0
  unfold oJ at h0
  refine aT aH 1 [] [] ?_
  refine aO ?_
  refine aT aH 5 [] [(10, (aK (!decide ((lN a0) = (lN b1)))))] ?_
  refine bE h0 (fun h0 => ?_) (fun h0 => ?_)
  · refine bN aH 1 [(4, (aK false))] ?_
    refine bI ?_
    obtain rfl := oI h0
    exact aJ (aP (Q_r hO))
  refine bH ?_
  refine bD [(0, (eL aG a0)), (1, (eL aG b1))] ?_
  refine cE (fun T H => Has T [] ∧ aL ⟨H0, [], []⟩ H [] ∧ rN  = some r) ?_ ?_
  · clear hO h0
    rintro T H ⟨hT, hO, h0⟩
    refine aZ hT ?_
    clear hT
    unfold rN at h0
    refine bN aH 1 [(4, (aK true))] ?_
    refine bI ?_
    obtain rfl := oI h0
    exact aJ (Q_r hO)
  refine aT aH 1 [] [(5, (eI (0 : Int)))] ?_
  refine bP 0 ?_
  refine cO [(0, (eL aG a0)), (1, (eL aG b1)), (5, (eI (0 : Int)))] ?_
  refine cF (fun T H => ∃ i5 : Int, Has T [(0, (eL aG a0)), (1, (eL aG b1)), (5, (eI i5))] ∧ aL ⟨H0, [], []⟩ H [] ∧ vX a0 b1 i5 = some r) ?_ ⟨(0 : Int), .eq (by kernel_rfl), hO, h0⟩
  clear hO h0
  rintro T H ⟨i5, hT, hO, h0⟩
  refine aZ hT ?_
  clear hT
  unfold vX at h0
  obtain ⟨rr0, hl0, h0⟩ := aY h0
  refine bW (by kernel_rfl) (fun (s : Int) T H => Has T [(0, (eL aG a0)), (1, (eL aG b1)), (5, (eI s))] ∧ aL ⟨H0, [], []⟩ H []) hl0 ⟨.eq (by kernel_rfl), hO⟩ ?_
  clear hO
  rintro k0 s out1 T H ⟨hT, hO⟩ h1 ho0
  obtain ⟨i5, rfl⟩ : ∃ x, x = s := ⟨_, rfl⟩
  replace h1 : pI a0 b1 i5 = some out1 := h1
  refine aZ hT ?_
  clear hT
  unfold pI at h1
  refine aO ?_
  refine aT aH 4 [] [(14, (aK (decide (i5 < (lN a0)))))] ?_
  refine bE h1 (fun h1 => ?_) (fun h1 => ?_)
  · refine bH ?_
    refine bD [(0, (eL aG a0)), (1, (eL aG b1)), (5, (eI i5))] ?_
    refine aO ?_
    refine bP 1 ?_
    refine aO ?_
    refine fD (fH [20, 24]) aH 9 ?_
    obtain ⟨c3, h1⟩ := bA h1
    obtain ⟨c4, h1⟩ := bA h1
    refine BQ (Ds := [0 ≤ i5 ∧ i5 < (lN a0), 0 ≤ i5 ∧ i5 < (lN b1)]) (by kernel_rfl) ⟨c3, c4, trivial⟩ ?_
    refine bQ [] [(25, (aK (!((decide (((gD a0 i5).Kind) = ((gD b1 i5).Kind))) && ((decide (((gD a0 i5).Num) = ((gD b1 i5).Num))) && ((mQ ((gD a0 i5).Text) ((gD b1 i5).Text)) && true))))))] ?_
    refine bE h1 (fun h1 => ?_) (fun h1 => ?_)
    · refine bN aH 1 [(4, (aK false))] ?_
      refine bI ?_
      obtain rfl := oI h1
      obtain rfl : _ = rr0 := ho0
      replace h0 : some false = some r := h0
      obtain rfl := oI h0
      exact aJ (bM (aP (aP (bM (aP (Q_r hO))))))
    refine bH ?_
    refine dY [(0, (eL aG a0)), (1, (eL aG b1)), (5, (eI i5))] ?_
    refine aJ (aU (aI (?_)))
    refine aW aH 3 ?_
    refine bC ?_
    exact aJ (aI (⟨rfl, _, (oI h1).symm, .eq (by kernel_rfl), hO⟩))
  refine cS 0 ?_
  obtain rfl := oI h1
  obtain rfl : _ = rr0 := ho0
  replace h0 : rN  = some r := h0
  exact aJ (aS (aS (bL (aI (⟨rfl, .eq (by kernel_rfl), hO, h0⟩)))))

theorem BK (l0 : (List aC)) (r : (List (List aF))) (h0 : oG l0 = some r) : bV Try.prog 45 [(eL aD l0)] (eL (eL aG) r) := by
  intro H0
  refine cC Try.func45 ?_
  have hO := aL.start H0
  unfold oG at h0
  refine aT aH 1 [] [] ?_
  refine aO ?_
  refine aW aH 2 ?_
  refine mS (xs := []) (k := 1) (by kernel_rfl) (by kernel_rfl) ?_
  refine bC ?_
  refine bQ [] [(3, (.sl true 0 (fun _ => .bad)))] ?_
  refine cE (fun T H => ∃ bG : List (List aF), ∃ lo1 : Nat, Has T [(3, (.msl 1 lo1 0 (List.length bG)))] ∧ aL ⟨H0, [], []⟩ H [(lo1, 1, List.map (eL aG) bG)] ∧ vZ bG = some r) ?_ ?_
  · clear hO h0
    rintro T H ⟨bG, lo1, hT, hO, h0⟩
    refine aZ hT ?_
    clear hT
    unfold vZ at h0
    refine bN aH 2 [(2, (.msl 1 lo1 0 (List.length bG)))] ?_
    refine bI ?_
    refine dY [(2, (.msl 1 lo1 0 (List.length bG)))] ?_
    refine zB (en := (eL aG)) bG 0 0 2 1 lo1 (List.length bG) hO (by kernel_rfl) (by kernel_rfl) (by kernel_rfl) (L' := []) (by kernel_rfl) ?_
    intro H2 hO
    obtain rfl := oI h0
    exact aJ (Q_r hO)
  refine aT aH 1 [] [(4, (eI (0 : Int)))] ?_
  refine bP 0 ?_
  refine cO [(0, (eL aD l0)), (3, (.sl true 0 (fun _ => .bad))), (4, (eI (0 : Int)))] ?_
  refine yZ (el := (fun _ => .bad)) 1 3 1 hO (by kernel_rfl) ?_
  intro lo31 H32 hO
  refine cF (fun T H => ∃ bG : List (List aF), ∃ i4 : Int, ∃ lo4 : Nat, Has T [(0, (eL aD l0)), (3, (.msl 1 lo4 0 (List.length bG))), (4, (eI i4))] ∧ aL ⟨H0, [], []⟩ H [(lo4, 1, List.map (eL aG) bG)] ∧ vW l0 bG i4 = some r) ?_ ⟨([] : List (List aF)), (0 : Int), lo31, .eq (by kernel_rfl), hO, h0⟩
  clear hO h0
  rintro T H ⟨bG, i4, lo4, hT, hO, h0⟩
  refine aZ hT ?_
  clear hT
  unfold vW at h0
  obtain ⟨rr0, hl0, h0⟩ := aY h0
  refine bW (by kernel_rfl) (fun (s : List (List aF) × Int) T H => ∃ lo4 : Nat, Has T [(0, (eL aD l0)), (3, (.msl 1 lo4 0 (List.length s.1))), (4, (eI s.2))] ∧ aL ⟨H0, [], []⟩ H [(lo4, 1, List.map (eL aG) s.1)]) hl0 ⟨lo4, .eq (by kernel_rfl), hO⟩ ?_
  clear hO
  rintro k0 s out1 T H ⟨lo4, hT, hO⟩ h1 ho0
  obtain ⟨bG, i4⟩ := s
  replace h1 : mA l0 bG i4 = some out1 := h1
  dsimp only at hT
  refine aZ hT ?_
  clear hT
  unfold mA at h1
  refine aO ?_
  refine aT aH 4 [] [(11, (aK (decide (i4 < (lN l0)))))] ?_
  refine bE h1 (fun h1 => ?_) (fun h1 => ?_)
  · refine bH ?_
    refine bD [(0, (eL aD l0)), (3, (.msl 1 lo4 0 (List.length bG))), (4, (eI i4))] ?_
    refine cE (fun T H => ∃ bG : List (List aF), ∃ lo6 : Nat, Has T [(0, (eL aD l0)), (3, (.msl 1 lo6 0 (List.length bG))), (4, (eI i4))] ∧ aL ⟨H0, [], []⟩ H [(lo6, 1, List.map (eL aG) bG)] ∧ rQ l0 bG i4 = some out1) ?_ ?_
    · clear hO h1
      rintro T H ⟨bG, lo6, hT, hO, h1⟩
      refine aZ hT ?_
      clear hT
      unfold rQ at h1
      refine aW aH 3 ?_
      refine bC ?_
      exact aJ (aI (⟨rfl, _, (oI h1).symm, _, .eq (by kernel_rfl), hO⟩))
    refine bP 1 ?_
    refine aT aH 1 [] [(5, (eI (0 : Int)))] ?_
    refine cE (fun T H => ∃ bG : List (List aF), ∃ at5 : Int, ∃ lo7 : Nat, Has T [(0, (eL aD l0)), (3, (.msl 1 lo7 0 (List.length bG))), (4, (eI i4)), (5, (eI at5))] ∧ aL ⟨H0, [], []⟩ H [(lo7, 1, List.map (eL aG) bG)] ∧ rK l0 bG i4 at5 = some out1) ?_ ?_
    · clear hO h1
      rintro T H ⟨bG, at5, lo7, hT, hO, h1⟩
      refine aZ hT ?_
      clear hT
      unfold rK at h1
      refine aO ?_
      refine aO ?_
      obtain ⟨c8, h1⟩ := bA h1
      obtain ⟨c9, h1⟩ := bA h1
      obtain ⟨x10, hx11, h1⟩ := aY h1
      refine fD (fH [46]) aH 16 ?_
      refine vE (K := fun T H => Has (lift T) [(0, (eL aD l0)), (3, (.msl 1 lo7 0 (List.length bG))), (4, (eI i4)), (5, (eI at5)), (48, (aK ((decide (at5 < (lN bG))) && x10)))] ∧ aL ⟨H0, [], []⟩ H [(lo7, 1, List.map (eL aG) bG)]) ?_ ?_
      · refine oT 5 ?_
        refine qO (t := 37) (e := decide (at5 < (lN bG))) (by kernel_rfl) (fun hg12 => ?_) (fun hg12 => ?_)
        · refine cN 8 [0 ≤ at5 ∧ at5 < (lN bG)] ⟨(c8 hg12), trivial⟩ ?_
          refine wO 0 lo7 1 (0 + Int.toNat at5) (eL aG (gD bG at5)) (eL aG (gD bG at5)) (List.map (eL aG) bG) (by kernel_rfl) (by kernel_rfl) (by kernel_rfl) hO (by kernel_rfl) (cK (c8 hg12)) ?_
          refine cN 14 [0 ≤ i4 ∧ i4 < (lN l0)] ⟨(c9 hg12), trivial⟩ ?_
          refine yL 48 [(eL aG (gD bG at5)), (eL aG ((gD l0 i4).Row))] (aK x10) (by kernel_rfl) (by kernel_rfl) (BI (gD bG at5) ((gD l0 i4).Row) _ (nI hx11 hg12)) hO ?_
          intro H hO
          refine iU ?_
          exact ⟨⟨[(0, (eL aD l0)), (3, (.msl 1 lo7 0 (List.length bG))), (4, (eI i4)), (5, (eI at5)), (48, (aK x10))], by kernel_rfl, rfl, ⟨aR.refl _, aR.refl _, aR.refl _, aR.refl _, aR.eq (congrArg aK (qA hg12 rfl).symm), trivial⟩⟩, hO⟩
        refine iU ?_
        exact ⟨⟨[(0, (eL aD l0)), (3, (.msl 1 lo7 0 (List.length bG))), (4, (eI i4)), (5, (eI at5)), (48, (aK false))], by kernel_rfl, rfl, ⟨aR.refl _, aR.refl _, aR.refl _, aR.refl _, aR.eq (congrArg aK (qA hg12 rfl).symm), trivial⟩⟩, hO⟩
      · rintro T H ⟨hT, hO⟩
        refine cG hT ?_
        clear hT
        refine aJ (aI ?_)
        refine bE h1 (fun h1 => ?_) (fun h1 => ?_)
        · refine cS 1 ?_
          exact aJ (aS (bL (aI (⟨rfl, _, _, .eq (by kernel_rfl), hO, h1⟩))))
        refine bH ?_
        refine bD [(0, (eL aD l0)), (3, (.msl 1 lo7 0 (List.length bG))), (4, (eI i4)), (5, (eI at5))] ?_
        refine aO ?_
        refine aW aH 6 ?_
        refine mS (xs := []) (k := 1) (by kernel_rfl) (by kernel_rfl) ?_
        obtain ⟨c14, h1⟩ := bA h1
        refine nH 4 [0 ≤ at5 ∧ at5 ≤ (lN bG)] ⟨c14, trivial⟩ ?_
        obtain ⟨c16, h1⟩ := bA h1
        refine LN (e := (eL aG)) (List.take (Int.toNat at5) bG) (fun _ => .bad) 1 24 (.msl 1 lo7 0 (Int.toNat at5)) (fun lo15 => [(lo7, 1, List.map (eL aG) bG), (lo15, 1, List.map (eL aG) (List.take (Int.toNat at5) bG))]) (by kernel_rfl) (by kernel_rfl) hO (RN hO 0 (by kernel_rfl) (Int.toNat_le.2 (And.right c14))) c16 (fun _ => by kernel_rfl) ?_
        intro lo15 H hO
        refine bC ?_
        refine bQ [] [(6, (.msl 1 lo15 0 (List.length (List.take (Int.toNat at5) bG))))] ?_
        refine aO ?_
        refine aW aH 9 ?_
        obtain ⟨c17, h1⟩ := bA h1
        refine nH 6 [0 ≤ i4 ∧ i4 < (lN l0)] ⟨c17, trivial⟩ ?_
        refine mS (xs := [(eL aG ((gD l0 i4).Row))]) (k := 1) (by kernel_rfl) (by kernel_rfl) ?_
        obtain ⟨c19, h1⟩ := bA h1
        refine wM (e := (eL aG)) (List.take (Int.toNat at5) bG) ([(gD l0 i4).Row]) 1 lo15 1 24 (fA [(eL aG ((gD l0 i4).Row))]) (fun lo18 => [(lo7, 1, List.map (eL aG) bG), (lo18, 1, List.map (eL aG) ((List.take (Int.toNat at5) bG) ++ ([(gD l0 i4).Row])))]) (by kernel_rfl) (by kernel_rfl) hO (by kernel_rfl) (by kernel_rfl) c19 (fun _ => by kernel_rfl) ?_
        intro lo18 H hO
        refine bC ?_
        refine bQ [6] [(6, (.msl 1 lo18 0 (List.length ((List.take (Int.toNat at5) bG) ++ ([(gD l0 i4).Row])))))] ?_
        refine aW aH 6 ?_
        obtain ⟨c20, h1⟩ := bA h1
        refine nH 4 [0 ≤ at5 ∧ at5 ≤ (lN bG)] ⟨c20, trivial⟩ ?_
        obtain ⟨c22, h1⟩ := bA h1
        refine wM (e := (eL aG)) ((List.take (Int.toNat at5) bG) ++ ([(gD l0 i4).Row])) (List.drop (Int.toNat at5) bG) 1 lo18 1 24 (.msl 1 lo7 (0 + Int.toNat at5) (List.length bG - Int.toNat at5)) (fun lo21 => [(lo7, 1, List.map (eL aG) bG), (lo21, 1, List.map (eL aG) (((List.take (Int.toNat at5) bG) ++ ([(gD l0 i4).Row])) ++ (List.drop (Int.toNat at5) bG)))]) (by kernel_rfl) (by kernel_rfl) hO (by kernel_rfl) (QJ hO 0 (by kernel_rfl) rfl (Int.toNat_le.2 (And.right c20))) c22 (fun _ => by kernel_rfl) ?_
        intro lo21 H hO
        refine bC ?_
        replace hO := hO.pick (L' := [(lo21, 1, List.map (eL aG) (((List.take (Int.toNat at5) bG) ++ ([(gD l0 i4).Row])) ++ (List.drop (Int.toNat at5) bG)))]) [1] (by decide) (by kernel_rfl)
        exact aJ (aU (aI (⟨rfl, _, _, .eq (by kernel_rfl), hO, h1⟩)))
    refine bP 2 ?_
    refine cO [(0, (eL aD l0)), (3, (.msl 1 lo4 0 (List.length bG))), (4, (eI i4)), (5, (eI (0 : Int)))] ?_
    refine cF (fun T H => ∃ bG : List (List aF), ∃ at5 : Int, ∃ lo24 : Nat, Has T [(0, (eL aD l0)), (3, (.msl 1 lo24 0 (List.length bG))), (4, (eI i4)), (5, (eI at5))] ∧ aL ⟨H0, [], []⟩ H [(lo24, 1, List.map (eL aG) bG)] ∧ vM l0 bG i4 at5 = some out1) ?_ ⟨bG, (0 : Int), lo4, .eq (by kernel_rfl), hO, h1⟩
    clear hO h1
    rintro T H ⟨bG, at5, lo24, hT, hO, h1⟩
    refine aZ hT ?_
    clear hT
    unfold vM at h1
    obtain ⟨rr1, hl1, h1⟩ := aY h1
    refine bW (by kernel_rfl) (fun (s : List (List aF) × Int) T H => ∃ lo24 : Nat, Has T [(0, (eL aD l0)), (3, (.msl 1 lo24 0 (List.length s.1))), (4, (eI i4)), (5, (eI s.2))] ∧ aL ⟨H0, [], []⟩ H [(lo24, 1, List.map (eL aG) s.1)]) hl1 ⟨lo24, .eq (by kernel_rfl), hO⟩ ?_
    clear hO
    rintro k1 s out2 T H ⟨lo24, hT, hO⟩ h2 ho1
    obtain ⟨bG, at5⟩ := s
    replace h2 : kP l0 i4 bG at5 = some out2 := h2
    dsimp only at hT
    refine aZ hT ?_
    clear hT
    unfold kP at h2
    refine aO ?_
    refine aO ?_
    obtain ⟨c25, h2⟩ := bA h2
    obtain ⟨c26, h2⟩ := bA h2
    obtain ⟨x27, hx28, h2⟩ := aY h2
    refine fD (fH [27]) aH 17 ?_
    refine vE (K := fun T H => Has (lift T) [(0, (eL aD l0)), (3, (.msl 1 lo24 0 (List.length bG))), (4, (eI i4)), (5, (eI at5)), (30, (aK ((decide (at5 < (lN bG))) && (decide (x27 < (0 : Int))))))] ∧ aL ⟨H0, [], []⟩ H [(lo24, 1, List.map (eL aG) bG)]) ?_ ?_
    · refine oT 5 ?_
      refine qO (t := 18) (e := decide (at5 < (lN bG))) (by kernel_rfl) (fun hg29 => ?_) (fun hg29 => ?_)
      · refine cN 8 [0 ≤ at5 ∧ at5 < (lN bG)] ⟨(c25 hg29), trivial⟩ ?_
        refine wO 0 lo24 1 (0 + Int.toNat at5) (eL aG (gD bG at5)) (eL aG (gD bG at5)) (List.map (eL aG) bG) (by kernel_rfl) (by kernel_rfl) (by kernel_rfl) hO (by kernel_rfl) (cK (c25 hg29)) ?_
        refine cN 14 [0 ≤ i4 ∧ i4 < (lN l0)] ⟨(c26 hg29), trivial⟩ ?_
        refine yL 68 [(eL aG (gD bG at5)), (eL aG ((gD l0 i4).Row))] (eI x27) (by kernel_rfl) (by kernel_rfl) (CG (gD bG at5) ((gD l0 i4).Row) _ (nI hx28 hg29)) hO ?_
        intro H hO
        refine iU ?_
        exact ⟨⟨[(0, (eL aD l0)), (3, (.msl 1 lo24 0 (List.length bG))), (4, (eI i4)), (5, (eI at5)), (30, (aK (decide (x27 < (0 : Int)))))], by kernel_rfl, rfl, ⟨aR.refl _, aR.refl _, aR.refl _, aR.refl _, aR.eq (congrArg aK (qA hg29 rfl).symm), trivial⟩⟩, hO⟩
      refine iU ?_
      exact ⟨⟨[(0, (eL aD l0)), (3, (.msl 1 lo24 0 (List.length bG))), (4, (eI i4)), (5, (eI at5)), (30, (aK false))], by kernel_rfl, rfl, ⟨aR.refl _, aR.refl _, aR.refl _, aR.refl _, aR.eq (congrArg aK (qA hg29 rfl).symm), trivial⟩⟩, hO⟩
    · rintro T H ⟨hT, hO⟩
      refine cG hT ?_
      clear hT
      refine aJ (aI ?_)
      refine bE h2 (fun h2 => ?_) (fun h2 => ?_)
      · refine bH ?_
        refine bD [(0, (eL aD l0)), (3, (.msl 1 lo24 0 (List.length bG))), (4, (eI i4)), (5, (eI at5))] ?_
        refine bP 3 ?_
        refine aW aH 3 ?_
        refine bC ?_
        exact aJ (aU (aI (⟨rfl, _, (oI h2).symm, _, .eq (by kernel_rfl), hO⟩)))
      refine cS 2 ?_
      obtain rfl := oI h2
      obtain rfl : _ = rr1 := ho1
      replace h1 : rK l0 bG i4 at5 = some out1 := h1
      exact aJ (aS (aS (bL (aI (⟨rfl, _, _, _, .eq (by kernel_rfl), hO, h1⟩)))))
  refine cS 0 ?_
  obtain rfl := oI h1
  obtain rfl : _ = rr0 := ho0
  replace h0 : vZ bG = some r := h0
  exact aJ (aS (aS (bL (aI (⟨rfl, _, _, .eq (by kernel_rfl), hO, h0⟩)))))

theorem zO (l0 : (List aC)) (r1 : (List aF)) (r : (List aB)) (h0 : nG l0 r1 = some r) : bV Try.prog 19 [(eL aD l0), (eL aG r1)] (eL aE r) := by
  intro H0
  refine cC Try.func19 ?_
  have hO := aL.start H0
  unfold nG at h0
  refine aT aH 1 [] [] ?_
  refine aO ?_
  refine aW aH 2 ?_
  refine mS (xs := []) (k := 2) (by kernel_rfl) (by kernel_rfl) ?_
  refine bC ?_
  refine bQ [] [(5, (.sl true 0 (fun _ => .bad)))] ?_
  refine cE (fun T H => ∃ f5 : List aB, ∃ lo1 : Nat, Has T [(5, (.msl 2 lo1 0 (List.length f5)))] ∧ aL ⟨H0, [], []⟩ H [(lo1, 2, List.map aE f5)] ∧ uG f5 = some r) ?_ ?_
  · clear hO h0
    rintro T H ⟨f5, lo1, hT, hO, h0⟩
    refine aZ hT ?_
    clear hT
    unfold uG at h0
    refine bN aH 2 [(4, (.msl 2 lo1 0 (List.length f5)))] ?_
    refine bI ?_
    refine dY [(4, (.msl 2 lo1 0 (List.length f5)))] ?_
    refine zB (en := aE) f5 0 0 4 2 lo1 (List.length f5) hO (by kernel_rfl) (by kernel_rfl) (by kernel_rfl) (L' := []) (by kernel_rfl) ?_
    intro H2 hO
    obtain rfl := oI h0
    exact aJ (Q_r hO)
  refine aT aH 1 [] [(6, (eI (0 : Int)))] ?_
  refine bP 0 ?_
  refine cO [(0, (eL aD l0)), (1, (eL aG r1)), (5, (.sl true 0 (fun _ => .bad))), (6, (eI (0 : Int)))] ?_
  refine yZ (el := (fun _ => .bad)) 2 5 2 hO (by kernel_rfl) ?_
  intro lo16 H17 hO
  refine cF (fun T H => ∃ f5 : List aB, ∃ i6 : Int, ∃ lo4 : Nat, Has T [(0, (eL aD l0)), (1, (eL aG r1)), (5, (.msl 2 lo4 0 (List.length f5))), (6, (eI i6))] ∧ aL ⟨H0, [], []⟩ H [(lo4, 2, List.map aE f5)] ∧ uC l0 r1 f5 i6 = some r) ?_ ⟨([] : List aB), (0 : Int), lo16, .eq (by kernel_rfl), hO, h0⟩
  clear hO h0
  rintro T H ⟨f5, i6, lo4, hT, hO, h0⟩
  refine aZ hT ?_
  clear hT
  unfold uC at h0
  obtain ⟨rr0, hl0, h0⟩ := aY h0
  refine bW (by kernel_rfl) (fun (s : List aB × Int) T H => ∃ lo4 : Nat, Has T [(0, (eL aD l0)), (1, (eL aG r1)), (5, (.msl 2 lo4 0 (List.length s.1))), (6, (eI s.2))] ∧ aL ⟨H0, [], []⟩ H [(lo4, 2, List.map aE s.1)]) hl0 ⟨lo4, .eq (by kernel_rfl), hO⟩ ?_
  clear hO
  rintro k0 s out1 T H ⟨lo4, hT, hO⟩ h1 ho0
  obtain ⟨f5, i6⟩ := s
  replace h1 : lA l0 r1 f5 i6 = some out1 := h1
  dsimp only at hT
  refine aZ hT ?_
  clear hT
  unfold lA at h1
  refine aO ?_
  refine aT aH 4 [] [(11, (aK (decide (i6 < (lN l0)))))] ?_
  refine bE h1 (fun h1 => ?_) (fun h1 => ?_)
  · refine bH ?_
    refine bD [(0, (eL aD l0)), (1, (eL aG r1)), (5, (.msl 2 lo4 0 (List.length f5))), (6, (eI i6))] ?_
    refine cE (fun T H => ∃ f5 : List aB, ∃ lo6 : Nat, Has T [(0, (eL aD l0)), (1, (eL aG r1)), (5, (.msl 2 lo6 0 (List.length f5))), (6, (eI i6))] ∧ aL ⟨H0, [], []⟩ H [(lo6, 2, List.map aE f5)] ∧ qL l0 r1 f5 i6 = some out1) ?_ ?_
    · clear hO h1
      rintro T H ⟨f5, lo6, hT, hO, h1⟩
      refine aZ hT ?_
      clear hT
      unfold qL at h1
      refine aW aH 3 ?_
      refine bC ?_
      exact aJ (aI (⟨rfl, _, (oI h1).symm, _, .eq (by kernel_rfl), hO⟩))
    refine bP 1 ?_
    refine aO ?_
    refine aW aH 7 ?_
    obtain ⟨c7, h1⟩ := bA h1
    refine nH 6 [0 ≤ i6 ∧ i6 < (lN l0)] ⟨c7, trivial⟩ ?_
    obtain ⟨x8, hx9, h1⟩ := aY h1
    refine cJ (BI ((gD l0 i6).Row) r1 _ hx9) hO ?_
    intro H hO
    refine cZ ?_
    refine bQ [] [(20, (aK x8))] ?_
    refine bE h1 (fun h1 => ?_) (fun h1 => ?_)
    · refine fD (fH [26, 31]) aH 15 ?_
      obtain ⟨c12, h1⟩ := bA h1
      obtain ⟨c13, h1⟩ := bA h1
      refine cN 12 [0 ≤ i6 ∧ i6 < (lN l0), 0 ≤ i6 ∧ i6 < (lN l0)] ⟨c12, c13, trivial⟩ ?_
      refine CB (xs := [(aE (aB.mk ((gD l0 i6).At) ((gD l0 i6).Net)))]) (k := 2) (by kernel_rfl) (by kernel_rfl) ?_
      obtain ⟨c15, h1⟩ := bA h1
      refine AQ (e := aE) f5 ([aB.mk ((gD l0 i6).At) ((gD l0 i6).Net)]) 0 lo4 2 16 (fA [(aE (aB.mk ((gD l0 i6).At) ((gD l0 i6).Net)))]) (fun lo14 => [(lo14, 2, List.map aE (f5 ++ ([aB.mk ((gD l0 i6).At) ((gD l0 i6).Net)])))]) (by kernel_rfl) (by kernel_rfl) hO (by kernel_rfl) (by kernel_rfl) c15 (fun _ => by kernel_rfl) ?_
      intro lo14 H hO
      refine iU ?_
      exact aJ (aU (aI (⟨rfl, _, _, .eq (by kernel_rfl), hO, h1⟩)))
    refine bH ?_
    exact aJ (aU (aI (⟨rfl, _, _, .eq (by kernel_rfl), hO, h1⟩)))
  refine cS 0 ?_
  obtain rfl := oI h1
  obtain rfl : _ = rr0 := ho0
  replace h0 : uG f5 = some r := h0
  exact aJ (aS (aS (bL (aI (⟨rfl, _, _, .eq (by kernel_rfl), hO, h0⟩)))))

theorem HQ (l0 : (List aC)) (r : Bool) (h0 : sI l0 = some r) : bV Try.prog 27 [(eL aD l0)] (aK r) := by
  intro H0
  refine cC Try.func27 ?_
  have hO := aL.start H0
  unfold sI at h0
  refine aT aH 1 [] [] ?_
  refine aO ?_
  refine aT aH 3 [] [(9, (aK (decide ((4096 : Int) < (lN l0)))))] ?_
  refine bE h0 (fun h0 => ?_) (fun h0 => ?_)
  · refine bN aH 1 [(2, (aK false))] ?_
    refine bI ?_
    obtain rfl := oI h0
    exact aJ (aP (Q_r hO))
  refine bH ?_
  refine bD [(0, (eL aD l0))] ?_
  refine cE (fun T H => Has T [(0, (eL aD l0))] ∧ aL ⟨H0, [], []⟩ H [] ∧ tC l0 = some r) ?_ ?_
  · clear hO h0
    rintro T H ⟨hT, hO, h0⟩
    refine aZ hT ?_
    clear hT
    unfold tC at h0
    refine aO ?_
    refine aW aH 3 ?_
    refine bS 1 ?_
    obtain ⟨x2, hx3, h0⟩ := aY h0
    refine cJ (BK l0 _ hx3) hO ?_
    intro H hO
    refine bC ?_
    refine bQ [] [(5, (eL (eL aG) x2))] ?_
    refine cE (fun T H => Has T [] ∧ aL ⟨H0, [], []⟩ H [] ∧ xV  = some r) ?_ ?_
    · clear hO h0
      rintro T H ⟨hT, hO, h0⟩
      refine aZ hT ?_
      clear hT
      unfold xV at h0
      refine bN aH 1 [(2, (aK true))] ?_
      refine bI ?_
      obtain rfl := oI h0
      exact aJ (Q_r hO)
    refine aT aH 1 [] [(6, (eI (0 : Int)))] ?_
    refine bP 2 ?_
    refine cO [(0, (eL aD l0)), (5, (eL (eL aG) x2)), (6, (eI (0 : Int)))] ?_
    refine cF (fun T H => ∃ qC : (List (List aF)), ∃ i6 : Int, Has T [(0, (eL aD l0)), (5, (eL (eL aG) qC)), (6, (eI i6))] ∧ aL ⟨H0, [], []⟩ H [] ∧ xB l0 qC i6 = some r) ?_ ⟨x2, (0 : Int), .eq (by kernel_rfl), hO, h0⟩
    clear hO h0
    rintro T H ⟨qC, i6, hT, hO, h0⟩
    refine aZ hT ?_
    clear hT
    unfold xB at h0
    obtain ⟨rr0, hl0, h0⟩ := aY h0
    refine bW (by kernel_rfl) (fun (s : Int) T H => Has T [(0, (eL aD l0)), (5, (eL (eL aG) qC)), (6, (eI s))] ∧ aL ⟨H0, [], []⟩ H []) hl0 ⟨.eq (by kernel_rfl), hO⟩ ?_
    clear hO
    rintro k0 s out1 T H ⟨hT, hO⟩ h1 ho0
    obtain ⟨i6, rfl⟩ : ∃ x, x = s := ⟨_, rfl⟩
    replace h1 : oL l0 qC i6 = some out1 := h1
    refine aZ hT ?_
    clear hT
    unfold oL at h1
    refine aO ?_
    refine aT aH 4 [] [(78, (aK (decide (i6 < (lN qC)))))] ?_
    refine bE h1 (fun h1 => ?_) (fun h1 => ?_)
    · refine bH ?_
      refine bD [(0, (eL aD l0)), (5, (eL (eL aG) qC)), (6, (eI i6))] ?_
      refine aO ?_
      refine bP 3 ?_
      refine aO ?_
      refine aW aH 8 ?_
      obtain ⟨c6, h1⟩ := bA h1
      refine nH 5 [0 ≤ i6 ∧ i6 < (lN qC)] ⟨c6, trivial⟩ ?_
      obtain ⟨x7, hx8, h1⟩ := aY h1
      refine cJ (zO l0 (gD qC i6) _ hx8) hO ?_
      intro H hO
      refine bC ?_
      refine bQ [] [(88, (aK (decide ((1024 : Int) < (lN x7)))))] ?_
      refine bE h1 (fun h1 => ?_) (fun h1 => ?_)
      · refine bN aH 1 [(2, (aK false))] ?_
        refine bI ?_
        obtain rfl := oI h1
        obtain rfl : _ = rr0 := ho0
        replace h0 : some false = some r := h0
        obtain rfl := oI h0
        exact aJ (bM (aP (aP (bM (aP (Q_r hO))))))
      refine bH ?_
      refine dY [(0, (eL aD l0)), (5, (eL (eL aG) qC)), (6, (eI i6))] ?_
      refine aJ (aU (aI (?_)))
      refine aW aH 3 ?_
      refine bC ?_
      exact aJ (aI (⟨rfl, _, (oI h1).symm, .eq (by kernel_rfl), hO⟩))
    refine cS 2 ?_
    obtain rfl := oI h1
    obtain rfl : _ = rr0 := ho0
    replace h0 : xV  = some r := h0
    exact aJ (aS (aS (bL (aI (⟨rfl, .eq (by kernel_rfl), hO, h0⟩)))))
  refine aT aH 1 [] [(3, (eI (0 : Int)))] ?_
  refine bP 0 ?_
  refine cO [(0, (eL aD l0)), (3, (eI (0 : Int)))] ?_
  refine cF (fun T H => ∃ i3 : Int, Has T [(0, (eL aD l0)), (3, (eI i3))] ∧ aL ⟨H0, [], []⟩ H [] ∧ wZ l0 i3 = some r) ?_ ⟨(0 : Int), .eq (by kernel_rfl), hO, h0⟩
  clear hO h0
  rintro T H ⟨i3, hT, hO, h0⟩
  refine aZ hT ?_
  clear hT
  unfold wZ at h0
  obtain ⟨rr0, hl0, h0⟩ := aY h0
  refine bW (by kernel_rfl) (fun (s : Int) T H => Has T [(0, (eL aD l0)), (3, (eI s))] ∧ aL ⟨H0, [], []⟩ H []) hl0 ⟨.eq (by kernel_rfl), hO⟩ ?_
  clear hO
  rintro k0 s out1 T H ⟨hT, hO⟩ h1 ho0
  obtain ⟨i3, rfl⟩ : ∃ x, x = s := ⟨_, rfl⟩
  replace h1 : mT l0 i3 = some out1 := h1
  refine aZ hT ?_
  clear hT
  unfold mT at h1
  refine aO ?_
  refine aT aH 4 [] [(13, (aK (decide (i3 < (lN l0)))))] ?_
  refine bE h1 (fun h1 => ?_) (fun h1 => ?_)
  · refine bH ?_
    refine bD [(0, (eL aD l0)), (3, (eI i3))] ?_
    refine cE (fun T H => Has T [(0, (eL aD l0)), (3, (eI i3))] ∧ aL ⟨H0, [], []⟩ H [] ∧ qI l0 i3 = some out1) ?_ ?_
    · clear hO h1
      rintro T H ⟨hT, hO, h1⟩
      refine aZ hT ?_
      clear hT
      unfold qI at h1
      refine aW aH 3 ?_
      refine bC ?_
      exact aJ (aI (⟨rfl, _, (oI h1).symm, .eq (by kernel_rfl), hO⟩))
    refine bP 1 ?_
    refine aO ?_
    refine aO ?_
    obtain ⟨c12, h1⟩ := bA h1
    obtain ⟨x13, hx14, h1⟩ := aY h1
    obtain ⟨c15, h1⟩ := bA h1
    obtain ⟨c16, h1⟩ := bA h1
    obtain ⟨x17, hx18, h1⟩ := aY h1
    refine fD (fH [20, 28, 33]) aH 23 ?_
    refine vE (K := fun T H => Has (lift T) [(0, (eL aD l0)), (3, (eI i3)), (38, (aK ((!x13) || (!x17))))] ∧ aL ⟨H0, [], []⟩ H []) ?_ ?_
    · refine cN 5 [0 ≤ i3 ∧ i3 < (lN l0)] ⟨c12, trivial⟩ ?_
      refine yL 32 [(eL aG ((gD l0 i3).Row))] (aK x13) (by kernel_rfl) (by kernel_rfl) (CR ((gD l0 i3).Row) _ hx14) hO ?_
      intro H hO
      refine oT 8 ?_
      refine qO (t := 23) (e := !x13) (by kernel_rfl) (fun hg19 => ?_) (fun hg19 => ?_)
      · refine iU ?_
        exact ⟨⟨[(0, (eL aD l0)), (3, (eI i3)), (38, (aK true))], by kernel_rfl, rfl, ⟨aR.refl _, aR.refl _, aR.eq (by first | (simp only [aK, hg19, Bool.not_true, Bool.not_false, Bool.true_and, Bool.and_true, Bool.false_and, Bool.and_false, Bool.or_true, Bool.true_or, Bool.or_false, Bool.false_or, cond_true, cond_false]; done) | simp [aK, hg19]), trivial⟩⟩, hO⟩
      refine cN 19 [0 ≤ i3 ∧ i3 < (lN l0), 0 ≤ i3 ∧ i3 < (lN l0)] ⟨(c15 (yV hg19)), (c16 (yV hg19)), trivial⟩ ?_
      refine aBc (xs := [(aE (aB.mk ((gD l0 i3).At) ((gD l0 i3).Net)))]) (by kernel_rfl) (by kernel_rfl) ?_
      refine yL 33 [(fA [(aE (aB.mk ((gD l0 i3).At) ((gD l0 i3).Net)))])] (aK x17) (by kernel_rfl) (by kernel_rfl) (bV.sub (CS ([aB.mk ((gD l0 i3).At) ((gD l0 i3).Net)]) _ (nI hx18 (yV hg19))) ⟨KF (l := [aB.mk ((gD l0 i3).At) ((gD l0 i3).Net)]), trivial⟩) hO ?_
      intro H hO
      refine iU ?_
      exact ⟨⟨[(0, (eL aD l0)), (3, (eI i3)), (38, (aK (!x17)))], by kernel_rfl, rfl, ⟨aR.refl _, aR.refl _, aR.eq (by first | (simp only [aK, hg19, Bool.not_true, Bool.not_false, Bool.true_and, Bool.and_true, Bool.false_and, Bool.and_false, Bool.or_true, Bool.true_or, Bool.or_false, Bool.false_or, cond_true, cond_false]; done) | simp [aK, hg19]), trivial⟩⟩, hO⟩
    · rintro T H ⟨hT, hO⟩
      refine cG hT ?_
      clear hT
      refine aJ (aI ?_)
      refine bE h1 (fun h1 => ?_) (fun h1 => ?_)
      · refine bN aH 1 [(2, (aK false))] ?_
        refine bI ?_
        obtain rfl := oI h1
        obtain rfl : _ = rr0 := ho0
        replace h0 : some false = some r := h0
        obtain rfl := oI h0
        exact aJ (aP (bM (aP (aP (bM (aP (Q_r hO)))))))
      refine bH ?_
      refine bD [(0, (eL aD l0)), (3, (eI i3))] ?_
      refine aO ?_
      refine aT aH 2 [] [(40, (aK (decide (i3 = (0 : Int)))))] ?_
      refine bE h1 (fun h1 => ?_) (fun h1 => ?_)
      · refine cS 1 ?_
        exact aJ (aS (bL (aI (⟨rfl, .eq (by kernel_rfl), hO, h1⟩))))
      refine bH ?_
      refine bD [(0, (eL aD l0)), (3, (eI i3))] ?_
      refine aO ?_
      refine fD (fH [46, 51]) aH 13 ?_
      obtain ⟨c22, h1⟩ := bA h1
      obtain ⟨c23, h1⟩ := bA h1
      refine cN 11 [0 ≤ (wR (i3 - (1 : Int))) ∧ (wR (i3 - (1 : Int))) < (lN l0), 0 ≤ i3 ∧ i3 < (lN l0)] ⟨c22, c23, trivial⟩ ?_
      obtain ⟨x24, hx25, h1⟩ := aY h1
      refine xO (CG ((gD l0 (wR (i3 - (1 : Int)))).Row) ((gD l0 i3).Row) _ hx25) hO ?_
      intro H hO
      refine iU ?_
      refine bQ [] [(4, (eI x24))] ?_
      refine aO ?_
      obtain ⟨c27, h1⟩ := bA h1
      obtain ⟨c28, h1⟩ := bA h1
      refine fD (fH [64, 69]) aH 20 ?_
      refine vE (K := fun T H => Has (lift T) [(0, (eL aD l0)), (3, (eI i3)), (72, (aK ((decide ((0 : Int) < x24)) || ((decide (x24 = (0 : Int))) && (decide (((gD l0 i3).At) ≤ ((gD l0 (wR (i3 - (1 : Int)))).At)))))))] ∧ aL ⟨H0, [], []⟩ H []) ?_ ?_
      · refine oT 3 ?_
        refine qO (t := 55) (e := decide ((0 : Int) < x24)) (by kernel_rfl) (fun hg29 => ?_) (fun hg29 => ?_)
        · refine iU ?_
          exact ⟨⟨[(0, (eL aD l0)), (3, (eI i3)), (72, (aK true))], by kernel_rfl, rfl, ⟨aR.refl _, aR.refl _, aR.eq (by first | (simp only [aK, hg29, Bool.not_true, Bool.not_false, Bool.true_and, Bool.and_true, Bool.false_and, Bool.and_false, Bool.or_true, Bool.true_or, Bool.or_false, Bool.false_or, cond_true, cond_false]; done) | simp [aK, hg29]), trivial⟩⟩, hO⟩
        refine oT 6 ?_
        refine qO (t := 58) (e := decide (x24 = (0 : Int))) (by kernel_rfl) (fun hg30 => ?_) (fun hg30 => ?_)
        · refine BQ (Ds := [0 ≤ (wR (i3 - (1 : Int))) ∧ (wR (i3 - (1 : Int))) < (lN l0), 0 ≤ i3 ∧ i3 < (lN l0)]) (by kernel_rfl) ⟨(c27 (qA hg30 (yV hg29))), (c28 (qA hg30 (yV hg29))), trivial⟩ ?_
          exact ⟨⟨[(0, (eL aD l0)), (3, (eI i3)), (72, (aK (decide (((gD l0 i3).At) ≤ ((gD l0 (wR (i3 - (1 : Int)))).At)))))], by kernel_rfl, rfl, ⟨aR.refl _, aR.refl _, aR.eq (congrArg aK (PZ hg29 (qA hg30 rfl)).symm), trivial⟩⟩, hO⟩
        refine iU ?_
        exact ⟨⟨[(0, (eL aD l0)), (3, (eI i3)), (72, (aK false))], by kernel_rfl, rfl, ⟨aR.refl _, aR.refl _, aR.eq (congrArg aK (PZ hg29 (qA hg30 rfl)).symm), trivial⟩⟩, hO⟩
      · rintro T H ⟨hT, hO⟩
        refine cG hT ?_
        clear hT
        refine aJ (aI ?_)
        refine bE h1 (fun h1 => ?_) (fun h1 => ?_)
        · refine bN aH 1 [(2, (aK false))] ?_
          refine bI ?_
          obtain rfl := oI h1
          obtain rfl : _ = rr0 := ho0
          replace h0 : some false = some r := h0
          obtain rfl := oI h0
          exact aJ (bM (aP (aP (bM (aP (Q_r hO))))))
        refine bH ?_
        exact aJ (aU (aI (⟨rfl, .eq (by kernel_rfl), hO, h1⟩)))
  refine cS 0 ?_
  obtain rfl := oI h1
  obtain rfl : _ = rr0 := ho0
  replace h0 : tC l0 = some r := h0
  exact aJ (aS (aS (bL (aI (⟨rfl, .eq (by kernel_rfl), hO, h0⟩)))))

theorem zP (f0 : (List aB)) (t1 : Int) (r : Int) (h0 : lZ f0 t1 = some r) : bV Try.prog 20 [(eL aE f0), (eI t1)] (eI r) := by
  intro H0
  refine cC Try.func20 ?_
  have hO := aL.start H0
  unfold lZ at h0
  refine aT aH 1 [] [] ?_
  refine aT aH 1 [] [(5, (eI (0 : Int)))] ?_
  refine cE (fun T H => ∃ v5 : Int, Has T [(5, (eI v5))] ∧ aL ⟨H0, [], []⟩ H [] ∧ qD v5 = some r) ?_ ?_
  · clear hO h0
    rintro T H ⟨v5, hT, hO, h0⟩
    refine aZ hT ?_
    clear hT
    unfold qD at h0
    refine bN aH 2 [(4, (eI v5))] ?_
    refine bI ?_
    obtain rfl := oI h0
    exact aJ (Q_r hO)
  refine aT aH 1 [] [(6, (eI (0 : Int)))] ?_
  refine bP 0 ?_
  refine cO [(0, (eL aE f0)), (1, (eI t1)), (5, (eI (0 : Int))), (6, (eI (0 : Int)))] ?_
  refine cF (fun T H => ∃ v5 : Int, ∃ i6 : Int, Has T [(0, (eL aE f0)), (1, (eI t1)), (5, (eI v5)), (6, (eI i6))] ∧ aL ⟨H0, [], []⟩ H [] ∧ uA f0 t1 v5 i6 = some r) ?_ ⟨(0 : Int), (0 : Int), .eq (by kernel_rfl), hO, h0⟩
  clear hO h0
  rintro T H ⟨v5, i6, hT, hO, h0⟩
  refine aZ hT ?_
  clear hT
  unfold uA at h0
  obtain ⟨rr0, hl0, h0⟩ := aY h0
  refine bW (by kernel_rfl) (fun (s : Int × Int) T H => Has T [(0, (eL aE f0)), (1, (eI t1)), (5, (eI s.1)), (6, (eI s.2))] ∧ aL ⟨H0, [], []⟩ H []) hl0 ⟨.eq (by kernel_rfl), hO⟩ ?_
  clear hO
  rintro k0 s out1 T H ⟨hT, hO⟩ h1 ho0
  obtain ⟨v5, i6⟩ := s
  replace h1 : iQ f0 t1 v5 i6 = some out1 := h1
  dsimp only at hT
  refine aZ hT ?_
  clear hT
  unfold iQ at h1
  refine aO ?_
  refine aT aH 4 [] [(10, (aK (decide (i6 < (lN f0)))))] ?_
  refine bE h1 (fun h1 => ?_) (fun h1 => ?_)
  · refine bH ?_
    refine bD [(0, (eL aE f0)), (1, (eI t1)), (5, (eI v5)), (6, (eI i6))] ?_
    refine cE (fun T H => ∃ v5 : Int, Has T [(0, (eL aE f0)), (1, (eI t1)), (5, (eI v5)), (6, (eI i6))] ∧ aL ⟨H0, [], []⟩ H [] ∧ oC f0 t1 v5 i6 = some out1) ?_ ?_
    · clear hO h1
      rintro T H ⟨v5, hT, hO, h1⟩
      refine aZ hT ?_
      clear hT
      unfold oC at h1
      refine aW aH 3 ?_
      refine bC ?_
      exact aJ (aI (⟨rfl, _, (oI h1).symm, .eq (by kernel_rfl), hO⟩))
    refine bP 1 ?_
    refine aO ?_
    refine aW aH 7 ?_
    obtain ⟨c2, h1⟩ := bA h1
    refine nO [0 ≤ i6 ∧ i6 < (lN f0)] ⟨c2, trivial⟩ ?_
    refine bQ [] [(19, (aK (decide (((gD f0 i6).At) ≤ t1))))] ?_
    refine bE h1 (fun h1 => ?_) (fun h1 => ?_)
    · refine aW aH 8 ?_
      obtain ⟨c4, h1⟩ := bA h1
      refine nO [0 ≤ i6 ∧ i6 < (lN f0)] ⟨c4, trivial⟩ ?_
      exact aJ (aU (aI (⟨rfl, _, .eq (by kernel_rfl), hO, h1⟩)))
    refine bH ?_
    exact aJ (aU (aI (⟨rfl, _, .eq (by kernel_rfl), hO, h1⟩)))
  refine cS 0 ?_
  obtain rfl := oI h1
  obtain rfl : _ = rr0 := ho0
  replace h0 : qD v5 = some r := h0
  exact aJ (aS (aS (bL (aI (⟨rfl, _, .eq (by kernel_rfl), hO, h0⟩)))))

theorem NI (f0 : (List aB)) (r : Int) (h0 : rO f0 = some r) : bV Try.prog 67 [(eL aE f0)] (eI r) := by
  intro H0
  refine cC Try.func67 ?_
  have hO := aL.start H0
  unfold rO at h0
  refine aT aH 1 [] [] ?_
  refine aO ?_
  refine aO ?_
  refine aW aH 3 ?_
  refine bS 1 ?_
  obtain ⟨x1, hx2, h0⟩ := aY h0
  refine cJ (CS f0 _ hx2) hO ?_
  intro H hO
  refine bC ?_
  refine bQ [] [(7, (aK (!x1)))] ?_
  refine bE h0 (fun h0 => ?_) (fun h0 => ?_)
  · refine bN aH 1 [(2, (eI (0 : Int)))] ?_
    refine bI ?_
    obtain rfl := oI h0
    exact aJ (aP (Q_r hO))
  refine bH ?_
  refine bD [(0, (eL aE f0))] ?_
  refine aO ?_
  refine aW aH 3 ?_
  refine bS 1 ?_
  obtain ⟨x5, hx6, h0⟩ := aY h0
  refine cJ (zP f0 (-1 : Int) _ hx6) hO ?_
  intro H hO
  refine bC ?_
  refine bQ [] [(3, (eI x5))] ?_
  refine cE (fun T H => ∃ m3 : Int, Has T [(3, (eI m3))] ∧ aL ⟨H0, [], []⟩ H [] ∧ qM m3 = some r) ?_ ?_
  · clear hO h0
    rintro T H ⟨m3, hT, hO, h0⟩
    refine aZ hT ?_
    clear hT
    unfold qM at h0
    refine bN aH 2 [(2, (eI m3))] ?_
    refine bI ?_
    obtain rfl := oI h0
    exact aJ (Q_r hO)
  refine aT aH 1 [] [(4, (eI (0 : Int)))] ?_
  refine bP 0 ?_
  refine cO [(0, (eL aE f0)), (3, (eI x5)), (4, (eI (0 : Int)))] ?_
  refine cF (fun T H => ∃ m3 : Int, ∃ i4 : Int, Has T [(0, (eL aE f0)), (3, (eI m3)), (4, (eI i4))] ∧ aL ⟨H0, [], []⟩ H [] ∧ tY f0 m3 i4 = some r) ?_ ⟨x5, (0 : Int), .eq (by kernel_rfl), hO, h0⟩
  clear hO h0
  rintro T H ⟨m3, i4, hT, hO, h0⟩
  refine aZ hT ?_
  clear hT
  unfold tY at h0
  obtain ⟨rr0, hl0, h0⟩ := aY h0
  refine bW (by kernel_rfl) (fun (s : Int × Int) T H => Has T [(0, (eL aE f0)), (3, (eI s.1)), (4, (eI s.2))] ∧ aL ⟨H0, [], []⟩ H []) hl0 ⟨.eq (by kernel_rfl), hO⟩ ?_
  clear hO
  rintro k0 s out1 T H ⟨hT, hO⟩ h1 ho0
  obtain ⟨m3, i4⟩ := s
  replace h1 : kY f0 m3 i4 = some out1 := h1
  dsimp only at hT
  refine aZ hT ?_
  clear hT
  unfold kY at h1
  refine aO ?_
  refine aT aH 4 [] [(13, (aK (decide (i4 < (lN f0)))))] ?_
  refine bE h1 (fun h1 => ?_) (fun h1 => ?_)
  · refine bH ?_
    refine bD [(0, (eL aE f0)), (3, (eI m3)), (4, (eI i4))] ?_
    refine cE (fun T H => ∃ m3 : Int, Has T [(0, (eL aE f0)), (3, (eI m3)), (4, (eI i4))] ∧ aL ⟨H0, [], []⟩ H [] ∧ qG f0 m3 i4 = some out1) ?_ ?_
    · clear hO h1
      rintro T H ⟨m3, hT, hO, h1⟩
      refine aZ hT ?_
      clear hT
      unfold qG at h1
      refine aW aH 3 ?_
      refine bC ?_
      exact aJ (aI (⟨rfl, _, (oI h1).symm, .eq (by kernel_rfl), hO⟩))
    refine bP 1 ?_
    refine aO ?_
    refine aW aH 9 ?_
    obtain ⟨c9, h1⟩ := bA h1
    refine nH 6 [0 ≤ i4 ∧ i4 < (lN f0)] ⟨c9, trivial⟩ ?_
    obtain ⟨x10, hx11, h1⟩ := aY h1
    refine cJ (zP f0 ((gD f0 i4).At) _ hx11) hO ?_
    intro H hO
    refine bC ?_
    refine bQ [] [(24, (aK (decide (x10 < m3))))] ?_
    refine bE h1 (fun h1 => ?_) (fun h1 => ?_)
    · refine aW aH 8 ?_
      obtain ⟨c14, h1⟩ := bA h1
      refine nH 6 [0 ≤ i4 ∧ i4 < (lN f0)] ⟨c14, trivial⟩ ?_
      obtain ⟨x15, hx16, h1⟩ := aY h1
      refine cJ (zP f0 ((gD f0 i4).At) _ hx16) hO ?_
      intro H hO
      refine bC ?_
      exact aJ (aU (aI (⟨rfl, _, .eq (by kernel_rfl), hO, h1⟩)))
    refine bH ?_
    exact aJ (aU (aI (⟨rfl, _, .eq (by kernel_rfl), hO, h1⟩)))
  refine cS 0 ?_
  obtain rfl := oI h1
  obtain rfl : _ = rr0 := ho0
  replace h0 : qM m3 = some r := h0
  exact aJ (aS (aS (bL (aI (⟨rfl, _, .eq (by kernel_rfl), hO, h0⟩)))))

theorem NQ (l0 : (List aC)) (r : Bool) (h0 : rH l0 = some r) : bV Try.prog 26 [(eL aD l0)] (aK r) := by
  intro H0
  refine cC Try.func26 ?_
  have hO := aL.start H0
  unfold rH at h0
  refine aT aH 1 [] [] ?_
  refine aO ?_
  refine aO ?_
  refine aW aH 3 ?_
  refine bS 1 ?_
  obtain ⟨x1, hx2, h0⟩ := aY h0
  refine cJ (HQ l0 _ hx2) hO ?_
  intro H hO
  refine bC ?_
  refine bQ [] [(7, (aK (!x1)))] ?_
  refine bE h0 (fun h0 => ?_) (fun h0 => ?_)
  · refine bN aH 1 [(2, (aK false))] ?_
    refine bI ?_
    obtain rfl := oI h0
    exact aJ (aP (Q_r hO))
  refine bH ?_
  refine bD [(0, (eL aD l0))] ?_
  refine aO ?_
  refine aW aH 3 ?_
  refine bS 1 ?_
  obtain ⟨x5, hx6, h0⟩ := aY h0
  refine cJ (BK l0 _ hx6) hO ?_
  intro H hO
  refine bC ?_
  refine bQ [] [(3, (eL (eL aG) x5))] ?_
  refine cE (fun T H => Has T [] ∧ aL ⟨H0, [], []⟩ H [] ∧ uF  = some r) ?_ ?_
  · clear hO h0
    rintro T H ⟨hT, hO, h0⟩
    refine aZ hT ?_
    clear hT
    unfold uF at h0
    refine bN aH 1 [(2, (aK true))] ?_
    refine bI ?_
    obtain rfl := oI h0
    exact aJ (Q_r hO)
  refine aT aH 1 [] [(4, (eI (0 : Int)))] ?_
  refine bP 0 ?_
  refine cO [(0, (eL aD l0)), (3, (eL (eL aG) x5)), (4, (eI (0 : Int)))] ?_
  refine cF (fun T H => ∃ bG : (List (List aF)), ∃ i4 : Int, Has T [(0, (eL aD l0)), (3, (eL (eL aG) bG)), (4, (eI i4))] ∧ aL ⟨H0, [], []⟩ H [] ∧ uH l0 bG i4 = some r) ?_ ⟨x5, (0 : Int), .eq (by kernel_rfl), hO, h0⟩
  clear hO h0
  rintro T H ⟨bG, i4, hT, hO, h0⟩
  refine aZ hT ?_
  clear hT
  unfold uH at h0
  obtain ⟨rr0, hl0, h0⟩ := aY h0
  refine bW (by kernel_rfl) (fun (s : Int) T H => Has T [(0, (eL aD l0)), (3, (eL (eL aG) bG)), (4, (eI s))] ∧ aL ⟨H0, [], []⟩ H []) hl0 ⟨.eq (by kernel_rfl), hO⟩ ?_
  clear hO
  rintro k0 s out1 T H ⟨hT, hO⟩ h1 ho0
  obtain ⟨i4, rfl⟩ : ∃ x, x = s := ⟨_, rfl⟩
  replace h1 : mI l0 bG i4 = some out1 := h1
  refine aZ hT ?_
  clear hT
  unfold mI at h1
  refine aO ?_
  refine aT aH 4 [] [(13, (aK (decide (i4 < (lN bG)))))] ?_
  refine bE h1 (fun h1 => ?_) (fun h1 => ?_)
  · refine bH ?_
    refine bD [(0, (eL aD l0)), (3, (eL (eL aG) bG)), (4, (eI i4))] ?_
    refine aO ?_
    refine bP 1 ?_
    refine aO ?_
    refine aW aH 8 ?_
    obtain ⟨c9, h1⟩ := bA h1
    refine nH 5 [0 ≤ i4 ∧ i4 < (lN bG)] ⟨c9, trivial⟩ ?_
    obtain ⟨x10, hx11, h1⟩ := aY h1
    refine cJ (zO l0 (gD bG i4) _ hx11) hO ?_
    intro H hO
    obtain ⟨x13, hx14, h1⟩ := aY h1
    refine cJ (NI x10 _ hx14) hO ?_
    intro H hO
    refine bC ?_
    refine bQ [] [(23, (aK (decide (x13 < (0 : Int)))))] ?_
    refine bE h1 (fun h1 => ?_) (fun h1 => ?_)
    · refine bN aH 1 [(2, (aK false))] ?_
      refine bI ?_
      obtain rfl := oI h1
      obtain rfl : _ = rr0 := ho0
      replace h0 : some false = some r := h0
      obtain rfl := oI h0
      exact aJ (bM (aP (aP (bM (aP (Q_r hO))))))
    refine bH ?_
    refine dY [(0, (eL aD l0)), (3, (eL (eL aG) bG)), (4, (eI i4))] ?_
    refine aJ (aU (aI (?_)))
    refine aW aH 3 ?_
    refine bC ?_
    exact aJ (aI (⟨rfl, _, (oI h1).symm, .eq (by kernel_rfl), hO⟩))
  refine cS 0 ?_
  obtain rfl := oI h1
  obtain rfl : _ = rr0 := ho0
  replace h0 : uF  = some r := h0
  exact aJ (aS (aS (bL (aI (⟨rfl, .eq (by kernel_rfl), hO, h0⟩)))))

theorem PM (t0 : Int) (r : Bool) (h0 : xL t0 = some r) : bV Try.prog 44 [(eI t0)] (aK r) := by
  intro H0
  refine cC Try.func44 ?_
  have hO := aL.start H0
  unfold xL at h0
  refine aT aH 1 [] [] ?_
  refine bN aH 7 [(2, (aK ((decide ((0 : Int) ≤ t0)) && (decide (t0 ≤ (1125899906842624 : Int))))))] ?_
  refine bI ?_
  obtain rfl := oI h0
  exact aJ (Q_r hO)

theorem GW (l0 : (List Int)) (t1 : Int) (r : (List Int)) (h0 : qN l0 t1 = some r) : bV Try.prog 46 [(eL (eI) l0), (eI t1)] (eL (eI) r) := by
  intro H0
  refine cC Try.func46 ?_
  have hO := aL.start H0
  unfold qN at h0
  refine aT aH 1 [] [] ?_
  refine aO ?_
  refine aW aH 2 ?_
  refine mS (xs := []) (k := 1) (by kernel_rfl) (by kernel_rfl) ?_
  refine bC ?_
  refine bQ [] [(5, (.sl true 0 (fun _ => .bad)))] ?_
  refine aT aH 1 [] [(6, (aK false))] ?_
  refine cE (fun T H => ∃ out5 : List Int, ∃ put6 : Bool, ∃ lo1 : Nat, Has T [(1, (eI t1)), (5, (.msl 1 lo1 0 (List.length out5))), (6, (aK put6))] ∧ aL ⟨H0, [], []⟩ H [(lo1, 1, List.map (eI) out5)] ∧ oY t1 out5 put6 = some r) ?_ ?_
  · clear hO h0
    rintro T H ⟨out5, put6, lo1, hT, hO, h0⟩
    refine aZ hT ?_
    clear hT
    unfold oY at h0
    refine cE (fun T H => ∃ out5 : List Int, ∃ lo2 : Nat, Has T [(5, (.msl 1 lo2 0 (List.length out5)))] ∧ aL ⟨H0, [], []⟩ H [(lo2, 1, List.map (eI) out5)] ∧ oX out5 = some r) ?_ ?_
    · clear hO h0
      rintro T H ⟨out5, lo2, hT, hO, h0⟩
      refine aZ hT ?_
      clear hT
      unfold oX at h0
      refine bN aH 2 [(4, (.msl 1 lo2 0 (List.length out5)))] ?_
      refine bI ?_
      refine dY [(4, (.msl 1 lo2 0 (List.length out5)))] ?_
      refine zB (en := (eI)) out5 0 0 4 1 lo2 (List.length out5) hO (by kernel_rfl) (by kernel_rfl) (by kernel_rfl) (L' := []) (by kernel_rfl) ?_
      intro H3 hO
      obtain rfl := oI h0
      exact aJ (Q_r hO)
    refine aT aH 2 [6] [(44, (aK (!put6)))] ?_
    refine bE h0 (fun h0 => ?_) (fun h0 => ?_)
    · refine aW aH 5 ?_
      refine bS 2 ?_
      refine mS (xs := [(eI t1)]) (k := 1) (by kernel_rfl) (by kernel_rfl) ?_
      obtain ⟨c6, h0⟩ := bA h0
      refine wM (e := (eI)) out5 ([t1]) 0 lo1 1 8 (fA [(eI t1)]) (fun lo5 => [(lo5, 1, List.map (eI) (out5 ++ ([t1])))]) (by kernel_rfl) (by kernel_rfl) hO (by kernel_rfl) (by kernel_rfl) c6 (fun _ => by kernel_rfl) ?_
      intro lo5 H hO
      refine bC ?_
      exact aJ (aI (⟨rfl, _, _, .eq (by kernel_rfl), hO, h0⟩))
    refine bH ?_
    exact aJ (aI (⟨rfl, _, _, .eq (by kernel_rfl), hO, h0⟩))
  refine aT aH 1 [] [(7, (eI (0 : Int)))] ?_
  refine bP 0 ?_
  refine cO [(0, (eL (eI) l0)), (1, (eI t1)), (5, (.sl true 0 (fun _ => .bad))), (6, (aK false)), (7, (eI (0 : Int)))] ?_
  refine yZ (el := (fun _ => .bad)) 2 5 1 hO (by kernel_rfl) ?_
  intro lo20 H21 hO
  refine cF (fun T H => ∃ out5 : List Int, ∃ put6 : Bool, ∃ i7 : Int, ∃ lo8 : Nat, Has T [(0, (eL (eI) l0)), (1, (eI t1)), (5, (.msl 1 lo8 0 (List.length out5))), (6, (aK put6)), (7, (eI i7))] ∧ aL ⟨H0, [], []⟩ H [(lo8, 1, List.map (eI) out5)] ∧ wA l0 t1 out5 put6 i7 = some r) ?_ ⟨([] : List Int), false, (0 : Int), lo20, .eq (by kernel_rfl), hO, h0⟩
  clear hO h0
  rintro T H ⟨out5, put6, i7, lo8, hT, hO, h0⟩
  refine aZ hT ?_
  clear hT
  unfold wA at h0
  obtain ⟨rr0, hl0, h0⟩ := aY h0
  refine bW (by kernel_rfl) (fun (s : List Int × Bool × Int) T H => ∃ lo8 : Nat, Has T [(0, (eL (eI) l0)), (1, (eI t1)), (5, (.msl 1 lo8 0 (List.length s.1))), (6, (aK s.2.1)), (7, (eI s.2.2))] ∧ aL ⟨H0, [], []⟩ H [(lo8, 1, List.map (eI) s.1)]) hl0 ⟨lo8, .eq (by kernel_rfl), hO⟩ ?_
  clear hO
  rintro k0 s out1 T H ⟨lo8, hT, hO⟩ h1 ho0
  obtain ⟨out5, put6, i7⟩ := s
  replace h1 : gJ l0 t1 out5 put6 i7 = some out1 := h1
  dsimp only at hT
  refine aZ hT ?_
  clear hT
  unfold gJ at h1
  refine aO ?_
  refine aT aH 4 [] [(12, (aK (decide (i7 < (lN l0)))))] ?_
  refine bE h1 (fun h1 => ?_) (fun h1 => ?_)
  · refine bH ?_
    refine bD [(0, (eL (eI) l0)), (1, (eI t1)), (5, (.msl 1 lo8 0 (List.length out5))), (6, (aK put6)), (7, (eI i7))] ?_
    refine aO ?_
    refine bP 1 ?_
    refine aO ?_
    refine aO ?_
    refine aW aH 6 ?_
    obtain ⟨c10, h1⟩ := bA h1
    refine nO [0 ≤ i7 ∧ i7 < (lN l0)] ⟨c10, trivial⟩ ?_
    refine bQ [] [(20, (aK (decide ((gD l0 i7) = t1))))] ?_
    refine bE h1 (fun h1 => ?_) (fun h1 => ?_)
    · refine aO ?_
      refine aW aH 2 ?_
      refine bC ?_
      refine dY [(4, (eL (eI) l0))] ?_
      replace hO := hO.pick (L' := []) [] (by decide) (by kernel_rfl)
      refine aJ (aI (?_))
      refine bI ?_
      obtain rfl := oI h1
      obtain rfl : _ = rr0 := ho0
      replace h0 : some l0 = some r := h0
      obtain rfl := oI h0
      exact aJ (aP (bM (aP (aP (bM (aP (Q_r hO)))))))
    refine bH ?_
    refine bD [(0, (eL (eI) l0)), (1, (eI t1)), (5, (.msl 1 lo8 0 (List.length out5))), (6, (aK put6)), (7, (eI i7))] ?_
    refine cE (fun T H => ∃ out5 : List Int, ∃ put6 : Bool, ∃ lo12 : Nat, Has T [(0, (eL (eI) l0)), (1, (eI t1)), (5, (.msl 1 lo12 0 (List.length out5))), (6, (aK put6)), (7, (eI i7))] ∧ aL ⟨H0, [], []⟩ H [(lo12, 1, List.map (eI) out5)] ∧ rJ l0 t1 out5 put6 i7 = some out1) ?_ ?_
    · clear hO h1
      rintro T H ⟨out5, put6, lo12, hT, hO, h1⟩
      refine aZ hT ?_
      clear hT
      unfold rJ at h1
      refine aW aH 8 ?_
      obtain ⟨c13, h1⟩ := bA h1
      refine nH 5 [0 ≤ i7 ∧ i7 < (lN l0)] ⟨c13, trivial⟩ ?_
      refine mS (xs := [(eI (gD l0 i7))]) (k := 1) (by kernel_rfl) (by kernel_rfl) ?_
      obtain ⟨c15, h1⟩ := bA h1
      refine wM (e := (eI)) out5 ([gD l0 i7]) 0 lo12 1 8 (fA [(eI (gD l0 i7))]) (fun lo14 => [(lo14, 1, List.map (eI) (out5 ++ ([gD l0 i7])))]) (by kernel_rfl) (by kernel_rfl) hO (by kernel_rfl) (by kernel_rfl) c15 (fun _ => by kernel_rfl) ?_
      intro lo14 H hO
      refine bC ?_
      refine dY [(0, (eL (eI) l0)), (1, (eI t1)), (5, (.msl 1 lo14 0 (List.length (out5 ++ ([gD l0 i7]))))), (6, (aK put6)), (7, (eI i7))] ?_
      refine aJ (aU (aI (?_)))
      refine aW aH 3 ?_
      refine bC ?_
      exact aJ (aI (⟨rfl, _, (oI h1).symm, _, .eq (by kernel_rfl), hO⟩))
    refine aO ?_
    refine aW aH 10 ?_
    obtain ⟨c16, h1⟩ := bA h1
    refine nO [0 ≤ i7 ∧ i7 < (lN l0)] ⟨c16, trivial⟩ ?_
    refine bQ [] [(31, (aK ((decide (t1 < (gD l0 i7))) && (!put6))))] ?_
    refine bE h1 (fun h1 => ?_) (fun h1 => ?_)
    · refine aO ?_
      refine aW aH 5 ?_
      refine bS 2 ?_
      refine mS (xs := [(eI t1)]) (k := 1) (by kernel_rfl) (by kernel_rfl) ?_
      obtain ⟨c19, h1⟩ := bA h1
      refine wM (e := (eI)) out5 ([t1]) 0 lo8 1 8 (fA [(eI t1)]) (fun lo18 => [(lo18, 1, List.map (eI) (out5 ++ ([t1])))]) (by kernel_rfl) (by kernel_rfl) hO (by kernel_rfl) (by kernel_rfl) c19 (fun _ => by kernel_rfl) ?_
      intro lo18 H hO
      refine bC ?_
      refine bQ [5, 6, 31] [(5, (.msl 1 lo18 0 (List.length (out5 ++ ([t1])))))] ?_
      refine aW aH 1 ?_
      refine bC ?_
      exact aJ (aI (⟨rfl, _, _, _, .eq (by kernel_rfl), hO, h1⟩))
    refine bH ?_
    exact aJ (aI (⟨rfl, _, _, _, .eq (by kernel_rfl), hO, h1⟩))
  refine cS 0 ?_
  obtain rfl := oI h1
  obtain rfl : _ = rr0 := ho0
  replace h0 : oY t1 out5 put6 = some r := h0
  exact aJ (aS (aS (bL (aI (⟨rfl, _, _, _, .eq (by kernel_rfl), hO, h0⟩)))))

theorem SL (f0 : (List aB)) (d1 : Int) (bK : Int) (t3 : Int) (r : Int) (h0 : uZ f0 d1 bK t3 = some r) : bV Try.prog 18 [(eL aE f0), (eI d1), (eI bK), (eI t3)] (eI r) := by
  intro H0
  refine cC Try.func18 ?_
  have hO := aL.start H0
  unfold uZ at h0
  refine aT aH 1 [] [] ?_
  refine aT aH 1 [] [(9, (eI (0 : Int)))] ?_
  refine cE (fun T H => ∃ n9 : Int, Has T [(9, (eI n9))] ∧ aL ⟨H0, [], []⟩ H [] ∧ tI n9 = some r) ?_ ?_
  · clear hO h0
    rintro T H ⟨n9, hT, hO, h0⟩
    refine aZ hT ?_
    clear hT
    unfold tI at h0
    refine bN aH 2 [(8, (eI n9))] ?_
    refine bI ?_
    obtain rfl := oI h0
    exact aJ (Q_r hO)
  refine aT aH 1 [] [(10, (eI (0 : Int)))] ?_
  refine bP 0 ?_
  refine cO [(0, (eL aE f0)), (1, (eI d1)), (2, (eI bK)), (3, (eI t3)), (9, (eI (0 : Int))), (10, (eI (0 : Int)))] ?_
  refine cF (fun T H => ∃ n9 : Int, ∃ i10 : Int, Has T [(0, (eL aE f0)), (1, (eI d1)), (2, (eI bK)), (3, (eI t3)), (9, (eI n9)), (10, (eI i10))] ∧ aL ⟨H0, [], []⟩ H [] ∧ xD f0 d1 bK t3 n9 i10 = some r) ?_ ⟨(0 : Int), (0 : Int), .eq (by kernel_rfl), hO, h0⟩
  clear hO h0
  rintro T H ⟨n9, i10, hT, hO, h0⟩
  refine aZ hT ?_
  clear hT
  unfold xD at h0
  obtain ⟨rr0, hl0, h0⟩ := aY h0
  refine bW (by kernel_rfl) (fun (s : Int × Int) T H => Has T [(0, (eL aE f0)), (1, (eI d1)), (2, (eI bK)), (3, (eI t3)), (9, (eI s.1)), (10, (eI s.2))] ∧ aL ⟨H0, [], []⟩ H []) hl0 ⟨.eq (by kernel_rfl), hO⟩ ?_
  clear hO
  rintro k0 s out1 T H ⟨hT, hO⟩ h1 ho0
  obtain ⟨n9, i10⟩ := s
  replace h1 : mY f0 d1 bK t3 n9 i10 = some out1 := h1
  dsimp only at hT
  refine aZ hT ?_
  clear hT
  unfold mY at h1
  refine aO ?_
  refine aT aH 4 [] [(14, (aK (decide (i10 < (lN f0)))))] ?_
  refine bE h1 (fun h1 => ?_) (fun h1 => ?_)
  · refine bH ?_
    refine bD [(0, (eL aE f0)), (1, (eI d1)), (2, (eI bK)), (3, (eI t3)), (9, (eI n9)), (10, (eI i10))] ?_
    refine cE (fun T H => ∃ n9 : Int, Has T [(0, (eL aE f0)), (1, (eI d1)), (2, (eI bK)), (3, (eI t3)), (9, (eI n9)), (10, (eI i10))] ∧ aL ⟨H0, [], []⟩ H [] ∧ tO f0 d1 bK t3 n9 i10 = some out1) ?_ ?_
    · clear hO h1
      rintro T H ⟨n9, hT, hO, h1⟩
      refine aZ hT ?_
      clear hT
      unfold tO at h1
      refine aW aH 3 ?_
      refine bC ?_
      exact aJ (aI (⟨rfl, _, (oI h1).symm, .eq (by kernel_rfl), hO⟩))
    refine bP 1 ?_
    refine aO ?_
    refine aW aH 35 ?_
    obtain ⟨c2, h1⟩ := bA h1
    obtain ⟨c3, h1⟩ := bA h1
    obtain ⟨c4, h1⟩ := bA h1
    obtain ⟨c5, h1⟩ := bA h1
    refine nO [0 ≤ i10 ∧ i10 < (lN f0), (((decide ((0 : Int) < ((gD f0 i10).Net)))) = true → 0 ≤ i10 ∧ i10 < (lN f0)), ((((decide ((0 : Int) < ((gD f0 i10).Net))) && (decide (bK ≤ ((gD f0 i10).At))))) = true → 0 ≤ i10 ∧ i10 < (lN f0)), (((((decide ((0 : Int) < ((gD f0 i10).Net))) && (decide (bK ≤ ((gD f0 i10).At)))) && (decide (((gD f0 i10).At) ≤ t3)))) = true → 0 ≤ i10 ∧ i10 < (lN f0))] ⟨c2, c3, c4, c5, trivial⟩ ?_
    refine bQ [] [(51, (aK ((((decide ((0 : Int) < ((gD f0 i10).Net))) && (decide (bK ≤ ((gD f0 i10).At)))) && (decide (((gD f0 i10).At) ≤ t3))) && (decide ((wR (t3 - d1)) < ((gD f0 i10).At))))))] ?_
    refine bE h1 (fun h1 => ?_) (fun h1 => ?_)
    · refine aW aH 8 ?_
      obtain ⟨c7, h1⟩ := bA h1
      refine nO [0 ≤ i10 ∧ i10 < (lN f0)] ⟨c7, trivial⟩ ?_
      exact aJ (aU (aI (⟨rfl, _, .eq (by kernel_rfl), hO, h1⟩)))
    refine bH ?_
    exact aJ (aU (aI (⟨rfl, _, .eq (by kernel_rfl), hO, h1⟩)))
  refine cS 0 ?_
  obtain rfl := oI h1
  obtain rfl : _ = rr0 := ho0
  replace h0 : tI n9 = some r := h0
  exact aJ (aS (aS (bL (aI (⟨rfl, _, .eq (by kernel_rfl), hO, h0⟩)))))

theorem RB (dL : (List Int)) (cP : (List Int)) (r : ((List aB) × Int)) (h0 : tF dL cP = some r) : bV Try.prog 47 [(eL (eI) dL), (eL (eI) cP)] (.tup [(eL aE r.1), (eI r.2)]) := by
  intro H0
  refine cC Try.func47 ?_
  have hO := aL.start H0
  unfold tF at h0
  refine aT aH 2 [] [] ?_
  refine aO ?_
  refine aW aH 2 ?_
  refine mS (xs := []) (k := 2) (by kernel_rfl) (by kernel_rfl) ?_
  refine bC ?_
  refine bQ [] [(6, (.sl true 0 (fun _ => .bad)))] ?_
  refine aT aH 1 [] [(7, (eI (0 : Int)))] ?_
  refine cE (fun T H => ∃ f6 : List aB, ∃ lo1 : Nat, Has T [(6, (.msl 2 lo1 0 (List.length f6)))] ∧ aL ⟨H0, [], []⟩ H [(lo1, 2, List.map aE f6)] ∧ rP f6 = some r) ?_ ?_
  · clear hO h0
    rintro T H ⟨f6, lo1, hT, hO, h0⟩
    refine aZ hT ?_
    clear hT
    unfold rP at h0
    refine aO ?_
    refine aO ?_
    refine aW aH 3 ?_
    refine wT (e := aE) f6 0 6 2 lo1 (List.length f6) [] (by kernel_rfl) hO (by kernel_rfl) (by kernel_rfl) (by kernel_rfl) (by kernel_rfl) ?_
    intro H hO
    refine bS 1 ?_
    obtain ⟨x2, hx3, h0⟩ := aY h0
    refine cJ (CS f6 _ hx3) hO ?_
    intro H hO
    refine bC ?_
    refine bD [(6, (eL aE f6)), (42, (aK (!x2)))] ?_
    refine bE h0 (fun h0 => ?_) (fun h0 => ?_)
    · refine bN aH 2 [(4, (.sl true 0 (fun _ => .bad))), (5, (eI (7 : Int)))] ?_
      refine bI ?_
      refine cG (l := [(4, (eL aE ([]))), (5, (eI (7 : Int)))]) ⟨[(4, (.sl true 0 (fun _ => .bad))), (5, (eI (7 : Int)))], by kernel_rfl, rfl, ⟨gN, aR.refl _, trivial⟩⟩ ?_
      obtain rfl := oI h0
      exact aJ (aP (Q_r hO))
    refine bH ?_
    refine bD [(6, (eL aE f6))] ?_
    refine bN aH 3 [(4, (eL aE f6)), (5, (eI (0 : Int)))] ?_
    refine bI ?_
    obtain rfl := oI h0
    exact aJ (Q_r hO)
  refine aT aH 1 [] [(8, (eI (0 : Int)))] ?_
  refine bP 0 ?_
  refine cO [(0, (eL (eI) dL)), (1, (eL (eI) cP)), (6, (.sl true 0 (fun _ => .bad))), (7, (eI (0 : Int))), (8, (eI (0 : Int)))] ?_
  refine yZ (el := (fun _ => .bad)) 2 6 2 hO (by kernel_rfl) ?_
  intro lo17 H18 hO
  refine cF (fun T H => ∃ f6 : List aB, ∃ was7 : Int, ∃ i8 : Int, ∃ lo7 : Nat, Has T [(0, (eL (eI) dL)), (1, (eL (eI) cP)), (6, (.msl 2 lo7 0 (List.length f6))), (7, (eI was7)), (8, (eI i8))] ∧ aL ⟨H0, [], []⟩ H [(lo7, 2, List.map aE f6)] ∧ vO dL cP f6 was7 i8 = some r) ?_ ⟨([] : List aB), (0 : Int), (0 : Int), lo17, .eq (by kernel_rfl), hO, h0⟩
  clear hO h0
  rintro T H ⟨f6, was7, i8, lo7, hT, hO, h0⟩
  refine aZ hT ?_
  clear hT
  unfold vO at h0
  obtain ⟨rr0, hl0, h0⟩ := aY h0
  refine bW (by kernel_rfl) (fun (s : List aB × Int × Int) T H => ∃ lo7 : Nat, Has T [(0, (eL (eI) dL)), (1, (eL (eI) cP)), (6, (.msl 2 lo7 0 (List.length s.1))), (7, (eI s.2.1)), (8, (eI s.2.2))] ∧ aL ⟨H0, [], []⟩ H [(lo7, 2, List.map aE s.1)]) hl0 ⟨lo7, .eq (by kernel_rfl), hO⟩ ?_
  clear hO
  rintro k0 s out1 T H ⟨lo7, hT, hO⟩ h1 ho0
  obtain ⟨f6, was7, i8⟩ := s
  replace h1 : lX dL cP f6 was7 i8 = some out1 := h1
  dsimp only at hT
  refine aZ hT ?_
  clear hT
  unfold lX at h1
  refine aO ?_
  refine aT aH 4 [] [(13, (aK (decide (i8 < (lN dL)))))] ?_
  refine bE h1 (fun h1 => ?_) (fun h1 => ?_)
  · refine bH ?_
    refine bD [(0, (eL (eI) dL)), (1, (eL (eI) cP)), (6, (.msl 2 lo7 0 (List.length f6))), (7, (eI was7)), (8, (eI i8))] ?_
    refine aO ?_
    refine bP 1 ?_
    refine cE (fun T H => ∃ f6 : List aB, ∃ lo9 : Nat, Has T [(0, (eL (eI) dL)), (1, (eL (eI) cP)), (6, (.msl 2 lo9 0 (List.length f6))), (8, (eI i8))] ∧ aL ⟨H0, [], []⟩ H [(lo9, 2, List.map aE f6)] ∧ rE dL cP f6 i8 = some out1) ?_ ?_
    · clear hO h1
      rintro T H ⟨f6, lo9, hT, hO, h1⟩
      refine aZ hT ?_
      clear hT
      unfold rE at h1
      refine aW aH 5 ?_
      obtain ⟨c10, h1⟩ := bA h1
      refine nO [0 ≤ i8 ∧ i8 < (lN cP)] ⟨c10, trivial⟩ ?_
      refine dY [(0, (eL (eI) dL)), (1, (eL (eI) cP)), (6, (.msl 2 lo9 0 (List.length f6))), (7, (eI (gD cP i8))), (8, (eI i8))] ?_
      refine aJ (aU (aI (?_)))
      refine aW aH 3 ?_
      refine bC ?_
      exact aJ (aI (⟨rfl, _, (oI h1).symm, _, .eq (by kernel_rfl), hO⟩))
    refine aO ?_
    refine aW aH 6 ?_
    obtain ⟨c11, h1⟩ := bA h1
    refine nO [0 ≤ i8 ∧ i8 < (lN cP)] ⟨c11, trivial⟩ ?_
    refine bQ [] [(21, (aK (!decide ((gD cP i8) = was7))))] ?_
    refine bE h1 (fun h1 => ?_) (fun h1 => ?_)
    · refine fD (fH [26, 30]) aH 15 ?_
      obtain ⟨c13, h1⟩ := bA h1
      obtain ⟨c14, h1⟩ := bA h1
      refine cN 12 [0 ≤ i8 ∧ i8 < (lN dL), 0 ≤ i8 ∧ i8 < (lN cP)] ⟨c13, c14, trivial⟩ ?_
      refine CB (xs := [(aE (aB.mk (gD dL i8) (wR ((gD cP i8) - was7))))]) (k := 2) (by kernel_rfl) (by kernel_rfl) ?_
      obtain ⟨c16, h1⟩ := bA h1
      refine AQ (e := aE) f6 ([aB.mk (gD dL i8) (wR ((gD cP i8) - was7))]) 0 lo7 2 16 (fA [(aE (aB.mk (gD dL i8) (wR ((gD cP i8) - was7))))]) (fun lo15 => [(lo15, 2, List.map aE (f6 ++ ([aB.mk (gD dL i8) (wR ((gD cP i8) - was7))])))]) (by kernel_rfl) (by kernel_rfl) hO (by kernel_rfl) (by kernel_rfl) c16 (fun _ => by kernel_rfl) ?_
      intro lo15 H hO
      refine iU ?_
      exact aJ (aI (⟨rfl, _, _, .eq (by kernel_rfl), hO, h1⟩))
    refine bH ?_
    exact aJ (aI (⟨rfl, _, _, .eq (by kernel_rfl), hO, h1⟩))
  refine cS 0 ?_
  obtain rfl := oI h1
  obtain rfl : _ = rr0 := ho0
  replace h0 : rP f6 = some r := h0
  exact aJ (aS (aS (bL (aI (⟨rfl, _, _, .eq (by kernel_rfl), hO, h0⟩)))))

theorem SZ (lo0p : Nat) (l0 : (List aC)) (r1 : (List aF)) (f2 : (List aB)) (r : (List aC)) (h0 : uR l0 r1 f2 = some r) : BZ Try.prog 29 lo0p 3 (List.map aD l0) [(.msl 3 lo0p 0 (List.length l0)), (eL aG r1), (eL aE f2)] (fun lo => .msl 3 lo 0 (List.length r)) (List.map aD r) := by
  intro H0 hl0
  refine cC Try.func29 ?_
  have hO := aL.oF hl0
  clear hl0
  unfold uR at h0
  refine aT aH 1 [] [] ?_
  refine cE (fun T H => ∃ l0 : List aC, ∃ lo1 : Nat, Has T [(0, (.msl 3 lo1 0 (List.length l0)))] ∧ aL ⟨H0, [lo0p], []⟩ H [(lo1, 3, List.map aD l0)] ∧ xN l0 = some r) ?_ ?_
  · clear hO h0
    rintro T H ⟨l0, lo1, hT, hO, h0⟩
    refine aZ hT ?_
    clear hT
    unfold xN at h0
    refine bN aH 2 [(6, (.msl 3 lo1 0 (List.length l0)))] ?_
    refine bI ?_
    obtain rfl := oI h0
    exact aJ (pM (x := (.msl 3 lo1 0 (List.length l0))) (by kernel_rfl) (aR.refl _) ⟨lo1, rfl, hO⟩)
  refine aT aH 1 [] [(7, (eI (0 : Int)))] ?_
  refine bP 0 ?_
  refine cO [(0, (.msl 3 lo0p 0 (List.length l0))), (1, (eL aG r1)), (2, (eL aE f2)), (7, (eI (0 : Int)))] ?_
  refine cF (fun T H => ∃ l0 : List aC, ∃ i7 : Int, ∃ lo3 : Nat, Has T [(0, (.msl 3 lo3 0 (List.length l0))), (1, (eL aG r1)), (2, (eL aE f2)), (7, (eI i7))] ∧ aL ⟨H0, [lo0p], []⟩ H [(lo3, 3, List.map aD l0)] ∧ xX l0 r1 f2 i7 = some r) ?_ ⟨l0, (0 : Int), lo0p, .eq (by kernel_rfl), hO, h0⟩
  clear hO h0
  rintro T H ⟨l0, i7, lo3, hT, hO, h0⟩
  refine aZ hT ?_
  clear hT
  unfold xX at h0
  obtain ⟨rr0, hl0, h0⟩ := aY h0
  refine bW (by kernel_rfl) (fun (s : List aC × Int) T H => ∃ lo3 : Nat, Has T [(0, (.msl 3 lo3 0 (List.length s.1))), (1, (eL aG r1)), (2, (eL aE f2)), (7, (eI s.2))] ∧ aL ⟨H0, [lo0p], []⟩ H [(lo3, 3, List.map aD s.1)]) hl0 ⟨lo3, .eq (by kernel_rfl), hO⟩ ?_
  clear hO
  rintro k0 s out1 T H ⟨lo3, hT, hO⟩ h1 ho0
  obtain ⟨l0, i7⟩ := s
  replace h1 : nA r1 f2 l0 i7 = some out1 := h1
  dsimp only at hT
  refine aZ hT ?_
  clear hT
  unfold nA at h1
  refine aO ?_
  refine aT aH 4 [] [(11, (aK (decide (i7 < (lN f2)))))] ?_
  refine bE h1 (fun h1 => ?_) (fun h1 => ?_)
  · refine bH ?_
    refine bD [(0, (.msl 3 lo3 0 (List.length l0))), (1, (eL aG r1)), (2, (eL aE f2)), (7, (eI i7))] ?_
    refine aO ?_
    refine bP 1 ?_
    refine fD (fH [22, 27]) aH 18 ?_
    refine oT 1 ?_
    refine CB (xs := []) (k := 3) (by kernel_rfl) (by kernel_rfl) ?_
    refine oT 3 ?_
    obtain ⟨c10, h1⟩ := bA h1
    refine aAE (e := aG) r1 (fun _ => .bad) 3 32 (eL aG r1) (by kernel_rfl) (by kernel_rfl) hO (HC (fun _ => by kernel_rfl)) c10 ?_
    intro H hO
    obtain ⟨c11, h1⟩ := bA h1
    obtain ⟨c12, h1⟩ := bA h1
    refine cN 15 [0 ≤ i7 ∧ i7 < (lN f2), 0 ≤ i7 ∧ i7 < (lN f2)] ⟨c11, c12, trivial⟩ ?_
    refine CB (xs := [(aD (aC.mk r1 ((gD f2 i7).At) ((gD f2 i7).Net)))]) (k := 3) (by kernel_rfl) (by kernel_rfl) ?_
    obtain ⟨c14, h1⟩ := bA h1
    refine AQ (e := aD) l0 ([aC.mk r1 ((gD f2 i7).At) ((gD f2 i7).Net)]) 0 lo3 3 40 (fA [(aD (aC.mk r1 ((gD f2 i7).At) ((gD f2 i7).Net)))]) (fun lo13 => [(lo13, 3, List.map aD (l0 ++ ([aC.mk r1 ((gD f2 i7).At) ((gD f2 i7).Net)])))]) (by kernel_rfl) (by kernel_rfl) hO (by kernel_rfl) (by kernel_rfl) c14 (fun _ => by kernel_rfl) ?_
    intro lo13 H hO
    refine iU ?_
    refine dY [(0, (.msl 3 lo13 0 (List.length (l0 ++ ([aC.mk r1 ((gD f2 i7).At) ((gD f2 i7).Net)]))))), (1, (eL aG r1)), (2, (eL aE f2)), (7, (eI i7))] ?_
    refine aJ (aU (aI (?_)))
    refine aW aH 3 ?_
    refine bC ?_
    exact aJ (aI (⟨rfl, _, (oI h1).symm, _, .eq (by kernel_rfl), hO⟩))
  refine cS 0 ?_
  obtain rfl := oI h1
  obtain rfl : _ = rr0 := ho0
  replace h0 : xN l0 = some r := h0
  exact aJ (aS (aS (bL (aI (⟨rfl, _, _, .eq (by kernel_rfl), hO, h0⟩)))))

theorem QV (l0 : (List aC)) (d1 : Int) (bK : Int) (r : ((List aC) × Int)) (h0 : sU l0 d1 bK = some r) : bV Try.prog 15 [(eL aD l0), (eI d1), (eI bK)] (.tup [(eL aD r.1), (eI r.2)]) := by
  intro H0
  refine cC Try.func15 ?_
  have hO := aL.start H0
  unfold sU at h0
  refine aT aH 2 [] [] ?_
  refine aO ?_
  refine aO ?_
  refine aW aH 11 ?_
  refine bS 1 ?_
  obtain ⟨x1, hx2, h0⟩ := aY h0
  refine cJ (HQ l0 _ hx2) hO ?_
  intro H hO
  refine bC ?_
  refine bQ [] [(28, (aK (((!x1) || (decide (d1 < (1 : Int)))) || (decide ((1099511627776 : Int) < d1)))))] ?_
  refine bE h0 (fun h0 => ?_) (fun h0 => ?_)
  · refine bN aH 2 [(6, (.sl true 0 (fun _ => .bad))), (7, (eI (2 : Int)))] ?_
    refine bI ?_
    refine cG (l := [(6, (eL aD ([]))), (7, (eI (2 : Int)))]) ⟨[(6, (.sl true 0 (fun _ => .bad))), (7, (eI (2 : Int)))], by kernel_rfl, rfl, ⟨gN, aR.refl _, trivial⟩⟩ ?_
    obtain rfl := oI h0
    exact aJ (aP (Q_r hO))
  refine bH ?_
  refine bD [(0, (eL aD l0)), (1, (eI d1)), (2, (eI bK))] ?_
  refine aO ?_
  refine aO ?_
  refine aW aH 3 ?_
  refine bS 1 ?_
  obtain ⟨x5, hx6, h0⟩ := aY h0
  refine cJ (NQ l0 _ hx6) hO ?_
  intro H hO
  refine bC ?_
  refine bQ [] [(31, (aK (!x5)))] ?_
  refine bE h0 (fun h0 => ?_) (fun h0 => ?_)
  · refine bN aH 2 [(6, (.sl true 0 (fun _ => .bad))), (7, (eI (20 : Int)))] ?_
    refine bI ?_
    refine cG (l := [(6, (eL aD ([]))), (7, (eI (20 : Int)))]) ⟨[(6, (.sl true 0 (fun _ => .bad))), (7, (eI (20 : Int)))], by kernel_rfl, rfl, ⟨gN, aR.refl _, trivial⟩⟩ ?_
    obtain rfl := oI h0
    exact aJ (aP (Q_r hO))
  refine bH ?_
  refine bD [(0, (eL aD l0)), (1, (eI d1)), (2, (eI bK))] ?_
  refine aO ?_
  refine aO ?_
  refine aW aH 3 ?_
  refine bS 1 ?_
  obtain ⟨x9, hx10, h0⟩ := aY h0
  refine cJ (PM bK _ hx10) hO ?_
  intro H hO
  refine bC ?_
  refine bQ [] [(34, (aK (!x9)))] ?_
  refine bE h0 (fun h0 => ?_) (fun h0 => ?_)
  · refine bN aH 2 [(6, (.sl true 0 (fun _ => .bad))), (7, (eI (13 : Int)))] ?_
    refine bI ?_
    refine cG (l := [(6, (eL aD ([]))), (7, (eI (13 : Int)))]) ⟨[(6, (.sl true 0 (fun _ => .bad))), (7, (eI (13 : Int)))], by kernel_rfl, rfl, ⟨gN, aR.refl _, trivial⟩⟩ ?_
    obtain rfl := oI h0
    exact aJ (aP (Q_r hO))
  refine bH ?_
  refine bD [(0, (eL aD l0)), (1, (eI d1)), (2, (eI bK))] ?_
  refine aO ?_
  refine aW aH 2 ?_
  refine mS (xs := []) (k := 3) (by kernel_rfl) (by kernel_rfl) ?_
  refine bC ?_
  refine bQ [] [(8, (.sl true 0 (fun _ => .bad)))] ?_
  refine aO ?_
  refine aW aH 3 ?_
  refine bS 1 ?_
  obtain ⟨x13, hx14, h0⟩ := aY h0
  refine cJ (BK l0 _ hx14) hO ?_
  intro H hO
  refine bC ?_
  refine bQ [] [(9, (eL (eL aG) x13))] ?_
  refine cE (fun T H => ∃ out8 : List aC, ∃ lo16 : Nat, Has T [(8, (.msl 3 lo16 0 (List.length out8)))] ∧ aL ⟨H0, [], []⟩ H [(lo16, 3, List.map aD out8)] ∧ pE out8 = some r) ?_ ?_
  · clear hO h0
    rintro T H ⟨out8, lo16, hT, hO, h0⟩
    refine aZ hT ?_
    clear hT
    unfold pE at h0
    refine aO ?_
    refine aT aH 3 [] [(123, (aK (decide ((4096 : Int) < (lN out8)))))] ?_
    refine bE h0 (fun h0 => ?_) (fun h0 => ?_)
    · refine aO ?_
      refine aW aH 2 ?_
      refine bC ?_
      refine dY [(6, (.sl true 0 (fun _ => .bad))), (7, (eI (7 : Int)))] ?_
      replace hO := hO.pick (L' := []) [] (by decide) (by kernel_rfl)
      refine aJ (aI (?_))
      refine bI ?_
      refine cG (l := [(6, (eL aD ([]))), (7, (eI (7 : Int)))]) ⟨[(6, (.sl true 0 (fun _ => .bad))), (7, (eI (7 : Int)))], by kernel_rfl, rfl, ⟨gN, aR.refl _, trivial⟩⟩ ?_
      obtain rfl := oI h0
      exact aJ (aP (Q_r hO))
    refine bH ?_
    refine bD [(8, (.msl 3 lo16 0 (List.length out8)))] ?_
    refine bN aH 3 [(6, (.msl 3 lo16 0 (List.length out8))), (7, (eI (0 : Int)))] ?_
    refine bI ?_
    refine dY [(6, (.msl 3 lo16 0 (List.length out8))), (7, (eI (0 : Int)))] ?_
    refine zB (en := aD) out8 0 0 6 3 lo16 (List.length out8) hO (by kernel_rfl) (by kernel_rfl) (by kernel_rfl) (L' := []) (by kernel_rfl) ?_
    intro H18 hO
    obtain rfl := oI h0
    exact aJ (Q_r hO)
  refine aT aH 1 [] [(10, (eI (0 : Int)))] ?_
  refine bP 0 ?_
  refine cO [(0, (eL aD l0)), (1, (eI d1)), (2, (eI bK)), (8, (.sl true 0 (fun _ => .bad))), (9, (eL (eL aG) x13)), (10, (eI (0 : Int)))] ?_
  refine yZ (el := (fun _ => .bad)) 3 8 3 hO (by kernel_rfl) ?_
  intro lo69 H70 hO
  refine cF (fun T H => ∃ out8 : List aC, ∃ cD : (List (List aF)), ∃ i10 : Int, ∃ lo20 : Nat, Has T [(0, (eL aD l0)), (1, (eI d1)), (2, (eI bK)), (8, (.msl 3 lo20 0 (List.length out8))), (9, (eL (eL aG) cD)), (10, (eI i10))] ∧ aL ⟨H0, [], []⟩ H [(lo20, 3, List.map aD out8)] ∧ vH l0 d1 bK out8 cD i10 = some r) ?_ ⟨([] : List aC), x13, (0 : Int), lo69, .eq (by kernel_rfl), hO, h0⟩
  clear hO h0
  rintro T H ⟨out8, cD, i10, lo20, hT, hO, h0⟩
  refine aZ hT ?_
  clear hT
  unfold vH at h0
  obtain ⟨rr0, hl0, h0⟩ := aY h0
  refine bW (by kernel_rfl) (fun (s : List aC × Int) T H => ∃ lo20 : Nat, Has T [(0, (eL aD l0)), (1, (eI d1)), (2, (eI bK)), (8, (.msl 3 lo20 0 (List.length s.1))), (9, (eL (eL aG) cD)), (10, (eI s.2))] ∧ aL ⟨H0, [], []⟩ H [(lo20, 3, List.map aD s.1)]) hl0 ⟨lo20, .eq (by kernel_rfl), hO⟩ ?_
  clear hO
  rintro k0 s out1 T H ⟨lo20, hT, hO⟩ h1 ho0
  obtain ⟨out8, i10⟩ := s
  replace h1 : lU l0 d1 bK cD out8 i10 = some out1 := h1
  dsimp only at hT
  refine aZ hT ?_
  clear hT
  unfold lU at h1
  refine aO ?_
  refine aT aH 4 [] [(41, (aK (decide (i10 < (lN cD)))))] ?_
  refine bE h1 (fun h1 => ?_) (fun h1 => ?_)
  · refine bH ?_
    refine bD [(0, (eL aD l0)), (1, (eI d1)), (2, (eI bK)), (8, (.msl 3 lo20 0 (List.length out8))), (9, (eL (eL aG) cD)), (10, (eI i10))] ?_
    refine cE (fun T H => ∃ out8 : List aC, ∃ lo22 : Nat, Has T [(0, (eL aD l0)), (1, (eI d1)), (2, (eI bK)), (8, (.msl 3 lo22 0 (List.length out8))), (9, (eL (eL aG) cD)), (10, (eI i10))] ∧ aL ⟨H0, [], []⟩ H [(lo22, 3, List.map aD out8)] ∧ vJ l0 d1 bK out8 cD i10 = some out1) ?_ ?_
    · clear hO h1
      rintro T H ⟨out8, lo22, hT, hO, h1⟩
      refine aZ hT ?_
      clear hT
      unfold vJ at h1
      refine aW aH 3 ?_
      refine bC ?_
      exact aJ (aI (⟨rfl, _, (oI h1).symm, _, .eq (by kernel_rfl), hO⟩))
    refine bP 1 ?_
    refine aO ?_
    refine aW aH 7 ?_
    obtain ⟨c23, h1⟩ := bA h1
    refine nH 5 [0 ≤ i10 ∧ i10 < (lN cD)] ⟨c23, trivial⟩ ?_
    obtain ⟨x24, hx25, h1⟩ := aY h1
    refine cJ (zO l0 (gD cD i10) _ hx25) hO ?_
    intro H hO
    refine bC ?_
    refine bQ [] [(11, (eL aE x24))] ?_
    refine aO ?_
    refine aW aH 2 ?_
    refine mS (xs := []) (k := 1) (by kernel_rfl) (by kernel_rfl) ?_
    refine bC ?_
    refine bQ [] [(12, (.sl true 0 (fun _ => .bad)))] ?_
    refine cE (fun T H => ∃ out8 : List aC, ∃ f11 : (List aB), ∃ bX : (List Int), ∃ lo27 : Nat, Has T [(0, (eL aD l0)), (1, (eI d1)), (2, (eI bK)), (8, (.msl 3 lo27 0 (List.length out8))), (9, (eL (eL aG) cD)), (10, (eI i10)), (11, (eL aE f11)), (12, (eL (eI) bX))] ∧ aL ⟨H0, [], []⟩ H [(lo27, 3, List.map aD out8)] ∧ rF l0 d1 bK out8 cD i10 f11 bX = some out1) ?_ ?_
    · clear hO h1
      rintro T H ⟨out8, f11, bX, lo27, hT, hO, h1⟩
      refine aZ hT ?_
      clear hT
      unfold rF at h1
      refine aO ?_
      refine aW aH 2 ?_
      refine mS (xs := []) (k := 1) (by kernel_rfl) (by kernel_rfl) ?_
      refine bC ?_
      refine bQ [] [(14, (.sl true 0 (fun _ => .bad)))] ?_
      refine cE (fun T H => ∃ out8 : List aC, ∃ dA : List Int, ∃ lo28 : Nat, ∃ lo29 : Nat, Has T [(0, (eL aD l0)), (1, (eI d1)), (2, (eI bK)), (8, (.msl 3 lo28 0 (List.length out8))), (9, (eL (eL aG) cD)), (10, (eI i10)), (12, (eL (eI) bX)), (14, (.msl 1 lo29 0 (List.length dA)))] ∧ aL ⟨H0, [], []⟩ H [(lo28, 3, List.map aD out8), (lo29, 1, List.map (eI) dA)] ∧ rI l0 d1 bK out8 cD i10 bX dA = some out1) ?_ ?_
      · clear hO h1
        rintro T H ⟨out8, dA, lo28, lo29, hT, hO, h1⟩
        refine aZ hT ?_
        clear hT
        unfold rI at h1
        refine aO ?_
        refine aW aH 8 ?_
        refine wT (e := (eI)) dA 1 14 1 lo29 (List.length dA) [(lo28, 3, List.map aD out8)] (by kernel_rfl) hO (by kernel_rfl) (by kernel_rfl) (by kernel_rfl) (by kernel_rfl) ?_
        intro H hO
        refine bS 2 ?_
        obtain ⟨x30, hx31, h1⟩ := aY h1
        refine cJ (RB bX dA _ hx31) hO ?_
        intro H hO
        refine bC ?_
        refine bQ [12, 14] [(16, (eL aE x30.1)), (17, (eI x30.2))] ?_
        refine aO ?_
        refine aT aH 2 [] [(112, (aK (!decide (x30.2 = (0 : Int)))))] ?_
        refine bE h1 (fun h1 => ?_) (fun h1 => ?_)
        · refine aO ?_
          refine aW aH 3 ?_
          refine bC ?_
          refine dY [(6, (.sl true 0 (fun _ => .bad))), (7, (eI x30.2))] ?_
          replace hO := hO.pick (L' := []) [] (by decide) (by kernel_rfl)
          refine aJ (aI (?_))
          refine bI ?_
          refine cG (l := [(6, (eL aD ([]))), (7, (eI x30.2))]) ⟨[(6, (.sl true 0 (fun _ => .bad))), (7, (eI x30.2))], by kernel_rfl, rfl, ⟨gN, aR.refl _, trivial⟩⟩ ?_
          obtain rfl := oI h1
          obtain rfl : _ = rr0 := ho0
          replace h0 : some ([], x30.2) = some r := h0
          obtain rfl := oI h0
          exact aJ (aP (bM (aP (aP (bM (aP (Q_r hO)))))))
        refine bH ?_
        refine bD [(0, (eL aD l0)), (1, (eI d1)), (2, (eI bK)), (8, (.msl 3 lo28 0 (List.length out8))), (9, (eL (eL aG) cD)), (10, (eI i10)), (16, (eL aE x30.1))] ?_
        refine aW aH 8 ?_
        obtain ⟨c34, h1⟩ := bA h1
        refine nH 6 [0 ≤ i10 ∧ i10 < (lN cD)] ⟨c34, trivial⟩ ?_
        obtain ⟨x35, hx36, h1⟩ := aY h1
        refine UA (L' := fun lo37 => [(lo37, 3, List.map aD x35)]) 0 lo28 3 (List.map aD out8) (List.map aD x35) 29 [(.msl 3 lo28 0 (List.length out8)), (eL aG (gD cD i10)), (eL aE x30.1)] (fun lo37 => (.msl 3 lo37 0 (List.length x35))) (by kernel_rfl) (by kernel_rfl) (SZ lo28 out8 (gD cD i10) x30.1 _ hx36) hO (by kernel_rfl) (fun _ => by kernel_rfl) ?_
        intro lo37 H hO
        refine bC ?_
        exact aJ (aU (aI (⟨rfl, _, _, .eq (by kernel_rfl), hO, h1⟩)))
      refine aT aH 1 [] [(15, (eI (0 : Int)))] ?_
      refine bP 4 ?_
      refine cO [(0, (eL aD l0)), (1, (eI d1)), (2, (eI bK)), (8, (.msl 3 lo27 0 (List.length out8))), (9, (eL (eL aG) cD)), (10, (eI i10)), (11, (eL aE f11)), (12, (eL (eI) bX)), (14, (.sl true 0 (fun _ => .bad))), (15, (eI (0 : Int)))] ?_
      refine yZ (el := (fun _ => .bad)) 8 14 1 hO (by kernel_rfl) ?_
      intro lo49 H50 hO
      refine cF (fun T H => ∃ out8 : List aC, ∃ dA : List Int, ∃ k15 : Int, ∃ lo40 : Nat, ∃ lo41 : Nat, Has T [(0, (eL aD l0)), (1, (eI d1)), (2, (eI bK)), (8, (.msl 3 lo40 0 (List.length out8))), (9, (eL (eL aG) cD)), (10, (eI i10)), (11, (eL aE f11)), (12, (eL (eI) bX)), (14, (.msl 1 lo41 0 (List.length dA))), (15, (eI k15))] ∧ aL ⟨H0, [], []⟩ H [(lo40, 3, List.map aD out8), (lo41, 1, List.map (eI) dA)] ∧ vU l0 d1 bK out8 cD i10 f11 bX dA k15 = some out1) ?_ ⟨out8, ([] : List Int), (0 : Int), lo27, lo49, .eq (by kernel_rfl), hO, h1⟩
      clear hO h1
      rintro T H ⟨out8, dA, k15, lo40, lo41, hT, hO, h1⟩
      refine aZ hT ?_
      clear hT
      unfold vU at h1
      obtain ⟨rr1, hl1, h1⟩ := aY h1
      refine bW (by kernel_rfl) (fun (s : List aC × List Int × Int) T H => ∃ lo40 : Nat, ∃ lo41 : Nat, Has T [(0, (eL aD l0)), (1, (eI d1)), (2, (eI bK)), (8, (.msl 3 lo40 0 (List.length s.1))), (9, (eL (eL aG) cD)), (10, (eI i10)), (11, (eL aE f11)), (12, (eL (eI) bX)), (14, (.msl 1 lo41 0 (List.length s.2.1))), (15, (eI s.2.2))] ∧ aL ⟨H0, [], []⟩ H [(lo40, 3, List.map aD s.1), (lo41, 1, List.map (eI) s.2.1)]) hl1 ⟨lo40, lo41, .eq (by kernel_rfl), hO⟩ ?_
      clear hO
      rintro k1 s out2 T H ⟨lo40, lo41, hT, hO⟩ h2 ho1
      obtain ⟨out8, dA, k15⟩ := s
      replace h2 : lW l0 d1 bK cD i10 f11 bX out8 dA k15 = some out2 := h2
      dsimp only at hT
      refine aZ hT ?_
      clear hT
      unfold lW at h2
      refine aO ?_
      refine aT aH 4 [] [(91, (aK (decide (k15 < (lN bX)))))] ?_
      refine bE h2 (fun h2 => ?_) (fun h2 => ?_)
      · refine bH ?_
        refine bD [(0, (eL aD l0)), (1, (eI d1)), (2, (eI bK)), (8, (.msl 3 lo40 0 (List.length out8))), (9, (eL (eL aG) cD)), (10, (eI i10)), (11, (eL aE f11)), (12, (eL (eI) bX)), (14, (.msl 1 lo41 0 (List.length dA))), (15, (eI k15))] ?_
        refine aO ?_
        refine bP 5 ?_
        refine aW aH 12 ?_
        obtain ⟨c43, h2⟩ := bA h2
        refine nH 8 [0 ≤ k15 ∧ k15 < (lN bX)] ⟨c43, trivial⟩ ?_
        obtain ⟨x44, hx45, h2⟩ := aY h2
        refine cJ (SL f11 d1 bK (gD bX k15) _ hx45) hO ?_
        intro H hO
        refine mS (xs := [(eI x44)]) (k := 1) (by kernel_rfl) (by kernel_rfl) ?_
        obtain ⟨c48, h2⟩ := bA h2
        refine wM (e := (eI)) dA ([x44]) 1 lo41 1 8 (fA [(eI x44)]) (fun lo47 => [(lo40, 3, List.map aD out8), (lo47, 1, List.map (eI) (dA ++ ([x44])))]) (by kernel_rfl) (by kernel_rfl) hO (by kernel_rfl) (by kernel_rfl) c48 (fun _ => by kernel_rfl) ?_
        intro lo47 H hO
        refine bC ?_
        refine dY [(0, (eL aD l0)), (1, (eI d1)), (2, (eI bK)), (8, (.msl 3 lo40 0 (List.length out8))), (9, (eL (eL aG) cD)), (10, (eI i10)), (11, (eL aE f11)), (12, (eL (eI) bX)), (14, (.msl 1 lo47 0 (List.length (dA ++ ([x44]))))), (15, (eI k15))] ?_
        refine aJ (aU (aI (?_)))
        refine aW aH 3 ?_
        refine bC ?_
        exact aJ (aI (⟨rfl, _, (oI h2).symm, _, _, .eq (by kernel_rfl), hO⟩))
      refine cS 4 ?_
      obtain rfl := oI h2
      obtain rfl : _ = rr1 := ho1
      replace h1 : rI l0 d1 bK out8 cD i10 bX dA = some out1 := h1
      exact aJ (aS (aS (bL (aI (⟨rfl, _, _, _, _, .eq (by kernel_rfl), hO, h1⟩)))))
    refine aT aH 1 [] [(13, (eI (0 : Int)))] ?_
    refine bP 2 ?_
    refine aZ (l := [(0, (eL aD l0)), (1, (eI d1)), (2, (eI bK)), (8, (.msl 3 lo20 0 (List.length out8))), (9, (eL (eL aG) cD)), (10, (eI i10)), (11, (eL aE x24)), (12, (eL (eI) ([]))), (13, (eI (0 : Int)))]) ⟨[(0, (eL aD l0)), (1, (eI d1)), (2, (eI bK)), (8, (.msl 3 lo20 0 (List.length out8))), (9, (eL (eL aG) cD)), (10, (eI i10)), (11, (eL aE x24)), (12, (.sl true 0 (fun _ => .bad))), (13, (eI (0 : Int)))], by kernel_rfl, rfl, ⟨aR.refl _, aR.refl _, aR.refl _, aR.refl _, aR.refl _, aR.refl _, aR.refl _, gN, aR.refl _, trivial⟩⟩ ?_
    refine cF (fun T H => ∃ out8 : List aC, ∃ f11 : (List aB), ∃ bX : (List Int), ∃ k13 : Int, ∃ lo54 : Nat, Has T [(0, (eL aD l0)), (1, (eI d1)), (2, (eI bK)), (8, (.msl 3 lo54 0 (List.length out8))), (9, (eL (eL aG) cD)), (10, (eI i10)), (11, (eL aE f11)), (12, (eL (eI) bX)), (13, (eI k13))] ∧ aL ⟨H0, [], []⟩ H [(lo54, 3, List.map aD out8)] ∧ vN l0 d1 bK out8 cD i10 f11 bX k13 = some out1) ?_ ⟨out8, x24, [], (0 : Int), lo20, .eq (by kernel_rfl), hO, h1⟩
    clear hO h1
    rintro T H ⟨out8, f11, bX, k13, lo54, hT, hO, h1⟩
    refine aZ hT ?_
    clear hT
    unfold vN at h1
    obtain ⟨rr1, hl1, h1⟩ := aY h1
    refine bW (by kernel_rfl) (fun (s : List aC × (List Int) × Int) T H => ∃ lo54 : Nat, Has T [(0, (eL aD l0)), (1, (eI d1)), (2, (eI bK)), (8, (.msl 3 lo54 0 (List.length s.1))), (9, (eL (eL aG) cD)), (10, (eI i10)), (11, (eL aE f11)), (12, (eL (eI) s.2.1)), (13, (eI s.2.2))] ∧ aL ⟨H0, [], []⟩ H [(lo54, 3, List.map aD s.1)]) hl1 ⟨lo54, .eq (by kernel_rfl), hO⟩ ?_
    clear hO
    rintro k1 s out2 T H ⟨lo54, hT, hO⟩ h2 ho1
    obtain ⟨out8, bX, k13⟩ := s
    replace h2 : mB l0 d1 bK cD i10 f11 out8 bX k13 = some out2 := h2
    dsimp only at hT
    refine aZ hT ?_
    clear hT
    unfold mB at h2
    refine aO ?_
    refine aT aH 4 [] [(54, (aK (decide (k13 < (lN f11)))))] ?_
    refine bE h2 (fun h2 => ?_) (fun h2 => ?_)
    · refine bH ?_
      refine bD [(0, (eL aD l0)), (1, (eI d1)), (2, (eI bK)), (8, (.msl 3 lo54 0 (List.length out8))), (9, (eL (eL aG) cD)), (10, (eI i10)), (11, (eL aE f11)), (12, (eL (eI) bX)), (13, (eI k13))] ?_
      refine cE (fun T H => ∃ out8 : List aC, ∃ bX : (List Int), ∃ lo56 : Nat, Has T [(0, (eL aD l0)), (1, (eI d1)), (2, (eI bK)), (8, (.msl 3 lo56 0 (List.length out8))), (9, (eL (eL aG) cD)), (10, (eI i10)), (11, (eL aE f11)), (12, (eL (eI) bX)), (13, (eI k13))] ∧ aL ⟨H0, [], []⟩ H [(lo56, 3, List.map aD out8)] ∧ oV l0 d1 bK out8 cD i10 f11 bX k13 = some out2) ?_ ?_
      · clear hO h2
        rintro T H ⟨out8, bX, lo56, hT, hO, h2⟩
        refine aZ hT ?_
        clear hT
        unfold oV at h2
        refine aW aH 3 ?_
        refine bC ?_
        exact aJ (aI (⟨rfl, _, (oI h2).symm, _, .eq (by kernel_rfl), hO⟩))
      refine bP 3 ?_
      refine aO ?_
      refine aW aH 6 ?_
      obtain ⟨c57, h2⟩ := bA h2
      refine nO [0 ≤ k13 ∧ k13 < (lN f11)] ⟨c57, trivial⟩ ?_
      refine bQ [] [(62, (aK (decide ((0 : Int) ≤ ((gD f11 k13).At)))))] ?_
      refine bE h2 (fun h2 => ?_) (fun h2 => ?_)
      · refine aO ?_
        refine aW aH 8 ?_
        obtain ⟨c59, h2⟩ := bA h2
        refine nH 6 [0 ≤ k13 ∧ k13 < (lN f11)] ⟨c59, trivial⟩ ?_
        obtain ⟨x60, hx61, h2⟩ := aY h2
        refine cJ (GW bX ((gD f11 k13).At) _ hx61) hO ?_
        intro H hO
        refine bC ?_
        refine bQ [12, 62] [(12, (eL (eI) x60))] ?_
        refine aO ?_
        refine aW aH 8 ?_
        obtain ⟨c63, h2⟩ := bA h2
        refine nO [0 ≤ k13 ∧ k13 < (lN f11)] ⟨c63, trivial⟩ ?_
        refine bQ [] [(77, (aK (decide ((wR (((gD f11 k13).At) + d1)) < (1125899906842624 : Int)))))] ?_
        refine bE h2 (fun h2 => ?_) (fun h2 => ?_)
        · refine aW aH 10 ?_
          obtain ⟨c65, h2⟩ := bA h2
          refine nH 8 [0 ≤ k13 ∧ k13 < (lN f11)] ⟨c65, trivial⟩ ?_
          obtain ⟨x66, hx67, h2⟩ := aY h2
          refine cJ (GW x60 (wR (((gD f11 k13).At) + d1)) _ hx67) hO ?_
          intro H hO
          refine bC ?_
          exact aJ (aU (aI (⟨rfl, _, _, _, .eq (by kernel_rfl), hO, h2⟩)))
        refine bH ?_
        exact aJ (aU (aI (⟨rfl, _, _, _, .eq (by kernel_rfl), hO, h2⟩)))
      refine bH ?_
      exact aJ (aU (aI (⟨rfl, _, _, _, .eq (by kernel_rfl), hO, h2⟩)))
    refine cS 2 ?_
    obtain rfl := oI h2
    obtain rfl : _ = rr1 := ho1
    replace h1 : rF l0 d1 bK out8 cD i10 f11 bX = some out1 := h1
    exact aJ (aS (aS (bL (aI (⟨rfl, _, _, _, _, .eq (by kernel_rfl), hO, h1⟩)))))
  refine cS 0 ?_
  obtain rfl := oI h1
  obtain rfl : _ = rr0 := ho0
  replace h0 : pE out8 = some r := h0
  exact aJ (aS (aS (bL (aI (⟨rfl, _, _, .eq (by kernel_rfl), hO, h0⟩)))))

theorem PD (a0 : (List aC)) (b1 : (List aC)) (r : Bool) (h0 : tA a0 b1 = some r) : bV Try.prog 16 [(eL aD a0), (eL aD b1)] (aK r) := by
  intro H0
  refine cC Try.func16 ?_
  have hO := aL.start H0
  unfold tA at h0
  refine aT aH 1 [] [] ?_
  refine aO ?_
  refine aT aH 5 [] [(10, (aK (!decide ((lN a0) = (lN b1)))))] ?_
  refine bE h0 (fun h0 => ?_) (fun h0 => ?_)
  · refine bN aH 1 [(4, (aK false))] ?_
    refine bI ?_
    obtain rfl := oI h0
    exact aJ (aP (Q_r hO))
  refine bH ?_
  refine bD [(0, (eL aD a0)), (1, (eL aD b1))] ?_
  refine cE (fun T H => Has T [] ∧ aL ⟨H0, [], []⟩ H [] ∧ rZ  = some r) ?_ ?_
  · clear hO h0
    rintro T H ⟨hT, hO, h0⟩
    refine aZ hT ?_
    clear hT
    unfold rZ at h0
    refine bN aH 1 [(4, (aK true))] ?_
    refine bI ?_
    obtain rfl := oI h0
    exact aJ (Q_r hO)
  refine aT aH 1 [] [(5, (eI (0 : Int)))] ?_
  refine bP 0 ?_
  refine cO [(0, (eL aD a0)), (1, (eL aD b1)), (5, (eI (0 : Int)))] ?_
  refine cF (fun T H => ∃ i5 : Int, Has T [(0, (eL aD a0)), (1, (eL aD b1)), (5, (eI i5))] ∧ aL ⟨H0, [], []⟩ H [] ∧ vI a0 b1 i5 = some r) ?_ ⟨(0 : Int), .eq (by kernel_rfl), hO, h0⟩
  clear hO h0
  rintro T H ⟨i5, hT, hO, h0⟩
  refine aZ hT ?_
  clear hT
  unfold vI at h0
  obtain ⟨rr0, hl0, h0⟩ := aY h0
  refine bW (by kernel_rfl) (fun (s : Int) T H => Has T [(0, (eL aD a0)), (1, (eL aD b1)), (5, (eI s))] ∧ aL ⟨H0, [], []⟩ H []) hl0 ⟨.eq (by kernel_rfl), hO⟩ ?_
  clear hO
  rintro k0 s out1 T H ⟨hT, hO⟩ h1 ho0
  obtain ⟨i5, rfl⟩ : ∃ x, x = s := ⟨_, rfl⟩
  replace h1 : pJ a0 b1 i5 = some out1 := h1
  refine aZ hT ?_
  clear hT
  unfold pJ at h1
  refine aO ?_
  refine aT aH 4 [] [(14, (aK (decide (i5 < (lN a0)))))] ?_
  refine bE h1 (fun h1 => ?_) (fun h1 => ?_)
  · refine bH ?_
    refine bD [(0, (eL aD a0)), (1, (eL aD b1)), (5, (eI i5))] ?_
    refine aO ?_
    refine bP 1 ?_
    refine aO ?_
    obtain ⟨c3, h1⟩ := bA h1
    obtain ⟨c4, h1⟩ := bA h1
    obtain ⟨c5, h1⟩ := bA h1
    obtain ⟨c6, h1⟩ := bA h1
    obtain ⟨c7, h1⟩ := bA h1
    obtain ⟨c8, h1⟩ := bA h1
    obtain ⟨x9, hx10, h1⟩ := aY h1
    refine fD (fH [21, 26, 33, 38, 46, 51]) aH 38 ?_
    refine vE (K := fun T H => Has (lift T) [(0, (eL aD a0)), (1, (eL aD b1)), (5, (eI i5)), (54, (aK (((!decide (((gD a0 i5).At) = ((gD b1 i5).At))) || (!decide (((gD a0 i5).Net) = ((gD b1 i5).Net)))) || (!x9))))] ∧ aL ⟨H0, [], []⟩ H []) ?_ ?_
    · refine cN 12 [0 ≤ i5 ∧ i5 < (lN a0), 0 ≤ i5 ∧ i5 < (lN b1)] ⟨c3, c4, trivial⟩ ?_
      refine qO (t := 28) (e := !decide (((gD a0 i5).At) = ((gD b1 i5).At))) (by kernel_rfl) (fun hg11 => ?_) (fun hg11 => ?_)
      · refine iU ?_
        exact ⟨⟨[(0, (eL aD a0)), (1, (eL aD b1)), (5, (eI i5)), (54, (aK true))], by kernel_rfl, rfl, ⟨aR.refl _, aR.refl _, aR.refl _, aR.eq (by first | (simp only [aK, hg11, Bool.not_true, Bool.not_false, Bool.true_and, Bool.and_true, Bool.false_and, Bool.and_false, Bool.or_true, Bool.true_or, Bool.or_false, Bool.false_or, cond_true, cond_false]; done) | simp [aK, hg11]), trivial⟩⟩, hO⟩
      refine cN 25 [0 ≤ i5 ∧ i5 < (lN a0), 0 ≤ i5 ∧ i5 < (lN b1)] ⟨(c5 (yV hg11)), (c6 (yV hg11)), trivial⟩ ?_
      refine qO (t := 41) (e := !decide (((gD a0 i5).Net) = ((gD b1 i5).Net))) (by kernel_rfl) (fun hg12 => ?_) (fun hg12 => ?_)
      · refine iU ?_
        exact ⟨⟨[(0, (eL aD a0)), (1, (eL aD b1)), (5, (eI i5)), (54, (aK true))], by kernel_rfl, rfl, ⟨aR.refl _, aR.refl _, aR.refl _, aR.eq (by first | (simp only [aK, hg11, hg12, Bool.not_true, Bool.not_false, Bool.true_and, Bool.and_true, Bool.false_and, Bool.and_false, Bool.or_true, Bool.true_or, Bool.or_false, Bool.false_or, cond_true, cond_false]; done) | simp [aK, hg11, hg12]), trivial⟩⟩, hO⟩
      refine cN 35 [0 ≤ i5 ∧ i5 < (lN a0), 0 ≤ i5 ∧ i5 < (lN b1)] ⟨(c7 (yV (PZ hg11 hg12))), (c8 (yV (PZ hg11 hg12))), trivial⟩ ?_
      refine yL 48 [(eL aG ((gD a0 i5).Row)), (eL aG ((gD b1 i5).Row))] (aK x9) (by kernel_rfl) (by kernel_rfl) (BI ((gD a0 i5).Row) ((gD b1 i5).Row) _ (nI hx10 (yV (PZ hg11 hg12)))) hO ?_
      intro H hO
      refine iU ?_
      exact ⟨⟨[(0, (eL aD a0)), (1, (eL aD b1)), (5, (eI i5)), (54, (aK (!x9)))], by kernel_rfl, rfl, ⟨aR.refl _, aR.refl _, aR.refl _, aR.eq (by first | (simp only [aK, hg11, hg12, Bool.not_true, Bool.not_false, Bool.true_and, Bool.and_true, Bool.false_and, Bool.and_false, Bool.or_true, Bool.true_or, Bool.or_false, Bool.false_or, cond_true, cond_false]; done) | simp [aK, hg11, hg12]), trivial⟩⟩, hO⟩
    · rintro T H ⟨hT, hO⟩
      refine cG hT ?_
      clear hT
      refine aJ (aI ?_)
      refine bE h1 (fun h1 => ?_) (fun h1 => ?_)
      · refine bN aH 1 [(4, (aK false))] ?_
        refine bI ?_
        obtain rfl := oI h1
        obtain rfl : _ = rr0 := ho0
        replace h0 : some false = some r := h0
        obtain rfl := oI h0
        exact aJ (bM (aP (aP (bM (aP (Q_r hO))))))
      refine bH ?_
      refine dY [(0, (eL aD a0)), (1, (eL aD b1)), (5, (eI i5))] ?_
      refine aJ (aU (aI (?_)))
      refine aW aH 3 ?_
      refine bC ?_
      exact aJ (aI (⟨rfl, _, (oI h1).symm, .eq (by kernel_rfl), hO⟩))
  refine cS 0 ?_
  obtain rfl := oI h1
  obtain rfl : _ = rr0 := ho0
  replace h0 : rZ  = some r := h0
  exact aJ (aS (aS (bL (aI (⟨rfl, .eq (by kernel_rfl), hO, h0⟩)))))

theorem HL (l0 : (List aC)) (d1 : Int) (bK : Int) (r : Bool) (h0 : pZ l0 d1 bK = some r) : bV Try.prog 3 [(eL aD l0), (eI d1), (eI bK)] (aK r) := by
  intro H0
  refine cC Try.func3 ?_
  have hO := aL.start H0
  unfold pZ at h0
  refine aT aH 1 [] [] ?_
  refine aO ?_
  refine aO ?_
  refine aW aH 3 ?_
  refine bS 1 ?_
  obtain ⟨x1, hx2, h0⟩ := aY h0
  refine cJ (RX l0 _ hx2) hO ?_
  intro H hO
  refine bC ?_
  refine bQ [] [(13, (aK (!x1)))] ?_
  refine bE h0 (fun h0 => ?_) (fun h0 => ?_)
  · refine aO ?_
    refine aW aH 2 ?_
    obtain ⟨x5, hx6, h0⟩ := aY h0
    refine cJ (FW  _ hx6) hO ?_
    intro H hO
    refine bC ?_
    refine bD [(6, (aK x5))] ?_
    refine bI ?_
    obtain rfl := oI h0
    exact aJ (aP (Q_r hO))
  refine bH ?_
  refine bD [(0, (eL aD l0)), (1, (eI d1)), (2, (eI bK))] ?_
  refine aO ?_
  refine aW aH 9 ?_
  refine bS 3 ?_
  obtain ⟨x8, hx9, h0⟩ := aY h0
  refine cJ (CO l0 d1 bK _ hx9) hO ?_
  intro H hO
  refine bC ?_
  refine bQ [] [(7, (eL aD x8.1)), (8, (eI x8.2))] ?_
  refine aO ?_
  refine aW aH 9 ?_
  refine bS 3 ?_
  obtain ⟨x11, hx12, h0⟩ := aY h0
  refine cJ (QV l0 d1 bK _ hx12) hO ?_
  intro H hO
  refine bC ?_
  refine bQ [0, 1, 2] [(9, (eL aD x11.1)), (10, (eI x11.2))] ?_
  refine aO ?_
  refine aW aH 20 ?_
  obtain ⟨x14, hx15, h0⟩ := aY h0
  refine cJ (FW  _ hx15) hO ?_
  intro H hO
  refine bS 9 ?_
  obtain ⟨x17, hx18, h0⟩ := aY h0
  refine pF [(35, true)] 16 [(eL aD x8.1), (eL aD x11.1)] (aK x17) (x14 && (decide (x8.2 = x11.2))) (by kernel_rfl) (by kernel_rfl) (by kernel_rfl) (fun hb19 => (PD x8.1 x11.1 _ (nI hx18 hb19))) hO ?_
  intro H hO
  refine bS 16 ?_
  obtain ⟨x20, hx21, h0⟩ := aY h0
  refine pF [(43, false), (40, true)] 17 [(eL aD x8.1)] (aK x20) ((!(!decide (x8.2 = (0 : Int)))) && (((x14 && (decide (x8.2 = x11.2))) && x17))) (by kernel_rfl) (by kernel_rfl) (by kernel_rfl) (fun hb22 => (GL x8.1 _ (nI hx21 hb22))) hO ?_
  intro H hO
  refine bC ?_
  refine bD [(6, (aK (((x14 && (decide (x8.2 = x11.2))) && x17) && ((!decide (x8.2 = (0 : Int))) || x20))))] ?_
  refine bI ?_
  obtain rfl := oI h0
  exact aJ (Q_r hO)

end Go.Abs
namespace Go.Abs
open Go Go.RowKit Go.Proofs
theorem FO {H : Type} {enc : TypeId × Value → H} {w : World} : xE enc Try.prog w 60 aG AW :=
  FQ Try.underlying60 (by kernel_rfl) (sF (c' := HN) (ok' := AW) (fun (a : Int) (b : Int × ByteArray × Unit) => (aF.mk a b.1 b.2.1 : aF)) (by kernel_rfl) (CA Try.underlying58) (sF (c' := fun (b : Int × ByteArray × Unit) => (V.cells (wF .i64 b.1) ++ (V.cells (yD b.2.1) ++ []))) (ok' := fun b => (yB b.1 ∧ ((fun s => s.size ≤ maxLen) b.2.1 ∧ True))) (fun a b => (a, b)) (by kernel_rfl) (CA Try.underlying3) (sF (c' := fun (b : ByteArray × Unit) => (V.cells (yD b.1) ++ [])) (ok' := fun b => ((fun s => s.size ≤ maxLen) b.1 ∧ True)) (fun a b => (a, b)) (by kernel_rfl) (PI Try.underlying9) (KC ()) (fun _ _ => rfl) (fun _ _ h1 h2 => ⟨h1, h2⟩)) (fun _ _ => rfl) (fun _ _ h1 h2 => ⟨h1, h2⟩)) (fun _ _ => rfl) (fun _ _ h1 h2 => ⟨h1, h2⟩))

theorem HK {H : Type} {enc : TypeId × Value → H} {w : World} : xE enc Try.prog w 36 aD uX :=
  FQ Try.underlying36 (by kernel_rfl) (sF (c' := JE) (ok' := uX) (fun (a : (List aF)) (b : Int × Int × Unit) => (aC.mk a b.1 b.2.1 : aC)) (by kernel_rfl) (SX Try.underlying34 (by decide +kernel) (fun _ => by kernel_rfl) (fun _ => rfl) FO (by kernel_rfl)) (sF (c' := fun (b : Int × Int × Unit) => (V.cells (wF .i64 b.1) ++ (V.cells (wF .i64 b.2.1) ++ []))) (ok' := fun b => (yB b.1 ∧ (yB b.2.1 ∧ True))) (fun a b => (a, b)) (by kernel_rfl) (CA Try.underlying3) (sF (c' := fun (b : Int × Unit) => (V.cells (wF .i64 b.1) ++ [])) (ok' := fun b => (yB b.1 ∧ True)) (fun a b => (a, b)) (by kernel_rfl) (CA Try.underlying3) (KC ()) (fun _ _ => rfl) (fun _ _ h1 h2 => ⟨h1, h2⟩)) (fun _ _ => rfl) (fun _ _ h1 h2 => ⟨h1, h2⟩)) (fun _ _ => rfl) (fun _ _ h1 h2 => ⟨h1, h2⟩))

end Go.Abs
namespace Go.Abs
open Go
theorem fC {n : Int} (h1 : -9223372036854775808 ≤ n) (h2 : n ≤ 9223372036854775807) : IntKind.i64.wrap n = n := by
  simp only [IntKind.wrap, IntKind.bits, IntKind.signed]
  simp
  split <;> omega

def vT {α st R : Type} (step : st → α → Option (st ⊕ R)) (fin : st → R) : st → List α → Option R
  | s, [] => some (fin s)
  | s, a :: r => match step s a with
    | some (.inl s') => vT step fin s' r
    | some (.inr x) => some x
    | none => none

theorem VG {α st R : Type} {step : st → α → Option (st ⊕ R)} {fin : st → R} {s s' : st} {a : α} {r : List α} (h : step s a = some (.inl s')) : vT step fin s (a :: r) = vT step fin s' r := by
  simp only [vT, h]

theorem UW {α st R : Type} {step : st → α → Option (st ⊕ R)} {fin : st → R} {s : st} {x : R} {a : α} {r : List α} (h : step s a = some (.inr x)) : vT step fin s (a :: r) = some x := by
  simp only [vT, h]

theorem TK {α S st R : Type} {body : S → Option (S ⊕ R)} {l : List α} (mk : st → Int → S) (step : st → α → Option (st ⊕ R)) (fin : st → R)
    (hn : ∀ (i : Nat) a s, l[i]? = some a → (∀ s', step s a = some (.inl s') → body (mk s i) = some (.inl (mk s' ((i + 1 : Nat) : Int)))) ∧ (∀ x, step s a = some (.inr x) → body (mk s i) = some (.inr x)))
    (he : ∀ s, body (mk s (l.length : Nat)) = some (.inr (fin s))) : ∀ (m k : Nat) (s : st) (r : R), l.length - k = m → k ≤ l.length → vT step fin s (l.drop k) = some r → lp body (mk s k) = some r
  | 0, k, s, r, hm, hk, h => by
    have : k = l.length := by omega
    subst this
    rw [List.drop_length] at h
    simp only [vT, Option.some.injEq] at h
    subst h
    exact cI (he s)
  | m + 1, k, s, r, hm, hk, h => by
    have hlt : k < l.length := by omega
    have hd : l.drop k = l[k] :: l.drop (k + 1) := List.drop_eq_getElem_cons hlt
    rw [hd] at h
    simp only [vT] at h
    obtain ⟨h1, h2⟩ := hn k l[k] s (List.getElem?_eq_getElem hlt)
    split at h
    · rename_i s' hs
      rw [eD (h1 s' hs)]
      exact TK mk step fin hn he m (k + 1) s' r (by omega) (by omega) h
    · rename_i x hs
      simp at h; subst h
      exact cI (h2 x hs)
    · cases h

theorem YM {α S st R : Type} {body : S → Option (S ⊕ R)} {l : List α} (mk : st → Int → S) (step : st → α → Option (st ⊕ R)) (fin : st → R)
    (hn : ∀ (i : Nat) a s, l[i]? = some a → (∀ s', step s a = some (.inl s') → body (mk s i) = some (.inl (mk s' ((i + 1 : Nat) : Int)))) ∧ (∀ x, step s a = some (.inr x) → body (mk s i) = some (.inr x)))
    (he : ∀ s, body (mk s (l.length : Nat)) = some (.inr (fin s))) {s : st} {r : R} (h : vT step fin s l = some r) : lp body (mk s 0) = some r :=
  TK mk step fin hn he _ 0 s r rfl (Nat.zero_le _) (by simpa using h)

theorem idx {α : Type} [Inhabited α] {l : List α} {i : Nat} {a : α} (h : l[i]? = some a) (hl : l.length < 4611686018427387904) :
    decide ((i : Int) < ((l.length : Nat) : Int)) = true ∧ (0 ≤ (i : Int) ∧ (i : Int) < ((l.length : Nat) : Int)) ∧ l.getD (Int.toNat (i : Int)) default = a ∧ IntKind.i64.wrap ((i : Int) + 1) = ((i + 1 : Nat) : Int) := by
  have hlt : i < l.length := (List.getElem?_eq_some_iff.1 h).1
  refine ⟨by simpa using hlt, ⟨by omega, by omega⟩, ?_, ?_⟩
  · rw [Int.toNat_natCast, List.getD_eq_getElem?_getD, h]; rfl
  · rw [fC (by omega) (by omega)]; omega

theorem dP {n : Nat} : decide (((n : Nat) : Int) < ((n : Nat) : Int)) = false := by simp

theorem aBJ {α : Type} {j : α} {r : List α} : (0 : Int) ≤ 0 ∧ (0 : Int) < ((List.length (j :: r) : Nat) : Int) := ⟨by omega, by simp⟩

theorem aBn {α : Type} [Inhabited α] {j : α} {r : List α} : List.getD (j :: r) (Int.toNat (0 : Int)) default = j := rfl

end Go.Abs
namespace Go.Abs
open Go
theorem drop_cons {α : Type} {l r : List α} {a : α} {k : Nat} (h : l.drop k = a :: r) : l[k]? = some a ∧ l.drop (k + 1) = r := by
  have hk : k < l.length := by
    apply Classical.byContradiction; intro hn
    rw [List.drop_eq_nil_of_le (by omega)] at h; cases h
  rw [List.drop_eq_getElem_cons hk] at h
  obtain ⟨h1, h2⟩ := List.cons.inj h
  exact ⟨by rw [List.getElem?_eq_getElem hk, h1], h2⟩

theorem WN {α S st R : Type} {body : S → Option (S ⊕ R)} {l : List α} (mk : st → Int → S) (G : st → List α → R) (Inv : st → List α → Prop)
    (hn : ∀ (i : Nat) a r s, l[i]? = some a → Inv s (a :: r) → (∃ s', body (mk s i) = some (.inl (mk s' ((i + 1 : Nat) : Int))) ∧ Inv s' r ∧ G s' r = G s (a :: r)) ∨ body (mk s i) = some (.inr (G s (a :: r))))
    (he : ∀ s, Inv s [] → body (mk s (l.length : Nat)) = some (.inr (G s []))) : ∀ (r : List α) (k : Nat) (s : st), l.drop k = r → k ≤ l.length → Inv s r → lp body (mk s k) = some (G s r)
  | [], k, s, hd, hk, hi => by
    have : k = l.length := by
      have := congrArg List.length hd
      simp only [List.length_drop, List.length_nil] at this; omega
    subst this
    exact cI (he s hi)
  | a :: r, k, s, hd, hk, hi => by
    obtain ⟨h1, h2⟩ := drop_cons hd
    have hlt : k < l.length := (List.getElem?_eq_some_iff.1 h1).1
    rcases hn k a r s h1 hi with ⟨s', hb, hi', hg⟩ | hb
    · rw [eD hb, WN mk G Inv hn he r (k + 1) s' h2 (by omega) hi', hg]
    · exact cI hb

theorem mK {α S st R : Type} {body : S → Option (S ⊕ R)} {l : List α} (mk : st → Int → S) (G : st → List α → R) (Inv : st → List α → Prop) (s : st)
    (hn : ∀ (i : Nat) a r s, l[i]? = some a → Inv s (a :: r) → (∃ s', body (mk s i) = some (.inl (mk s' ((i + 1 : Nat) : Int))) ∧ Inv s' r ∧ G s' r = G s (a :: r)) ∨ body (mk s i) = some (.inr (G s (a :: r))))
    (he : ∀ s, Inv s [] → body (mk s (l.length : Nat)) = some (.inr (G s []))) (hi : Inv s l) : lp body (mk s 0) = some (G s l) :=
  WN mk G Inv hn he l 0 s rfl (Nat.zero_le _) hi

theorem JY {α S R : Type} {body : S → Option (S ⊕ R)} {l : List α} (mk : Int → S) (bad : α → Bool) (x y : R)
    (hn : ∀ (i : Nat) a, l[i]? = some a → body (mk i) = some (if bad a then .inr x else .inl (mk ((i + 1 : Nat) : Int))))
    (he : body (mk (l.length : Nat)) = some (.inr y)) : lp body (mk 0) = some (if l.any bad then x else y) := by
  refine mK (st := Unit) (fun _ i => mk i) (fun _ r => if r.any bad then x else y) (fun _ _ => True) () ?_ ?_ trivial
  · intro i a r s ha _
    have hb := hn i a ha
    cases h : bad a
    · left; refine ⟨(), ?_, trivial, ?_⟩
      · simpa [h] using hb
      · simp [List.any_cons, h]
    · right; simpa [h, List.any_cons] using hb
  · intro _ _; simpa using he

end Go.Abs
namespace Go.Abs
open Go
noncomputable def zA {α : Type} [Inhabited α] (cmp3 : α → α → Option Int) (aA : List α) (a1 : Int) (b2 : Int) (i8 : Int) : Option ((List α × Int) ⊕ ((List α))) :=
  some (.inl (aA, IntKind.i64.wrap (i8 + (1 : Int))))

noncomputable def kZ {α : Type} [Inhabited α] (cmp3 : α → α → Option Int) (a1 : Int) (b2 : Int) (i8 : Int) (aA : List α) (j9 : Int) : Option ((List α × Int) ⊕ ((List α))) :=
  bB ((((decide (a1 < j9))) = true → 0 ≤ j9 ∧ j9 < ((List.length aA : Nat) : Int))) <|
  bB ((((decide (a1 < j9))) = true → 0 ≤ (IntKind.i64.wrap (j9 - (1 : Int))) ∧ (IntKind.i64.wrap (j9 - (1 : Int))) < ((List.length aA : Nat) : Int))) <|
  (dK (decide (a1 < j9)) (cmp3 (List.getD aA (Int.toNat j9) default) (List.getD aA (Int.toNat (IntKind.i64.wrap (j9 - (1 : Int)))) default))).bind fun x3 =>
  cond ((decide (a1 < j9)) && (decide (x3 < (0 : Int))))
  (bB (0 ≤ (IntKind.i64.wrap (j9 - (1 : Int))) ∧ (IntKind.i64.wrap (j9 - (1 : Int))) < ((List.length aA : Nat) : Int)) <|
  bB (0 ≤ j9 ∧ j9 < ((List.length aA : Nat) : Int)) <|
  bB (0 ≤ j9 ∧ j9 < ((List.length aA : Nat) : Int)) <|
  bB (0 ≤ (IntKind.i64.wrap (j9 - (1 : Int))) ∧ (IntKind.i64.wrap (j9 - (1 : Int))) < ((List.length aA : Nat) : Int)) <|
  some (.inl (List.set (List.set aA (Int.toNat j9) (List.getD aA (Int.toNat (IntKind.i64.wrap (j9 - (1 : Int)))) default)) (Int.toNat (IntKind.i64.wrap (j9 - (1 : Int)))) (List.getD aA (Int.toNat j9) default), IntKind.i64.wrap (j9 - (1 : Int)))))
  (some (.inr aA))

noncomputable def zF {α : Type} [Inhabited α] (cmp3 : α → α → Option Int) (aA : List α) (a1 : Int) (b2 : Int) (i8 : Int) (j9 : Int) : Option ((List α × Int) ⊕ ((List α))) :=
  (lp (fun s => kZ cmp3 a1 b2 i8 s.1 s.2) (aA, j9)).bind (fun rr => zA cmp3 rr a1 b2 i8)

noncomputable def iX {α : Type} [Inhabited α] (cmp3 : α → α → Option Int) (a1 : Int) (b2 : Int) (aA : List α) (i8 : Int) : Option ((List α × Int) ⊕ ((List α))) :=
  cond (decide (i8 < b2))
  (zF cmp3 aA a1 b2 i8 i8)
  (some (.inr aA))

noncomputable def zJ {α : Type} [Inhabited α] (cmp3 : α → α → Option Int) (aA : List α) (a1 : Int) (b2 : Int) (i8 : Int) : Option (List α) :=
  (lp (fun s => iX cmp3 a1 b2 s.1 s.2) (aA, i8)).bind (fun rr => some rr)

noncomputable def mP {α : Type} [Inhabited α] (aA : (List α)) (a1 : Int) (b2 : Int) (cmp3 : α → α → Option Int) : Option (List α) :=
  zJ cmp3 aA a1 b2 (IntKind.i64.wrap (a1 + (1 : Int)))

noncomputable def nY {α : Type} [Inhabited α] (cmp4 : α → α → Option Int) (a1 : Int) (b2 : Int) (n3 : Int) (aA : List α) (i10 : Int) : Option ((List α × Int) ⊕ ((List α))) :=
  cond (decide (i10 < n3))
  (bB (0 ≤ (IntKind.i64.wrap (b2 + i10)) ∧ (IntKind.i64.wrap (b2 + i10)) < ((List.length aA : Nat) : Int)) <|
  bB (0 ≤ (IntKind.i64.wrap (a1 + i10)) ∧ (IntKind.i64.wrap (a1 + i10)) < ((List.length aA : Nat) : Int)) <|
  bB (0 ≤ (IntKind.i64.wrap (a1 + i10)) ∧ (IntKind.i64.wrap (a1 + i10)) < ((List.length aA : Nat) : Int)) <|
  bB (0 ≤ (IntKind.i64.wrap (b2 + i10)) ∧ (IntKind.i64.wrap (b2 + i10)) < ((List.length aA : Nat) : Int)) <|
  some (.inl (List.set (List.set aA (Int.toNat (IntKind.i64.wrap (a1 + i10))) (List.getD aA (Int.toNat (IntKind.i64.wrap (b2 + i10))) default)) (Int.toNat (IntKind.i64.wrap (b2 + i10))) (List.getD aA (Int.toNat (IntKind.i64.wrap (a1 + i10))) default), IntKind.i64.wrap (i10 + (1 : Int)))))
  (some (.inr aA))

noncomputable def DC {α : Type} [Inhabited α] (cmp4 : α → α → Option Int) (aA : List α) (a1 : Int) (b2 : Int) (n3 : Int) (i10 : Int) : Option (List α) :=
  (lp (fun s => nY cmp4 a1 b2 n3 s.1 s.2) (aA, i10)).bind (fun rr => some rr)

noncomputable def sX {α : Type} [Inhabited α] (aA : (List α)) (a1 : Int) (b2 : Int) (n3 : Int) (cmp4 : α → α → Option Int) : Option (List α) :=
  DC cmp4 aA a1 b2 n3 (0 : Int)

noncomputable def CN {α : Type} [Inhabited α] (cmp4 : α → α → Option Int) (aA : List α) (m2 : Int) (i10 : Int) : Option (List α) :=
  (sX aA (IntKind.i64.wrap (m2 - i10)) m2 i10 cmp4).bind fun x1 =>
  some x1

noncomputable def lI {α : Type} [Inhabited α] (cmp4 : α → α → Option Int) (m2 : Int) (aA : List α) (i10 : Int) (j11 : Int) : Option ((List α × Int × Int) ⊕ ((List α × Int))) :=
  cond (!decide (i10 = j11))
  (cond (decide (j11 < i10))
  ((sX aA (IntKind.i64.wrap (m2 - i10)) m2 j11 cmp4).bind fun x4 =>
  some (.inl (x4, IntKind.i64.wrap (i10 - j11), j11)))
  ((sX aA (IntKind.i64.wrap (m2 - i10)) (IntKind.i64.wrap ((IntKind.i64.wrap (m2 + j11)) - i10)) i10 cmp4).bind fun x7 =>
  some (.inl (x7, i10, IntKind.i64.wrap (j11 - i10)))))
  (some (.inr (aA, i10)))

noncomputable def HV {α : Type} [Inhabited α] (cmp4 : α → α → Option Int) (aA : List α) (m2 : Int) (i10 : Int) (j11 : Int) : Option (List α) :=
  (lp (fun s => lI cmp4 m2 s.1 s.2.1 s.2.2) (aA, i10, j11)).bind (fun rr => CN cmp4 rr.1 m2 rr.2)

noncomputable def BX {α : Type} [Inhabited α] (aA : (List α)) (a1 : Int) (m2 : Int) (b3 : Int) (cmp4 : α → α → Option Int) : Option (List α) :=
  HV cmp4 aA m2 (IntKind.i64.wrap (m2 - a1)) (IntKind.i64.wrap (b3 - m2))

noncomputable def zQ {α : Type} [Inhabited α] (cmp4 : α → α → Option Int) (rec : (List α) → Int → Int → Int → Option (List α)) (aA : List α) (b3 : Int) (bR : Int) (dO : Int) : Option (List α) :=
  cond ((decide (bR < dO)) && (decide (dO < b3)))
  ((rec aA bR dO b3).bind fun x2 =>
  some x2)
  (some aA)

noncomputable def pH {α : Type} [Inhabited α] (cmp4 : α → α → Option Int) (rec : (List α) → Int → Int → Int → Option (List α)) (aA : List α) (a1 : Int) (b3 : Int) (bR : Int) (aQ : Int) (dO : Int) : Option (List α) :=
  cond ((decide (a1 < aQ)) && (decide (aQ < bR)))
  ((rec aA a1 aQ bR).bind fun x6 =>
  zQ cmp4 rec x6 b3 bR dO)
  (zQ cmp4 rec aA b3 bR dO)

noncomputable def EU {α : Type} [Inhabited α] (cmp4 : α → α → Option Int) (rec : (List α) → Int → Int → Int → Option (List α)) (aA : List α) (a1 : Int) (m2 : Int) (b3 : Int) (bR : Int) (n19 : Int) (aQ : Int) : Option (List α) :=
  cond ((decide (aQ < m2)) && (decide (m2 < (IntKind.i64.wrap (n19 - aQ)))))
  ((BX aA aQ m2 (IntKind.i64.wrap (n19 - aQ)) cmp4).bind fun x10 =>
  pH cmp4 rec x10 a1 b3 bR aQ (IntKind.i64.wrap (n19 - aQ)))
  (pH cmp4 rec aA a1 b3 bR aQ (IntKind.i64.wrap (n19 - aQ)))

noncomputable def nE {α : Type} [Inhabited α] (cmp4 : α → α → Option Int) (rec : (List α) → Int → Int → Int → Option (List α)) (a1 : Int) (m2 : Int) (b3 : Int) (bR : Int) (n19 : Int) (p22 : Int) (aA : List α) (aQ : Int) (r21 : Int) : Option ((List α × Int × Int) ⊕ ((List α × Int))) :=
  cond (decide (aQ < r21))
  (bB (0 ≤ (1 : Int)) <|
  bB (0 ≤ (IntKind.i64.wrap (p22 - (IntKind.i64.wrap (Int.fdiv (IntKind.u64.wrap (IntKind.i64.wrap (aQ + r21))) (2 ^ (min (Int.toNat (1 : Int)) 64)))))) ∧ (IntKind.i64.wrap (p22 - (IntKind.i64.wrap (Int.fdiv (IntKind.u64.wrap (IntKind.i64.wrap (aQ + r21))) (2 ^ (min (Int.toNat (1 : Int)) 64)))))) < ((List.length aA : Nat) : Int)) <|
  bB (0 ≤ (IntKind.i64.wrap (Int.fdiv (IntKind.u64.wrap (IntKind.i64.wrap (aQ + r21))) (2 ^ (min (Int.toNat (1 : Int)) 64)))) ∧ (IntKind.i64.wrap (Int.fdiv (IntKind.u64.wrap (IntKind.i64.wrap (aQ + r21))) (2 ^ (min (Int.toNat (1 : Int)) 64)))) < ((List.length aA : Nat) : Int)) <|
  (cmp4 (List.getD aA (Int.toNat (IntKind.i64.wrap (p22 - (IntKind.i64.wrap (Int.fdiv (IntKind.u64.wrap (IntKind.i64.wrap (aQ + r21))) (2 ^ (min (Int.toNat (1 : Int)) 64))))))) default) (List.getD aA (Int.toNat (IntKind.i64.wrap (Int.fdiv (IntKind.u64.wrap (IntKind.i64.wrap (aQ + r21))) (2 ^ (min (Int.toNat (1 : Int)) 64))))) default)).bind fun x17 =>
  cond (!(decide (x17 < (0 : Int))))
  (some (.inl (aA, IntKind.i64.wrap ((IntKind.i64.wrap (Int.fdiv (IntKind.u64.wrap (IntKind.i64.wrap (aQ + r21))) (2 ^ (min (Int.toNat (1 : Int)) 64)))) + (1 : Int)), r21)))
  (some (.inl (aA, aQ, IntKind.i64.wrap (Int.fdiv (IntKind.u64.wrap (IntKind.i64.wrap (aQ + r21))) (2 ^ (min (Int.toNat (1 : Int)) 64)))))))
  (some (.inr (aA, aQ)))

noncomputable def EX {α : Type} [Inhabited α] (cmp4 : α → α → Option Int) (rec : (List α) → Int → Int → Int → Option (List α)) (aA : List α) (a1 : Int) (m2 : Int) (b3 : Int) (bR : Int) (n19 : Int) (aQ : Int) (r21 : Int) (p22 : Int) : Option (List α) :=
  (lp (fun s => nE cmp4 rec a1 m2 b3 bR n19 p22 s.1 s.2.1 s.2.2) (aA, aQ, r21)).bind (fun rr => EU cmp4 rec rr.1 a1 m2 b3 bR n19 rr.2)

noncomputable def wB {α : Type} [Inhabited α] (cmp4 : α → α → Option Int) (rec : (List α) → Int → Int → Int → Option (List α)) (aA : List α) (a1 : Int) (m2 : Int) (b3 : Int) (bR : Int) (n19 : Int) (aQ : Int) (r21 : Int) : Option (List α) :=
  EX cmp4 rec aA a1 m2 b3 bR n19 aQ r21 (IntKind.i64.wrap (n19 - (1 : Int)))

noncomputable def wC {α : Type} [Inhabited α] (cmp4 : α → α → Option Int) (rec : (List α) → Int → Int → Int → Option (List α)) (aA : List α) (a1 : Int) (m2 : Int) (b3 : Int) : Option (List α) :=
  bB (0 ≤ (1 : Int)) <|
  cond (decide ((IntKind.i64.wrap (Int.fdiv (IntKind.u64.wrap (IntKind.i64.wrap (a1 + b3))) (2 ^ (min (Int.toNat (1 : Int)) 64)))) < m2))
  (wB cmp4 rec aA a1 m2 b3 (IntKind.i64.wrap (Int.fdiv (IntKind.u64.wrap (IntKind.i64.wrap (a1 + b3))) (2 ^ (min (Int.toNat (1 : Int)) 64)))) (IntKind.i64.wrap ((IntKind.i64.wrap (Int.fdiv (IntKind.u64.wrap (IntKind.i64.wrap (a1 + b3))) (2 ^ (min (Int.toNat (1 : Int)) 64)))) + m2)) (IntKind.i64.wrap ((IntKind.i64.wrap ((IntKind.i64.wrap (Int.fdiv (IntKind.u64.wrap (IntKind.i64.wrap (a1 + b3))) (2 ^ (min (Int.toNat (1 : Int)) 64)))) + m2)) - b3)) (IntKind.i64.wrap (Int.fdiv (IntKind.u64.wrap (IntKind.i64.wrap (a1 + b3))) (2 ^ (min (Int.toNat (1 : Int)) 64)))))
  (wB cmp4 rec aA a1 m2 b3 (IntKind.i64.wrap (Int.fdiv (IntKind.u64.wrap (IntKind.i64.wrap (a1 + b3))) (2 ^ (min (Int.toNat (1 : Int)) 64)))) (IntKind.i64.wrap ((IntKind.i64.wrap (Int.fdiv (IntKind.u64.wrap (IntKind.i64.wrap (a1 + b3))) (2 ^ (min (Int.toNat (1 : Int)) 64)))) + m2)) a1 m2)

noncomputable def FA {α : Type} [Inhabited α] (cmp4 : α → α → Option Int) (rec : (List α) → Int → Int → Int → Option (List α)) (aA : List α) : Option (List α) :=
  some aA

noncomputable def mM {α : Type} [Inhabited α] (cmp4 : α → α → Option Int) (rec : (List α) → Int → Int → Int → Option (List α)) (i14 : Int) (aA : List α) (k17 : Int) : Option ((List α × Int) ⊕ ((List α))) :=
  cond (decide (i14 < k17))
  (bB (0 ≤ (IntKind.i64.wrap (k17 - (1 : Int))) ∧ (IntKind.i64.wrap (k17 - (1 : Int))) < ((List.length aA : Nat) : Int)) <|
  bB (0 ≤ k17 ∧ k17 < ((List.length aA : Nat) : Int)) <|
  bB (0 ≤ k17 ∧ k17 < ((List.length aA : Nat) : Int)) <|
  bB (0 ≤ (IntKind.i64.wrap (k17 - (1 : Int))) ∧ (IntKind.i64.wrap (k17 - (1 : Int))) < ((List.length aA : Nat) : Int)) <|
  some (.inl (List.set (List.set aA (Int.toNat k17) (List.getD aA (Int.toNat (IntKind.i64.wrap (k17 - (1 : Int)))) default)) (Int.toNat (IntKind.i64.wrap (k17 - (1 : Int)))) (List.getD aA (Int.toNat k17) default), IntKind.i64.wrap (k17 - (1 : Int)))))
  (some (.inr aA))

noncomputable def CZ {α : Type} [Inhabited α] (cmp4 : α → α → Option Int) (rec : (List α) → Int → Int → Int → Option (List α)) (aA : List α) (i14 : Int) (k17 : Int) : Option (List α) :=
  (lp (fun s => mM cmp4 rec i14 s.1 s.2) (aA, k17)).bind (fun rr => FA cmp4 rec rr)

noncomputable def EY {α : Type} [Inhabited α] (cmp4 : α → α → Option Int) (rec : (List α) → Int → Int → Int → Option (List α)) (aA : List α) (m2 : Int) (i14 : Int) : Option (List α) :=
  CZ cmp4 rec aA i14 m2

noncomputable def mN {α : Type} [Inhabited α] (cmp4 : α → α → Option Int) (rec : (List α) → Int → Int → Int → Option (List α)) (m2 : Int) (aA : List α) (i14 : Int) (j15 : Int) : Option ((List α × Int × Int) ⊕ ((List α × Int))) :=
  cond (decide (i14 < j15))
  (bB (0 ≤ (1 : Int)) <|
  bB (0 ≤ m2 ∧ m2 < ((List.length aA : Nat) : Int)) <|
  bB (0 ≤ (IntKind.i64.wrap (Int.fdiv (IntKind.u64.wrap (IntKind.i64.wrap (i14 + j15))) (2 ^ (min (Int.toNat (1 : Int)) 64)))) ∧ (IntKind.i64.wrap (Int.fdiv (IntKind.u64.wrap (IntKind.i64.wrap (i14 + j15))) (2 ^ (min (Int.toNat (1 : Int)) 64)))) < ((List.length aA : Nat) : Int)) <|
  (cmp4 (List.getD aA (Int.toNat m2) default) (List.getD aA (Int.toNat (IntKind.i64.wrap (Int.fdiv (IntKind.u64.wrap (IntKind.i64.wrap (i14 + j15))) (2 ^ (min (Int.toNat (1 : Int)) 64))))) default)).bind fun x31 =>
  cond (!(decide (x31 < (0 : Int))))
  (some (.inl (aA, IntKind.i64.wrap ((IntKind.i64.wrap (Int.fdiv (IntKind.u64.wrap (IntKind.i64.wrap (i14 + j15))) (2 ^ (min (Int.toNat (1 : Int)) 64)))) + (1 : Int)), j15)))
  (some (.inl (aA, i14, IntKind.i64.wrap (Int.fdiv (IntKind.u64.wrap (IntKind.i64.wrap (i14 + j15))) (2 ^ (min (Int.toNat (1 : Int)) 64)))))))
  (some (.inr (aA, i14)))

noncomputable def DK {α : Type} [Inhabited α] (cmp4 : α → α → Option Int) (rec : (List α) → Int → Int → Int → Option (List α)) (aA : List α) (m2 : Int) (i14 : Int) (j15 : Int) : Option (List α) :=
  (lp (fun s => mN cmp4 rec m2 s.1 s.2.1 s.2.2) (aA, i14, j15)).bind (fun rr => EY cmp4 rec rr.1 m2 rr.2)

noncomputable def zL {α : Type} [Inhabited α] (cmp4 : α → α → Option Int) (rec : (List α) → Int → Int → Int → Option (List α)) (aA : List α) (a1 : Int) (m2 : Int) (b3 : Int) : Option (List α) :=
  cond (decide ((IntKind.i64.wrap (b3 - m2)) = (1 : Int)))
  (DK cmp4 rec aA m2 a1 m2)
  (wC cmp4 rec aA a1 m2 b3)

noncomputable def DA {α : Type} [Inhabited α] (cmp4 : α → α → Option Int) (rec : (List α) → Int → Int → Int → Option (List α)) (aA : List α) : Option (List α) :=
  some aA

noncomputable def mO {α : Type} [Inhabited α] (cmp4 : α → α → Option Int) (rec : (List α) → Int → Int → Int → Option (List α)) (i10 : Int) (aA : List α) (k13 : Int) : Option ((List α × Int) ⊕ ((List α))) :=
  cond (decide (k13 < (IntKind.i64.wrap (i10 - (1 : Int)))))
  (bB (0 ≤ (IntKind.i64.wrap (k13 + (1 : Int))) ∧ (IntKind.i64.wrap (k13 + (1 : Int))) < ((List.length aA : Nat) : Int)) <|
  bB (0 ≤ k13 ∧ k13 < ((List.length aA : Nat) : Int)) <|
  bB (0 ≤ k13 ∧ k13 < ((List.length aA : Nat) : Int)) <|
  bB (0 ≤ (IntKind.i64.wrap (k13 + (1 : Int))) ∧ (IntKind.i64.wrap (k13 + (1 : Int))) < ((List.length aA : Nat) : Int)) <|
  some (.inl (List.set (List.set aA (Int.toNat k13) (List.getD aA (Int.toNat (IntKind.i64.wrap (k13 + (1 : Int)))) default)) (Int.toNat (IntKind.i64.wrap (k13 + (1 : Int)))) (List.getD aA (Int.toNat k13) default), IntKind.i64.wrap (k13 + (1 : Int)))))
  (some (.inr aA))

noncomputable def DE {α : Type} [Inhabited α] (cmp4 : α → α → Option Int) (rec : (List α) → Int → Int → Int → Option (List α)) (aA : List α) (i10 : Int) (k13 : Int) : Option (List α) :=
  (lp (fun s => mO cmp4 rec i10 s.1 s.2) (aA, k13)).bind (fun rr => DA cmp4 rec rr)

noncomputable def DL {α : Type} [Inhabited α] (cmp4 : α → α → Option Int) (rec : (List α) → Int → Int → Int → Option (List α)) (aA : List α) (a1 : Int) (i10 : Int) : Option (List α) :=
  DE cmp4 rec aA i10 a1

noncomputable def mL {α : Type} [Inhabited α] (cmp4 : α → α → Option Int) (rec : (List α) → Int → Int → Int → Option (List α)) (a1 : Int) (aA : List α) (i10 : Int) (j11 : Int) : Option ((List α × Int × Int) ⊕ ((List α × Int))) :=
  cond (decide (i10 < j11))
  (bB (0 ≤ (1 : Int)) <|
  bB (0 ≤ (IntKind.i64.wrap (Int.fdiv (IntKind.u64.wrap (IntKind.i64.wrap (i10 + j11))) (2 ^ (min (Int.toNat (1 : Int)) 64)))) ∧ (IntKind.i64.wrap (Int.fdiv (IntKind.u64.wrap (IntKind.i64.wrap (i10 + j11))) (2 ^ (min (Int.toNat (1 : Int)) 64)))) < ((List.length aA : Nat) : Int)) <|
  bB (0 ≤ a1 ∧ a1 < ((List.length aA : Nat) : Int)) <|
  (cmp4 (List.getD aA (Int.toNat (IntKind.i64.wrap (Int.fdiv (IntKind.u64.wrap (IntKind.i64.wrap (i10 + j11))) (2 ^ (min (Int.toNat (1 : Int)) 64))))) default) (List.getD aA (Int.toNat a1) default)).bind fun x45 =>
  cond (decide (x45 < (0 : Int)))
  (some (.inl (aA, IntKind.i64.wrap ((IntKind.i64.wrap (Int.fdiv (IntKind.u64.wrap (IntKind.i64.wrap (i10 + j11))) (2 ^ (min (Int.toNat (1 : Int)) 64)))) + (1 : Int)), j11)))
  (some (.inl (aA, i10, IntKind.i64.wrap (Int.fdiv (IntKind.u64.wrap (IntKind.i64.wrap (i10 + j11))) (2 ^ (min (Int.toNat (1 : Int)) 64)))))))
  (some (.inr (aA, i10)))

noncomputable def DD {α : Type} [Inhabited α] (cmp4 : α → α → Option Int) (rec : (List α) → Int → Int → Int → Option (List α)) (aA : List α) (a1 : Int) (i10 : Int) (j11 : Int) : Option (List α) :=
  (lp (fun s => mL cmp4 rec a1 s.1 s.2.1 s.2.2) (aA, i10, j11)).bind (fun rr => DL cmp4 rec rr.1 a1 rr.2)

noncomputable def dQ {α : Type} [Inhabited α] (cmp4 : α → α → Option Int) (rec : (List α) → Int → Int → Int → Option (List α)) (aA : (List α)) (a1 : Int) (m2 : Int) (b3 : Int) : Option (List α) :=
  cond (decide ((IntKind.i64.wrap (m2 - a1)) = (1 : Int)))
  (DD cmp4 rec aA a1 m2 b3)
  (zL cmp4 rec aA a1 m2 b3)

noncomputable def dV {α : Type} [Inhabited α] (cmp4 : α → α → Option Int) : Nat → (List α) → Int → Int → Int → Option (List α)
  | 0 => fun _ _ _ _ => none
  | k + 1 => dQ cmp4 (dV cmp4 k)

noncomputable def nR {α : Type} [Inhabited α] (aA : (List α)) (a1 : Int) (m2 : Int) (b3 : Int) (cmp4 : α → α → Option Int) : Option (List α) := JA (fun k => dV cmp4 k aA a1 m2 b3)

noncomputable def yN {α : Type} [Inhabited α] (cmp2 : α → α → Option Int) (aA : List α) (n1 : Int) (aN : Int) : Option ((List α × Int) ⊕ ((List α))) :=
  some (.inl (aA, IntKind.i64.wrap (aN * (2 : Int))))

noncomputable def vB {α : Type} [Inhabited α] (cmp2 : α → α → Option Int) (aA : List α) (n1 : Int) (aN : Int) (a7 : Int) : Option ((List α × Int) ⊕ ((List α))) :=
  cond (decide ((IntKind.i64.wrap (a7 + aN)) < n1))
  ((nR aA a7 (IntKind.i64.wrap (a7 + aN)) n1 cmp2).bind fun x4 =>
  yN cmp2 x4 n1 aN)
  (yN cmp2 aA n1 aN)

noncomputable def lH {α : Type} [Inhabited α] (cmp2 : α → α → Option Int) (n1 : Int) (aN : Int) (aA : List α) (a7 : Int) (b8 : Int) : Option ((List α × Int × Int) ⊕ ((List α × Int))) :=
  cond (decide (b8 ≤ n1))
  ((nR aA a7 (IntKind.i64.wrap (a7 + aN)) b8 cmp2).bind fun x8 =>
  some (.inl (x8, b8, IntKind.i64.wrap (b8 + (IntKind.i64.wrap ((2 : Int) * aN))))))
  (some (.inr (aA, a7)))

noncomputable def uS {α : Type} [Inhabited α] (cmp2 : α → α → Option Int) (aA : List α) (n1 : Int) (aN : Int) (a7 : Int) (b8 : Int) : Option ((List α × Int) ⊕ ((List α))) :=
  (lp (fun s => lH cmp2 n1 aN s.1 s.2.1 s.2.2) (aA, a7, b8)).bind (fun rr => vB cmp2 rr.1 n1 aN rr.2)

noncomputable def iY {α : Type} [Inhabited α] (cmp2 : α → α → Option Int) (n1 : Int) (aA : List α) (aN : Int) : Option ((List α × Int) ⊕ ((List α))) :=
  cond (decide (aN < n1))
  (uS cmp2 aA n1 aN (0 : Int) (IntKind.i64.wrap ((2 : Int) * aN)))
  (some (.inr aA))

noncomputable def yR {α : Type} [Inhabited α] (cmp2 : α → α → Option Int) (aA : List α) (n1 : Int) (aN : Int) : Option (List α) :=
  (lp (fun s => iY cmp2 n1 s.1 s.2) (aA, aN)).bind (fun rr => some rr)

noncomputable def yS {α : Type} [Inhabited α] (cmp2 : α → α → Option Int) (aA : List α) (n1 : Int) (aN : Int) (a7 : Int) : Option (List α) :=
  (mP aA a7 n1 cmp2).bind fun x1 =>
  yR cmp2 x1 n1 aN

noncomputable def lF {α : Type} [Inhabited α] (cmp2 : α → α → Option Int) (n1 : Int) (aN : Int) (aA : List α) (a7 : Int) (b8 : Int) : Option ((List α × Int × Int) ⊕ ((List α × Int))) :=
  cond (decide (b8 ≤ n1))
  ((mP aA a7 b8 cmp2).bind fun x13 =>
  some (.inl (x13, b8, IntKind.i64.wrap (b8 + aN))))
  (some (.inr (aA, a7)))

noncomputable def yM {α : Type} [Inhabited α] (cmp2 : α → α → Option Int) (aA : List α) (n1 : Int) (aN : Int) (a7 : Int) (b8 : Int) : Option (List α) :=
  (lp (fun s => lF cmp2 n1 aN s.1 s.2.1 s.2.2) (aA, a7, b8)).bind (fun rr => yS cmp2 rr.1 n1 aN rr.2)

noncomputable def wN {α : Type} [Inhabited α] (aA : (List α)) (n1 : Int) (cmp2 : α → α → Option Int) : Option (List α) :=
  yM cmp2 aA n1 (20 : Int) (0 : Int) (20 : Int)

end Go.Abs
namespace Go.Abs
open Go
variable {α : Type} [Inhabited α]
structure Cmp {β : Type} (ok : β → Prop) (le : β → β → Prop) (cmp : β → β → Option Int) : Prop where
  ans : ∀ x y, ok x → ok y → ∃ v, cmp x y = some v ∧ (v < 0 ↔ ¬ le y x)
  trans : ∀ x y z, ok x → ok y → ok z → le x y → le y z → le x z
  total : ∀ x y, ok x → ok y → le x y ∨ le y x

abbrev Srt {β : Type} (le : β → β → Prop) (l : List β) : Prop := l.Pairwise le

abbrev Oks {β : Type} (ok : β → Prop) (l : List β) : Prop := ∀ x ∈ l, ok x

theorem ZE {Q R : List α} {x : α} : (Q ++ x :: R).getD Q.length default = x := by simp [List.getD_eq_getElem?_getD]

theorem aAP {β : Type} {Q R : List β} {x y : β} : (Q ++ x :: R).set Q.length y = Q ++ y :: R := by simp

theorem oZ {Q R d : List α} {x : α} {n : Nat} (hd : d = Q ++ x :: R) (hn : n = Q.length) : d.getD n default = x := by subst hd; subst hn; exact ZE

theorem DJ {β : Type} {Q R d : List β} {x y : β} {n : Nat} (hd : d = Q ++ x :: R) (hn : n = Q.length) : d.set n y = Q ++ y :: R := by subst hd; subst hn; exact aAP

theorem wr {n : Int} (h1 : -1099511627776 ≤ n) (h2 : n ≤ 8796093022208) : IntKind.i64.wrap n = n := fC (by omega) (by omega)

theorem PK {β : Type} {Q M R d : List β} {x y : β} {a b : Nat} (hd : d = Q ++ x :: (M ++ y :: R)) (ha : a = Q.length) (hb : b = Q.length + 1 + M.length) : (d.set a y).set b x = Q ++ y :: (M ++ x :: R) := by
  rw [DJ hd ha, DJ (Q := Q ++ y :: M) (x := y) (R := R) (by simp) (by simp; omega)]
  simp

section ins
variable {ok : α → Prop} {le : α → α → Prop} {cmp : α → α → Option Int}
theorem EZ {A T : List α} {x : α} {a b i : Int} {P : List α} (ha : a = (P.length : Nat)) (hl : (P ++ A ++ x :: T).length ≤ 1099511627776)
    (hs : A = [] ∨ ∃ A' y v, A = A' ++ [y] ∧ cmp x y = some v ∧ ¬ v < 0) : kZ cmp a b i (P ++ A ++ x :: T) ((P.length + A.length : Nat) : Int) = some (.inr (P ++ A ++ x :: T)) := by
  simp only [List.length_append, List.length_cons] at hl
  unfold kZ
  rcases hs with rfl | ⟨A', y, v, rfl, hc, hv⟩
  · have h : decide (a < ((P.length + ([] : List α).length : Nat) : Int)) = false := by subst ha; simp
    rw [h, aV (fun h => by cases h), aV (fun h => by cases h)]
    simp [dK]
  · simp only [List.length_append, List.length_cons, List.length_nil] at hl ⊢
    have h : decide (a < ((P.length + (A'.length + (0 + 1)) : Nat) : Int)) = true := by subst ha; simp; omega
    have hw : IntKind.i64.wrap (((P.length + (A'.length + (0 + 1)) : Nat) : Int) - 1) = ((P.length + A'.length : Nat) : Int) := by rw [wr (by omega) (by omega)]; omega
    have g1 : (P ++ (A' ++ [y]) ++ x :: T).getD (P.length + (A'.length + (0 + 1))) default = x := oZ (Q := P ++ (A' ++ [y])) rfl (by simp)
    have g2 : (P ++ (A' ++ [y]) ++ x :: T).getD (P.length + A'.length) default = y := oZ (Q := P ++ A') (R := x :: T) (by simp) (by simp)
    rw [h, hw, aV (fun _ => ⟨by omega, by omega⟩), aV (fun _ => ⟨by omega, by omega⟩)]
    rw [Int.toNat_natCast, Int.toNat_natCast, g1, g2]
    simp [dK, hc, hv]

theorem SU {A T : List α} {x y : α} {v : Int} {a b i : Int} {P : List α} (ha : a = (P.length : Nat)) (hl : (P ++ (A ++ [y]) ++ x :: T).length ≤ 1099511627776)
    (hc : cmp x y = some v) (hv : v < 0) : kZ cmp a b i (P ++ (A ++ [y]) ++ x :: T) ((P.length + (A ++ [y]).length : Nat) : Int) = some (.inl (P ++ A ++ x :: (y :: T), ((P.length + A.length : Nat) : Int))) := by
  simp only [List.length_append, List.length_cons, List.length_nil] at hl ⊢
  unfold kZ
  have h : decide (a < ((P.length + (A.length + (0 + 1)) : Nat) : Int)) = true := by subst ha; simp; omega
  have hw : IntKind.i64.wrap (((P.length + (A.length + (0 + 1)) : Nat) : Int) - 1) = ((P.length + A.length : Nat) : Int) := by rw [wr (by omega) (by omega)]; omega
  have g1 : (P ++ (A ++ [y]) ++ x :: T).getD (P.length + (A.length + (0 + 1))) default = x := oZ (Q := P ++ (A ++ [y])) rfl (by simp)
  have g2 : (P ++ (A ++ [y]) ++ x :: T).getD (P.length + A.length) default = y := oZ (Q := P ++ A) (R := x :: T) (by simp) (by simp)
  have hs : ((P ++ (A ++ [y]) ++ x :: T).set (P.length + (A.length + (0 + 1))) y).set (P.length + A.length) x = P ++ A ++ x :: (y :: T) := by
    rw [DJ (Q := P ++ (A ++ [y])) (x := x) (R := T) rfl (by simp), DJ (Q := P ++ A) (x := y) (R := y :: T) (by simp) (by simp)]
  have b1 : 0 ≤ ((P.length + (A.length + (0 + 1)) : Nat) : Int) ∧ ((P.length + (A.length + (0 + 1)) : Nat) : Int) < ((List.length (P ++ (A ++ [y]) ++ x :: T) : Nat) : Int) := ⟨by omega, by simp only [List.length_append, List.length_cons, List.length_nil]; omega⟩
  have b2 : 0 ≤ ((P.length + A.length : Nat) : Int) ∧ ((P.length + A.length : Nat) : Int) < ((List.length (P ++ (A ++ [y]) ++ x :: T) : Nat) : Int) := ⟨by omega, by simp only [List.length_append, List.length_cons, List.length_nil]; omega⟩
  rw [h, hw, aV (fun _ => b1), aV (fun _ => b2), Int.toNat_natCast, Int.toNat_natCast, g1, g2]
  simp only [dK, cond_true, hc, Option.bind_some, Bool.true_and, decide_eq_true hv]
  rw [aV b2, aV b1, aV b1, aV b2, hs]

theorem XP (C : Cmp ok le cmp) {x : α} (hx : ok x) {a b i : Int} {P : List α} (ha : a = (P.length : Nat)) : ∀ (n : Nat) (A B T : List α), A.length = n → Oks ok A → Oks ok B → Srt le (A ++ B) → (∀ y ∈ B, ¬ le y x) → (P ++ A ++ x :: (B ++ T)).length ≤ 1099511627776 →
    ∃ D, D.Perm (A ++ x :: B) ∧ Srt le D ∧ lp (fun s : List α × Int => kZ cmp a b i s.1 s.2) (P ++ A ++ x :: (B ++ T), ((P.length + A.length : Nat) : Int)) = some (P ++ D ++ T) := by
  intro n
  induction n with
  | zero =>
    intro A B T hn _ hB hs hlt hl
    have hA : A = [] := List.length_eq_zero_iff.1 hn
    subst hA
    refine ⟨x :: B, List.Perm.refl _, ?_, ?_⟩
    · refine List.pairwise_cons.2 ⟨fun y hy => ?_, by simpa using hs⟩
      rcases C.total x y hx (hB y hy) with h | h
      · exact h
      · exact absurd h (hlt y hy)
    · rw [cI (EZ ha hl (Or.inl rfl))]; simp
  | succ n ih =>
    intro A B T hn hA hB hs hlt hl
    obtain ⟨A', y, rfl⟩ : ∃ A' y, A = A' ++ [y] := by
      rcases List.eq_nil_or_concat A with h | ⟨A', y, h⟩
      · rw [h] at hn; simp at hn
      · exact ⟨A', y, by simpa using h⟩
    have hy : ok y := hA y (by simp)
    obtain ⟨v, hc, hv⟩ := C.ans x y hx hy
    by_cases hneg : v < 0
    · have hb := SU (i := i) (b := b) ha hl hc hneg
      have hl' : (P ++ A' ++ x :: ((y :: B) ++ T)).length ≤ 1099511627776 := by
        simp only [List.length_append, List.length_cons, List.length_nil] at hl ⊢; omega
      obtain ⟨D, d1, d2, d3⟩ := ih A' (y :: B) T (by simpa using hn) (fun z hz => hA z (by simp [hz])) (fun z hz => by rcases List.mem_cons.1 hz with rfl | hz; exact hy; exact hB z hz) (by simpa using hs)
        (fun z hz => by rcases List.mem_cons.1 hz with rfl | hz; exact hv.1 hneg; exact hlt z hz) hl'
      refine ⟨D, d1.trans ?_, d2, ?_⟩
      · simp only [List.append_assoc, List.singleton_append]
        exact List.Perm.append_left _ (List.Perm.swap ..)
      · rw [eD hb]; simpa using d3
    · refine ⟨A' ++ [y] ++ x :: B, List.Perm.refl _, ?_, ?_⟩
      · have hyx : le y x := Classical.byContradiction fun h => hneg (hv.2 h)
        simp only [Srt, List.pairwise_append] at hs ⊢
        obtain ⟨s1, s2, s3⟩ := hs
        refine ⟨s1, List.pairwise_cons.2 ⟨fun z hz => ?_, s2⟩, ?_⟩
        · rcases C.total x z hx (hB z hz) with h | h
          · exact h
          · exact absurd h (hlt z hz)
        · intro z hz w hw
          rcases List.mem_cons.1 hw with rfl | hw
          · rcases List.mem_append.1 hz with hz' | hz'
            · exact C.trans z y w (hA z hz) hy hx (s1.2.2 z hz' y (by simp)) hyx
            · rw [List.mem_singleton] at hz'; subst hz'; exact hyx
          · exact s3 z hz w hw
      · rw [cI (EZ ha hl (Or.inr ⟨A', y, v, rfl, hc, hneg⟩))]
        simp

theorem MO (C : Cmp ok le cmp) {a b : Int} {P : List α} (ha : a = (P.length : Nat)) : ∀ (B A T : List α), Oks ok A → Oks ok B → Srt le A → b = ((P.length + A.length + B.length : Nat) : Int) → (P ++ A ++ (B ++ T)).length ≤ 1099511627776 →
    ∃ D, D.Perm (A ++ B) ∧ Srt le D ∧ lp (fun s : List α × Int => iX cmp a b s.1 s.2) (P ++ A ++ (B ++ T), ((P.length + A.length : Nat) : Int)) = some (P ++ D ++ T)
  | [], A, T, _, _, hs, hb, _ => by
    refine ⟨A, by simp, hs, cI ?_⟩
    have : decide (((P.length + A.length : Nat) : Int) < b) = false := by subst hb; simp
    simp only [iX, this, cond_false, List.nil_append]
  | x :: B, A, T, hA, hB, hs, hb, hl => by
    obtain ⟨D, d1, d2, d3⟩ := XP C (hB x (by simp)) (b := b) (i := ((P.length + A.length : Nat) : Int)) ha A.length A [] (B ++ T) rfl hA (by intro z hz; simp at hz) (by simpa using hs) (by simp) (by simpa using hl)
    have hD : D.length = A.length + 1 := by rw [d1.length_eq]; simp
    have hlt : decide (((P.length + A.length : Nat) : Int) < b) = true := by subst hb; simp; omega
    have hbod : (fun s : List α × Int => iX cmp a b s.1 s.2) (P ++ A ++ (x :: B ++ T), ((P.length + A.length : Nat) : Int)) = some (.inl (P ++ D ++ (B ++ T), ((P.length + D.length : Nat) : Int))) := by
      show iX cmp a b _ _ = _
      simp only [iX, hlt, cond_true, zF]
      rw [show P ++ A ++ (x :: B ++ T) = P ++ A ++ x :: ([] ++ (B ++ T)) by simp, d3]
      simp only [Option.bind_some, zA]
      rw [wr (by omega) (by simp only [List.length_append, List.length_cons] at hl; omega), hD]
      congr 1
    have hl' : (P ++ D ++ (B ++ T)).length ≤ 1099511627776 := by simp only [List.length_append, List.length_cons] at hl ⊢; omega
    obtain ⟨E, e1, e2, e3⟩ := MO C (b := b) ha B D T (fun z hz => by
      have := d1.mem_iff.1 hz
      rcases List.mem_append.1 this with h | h
      · exact hA z h
      · rw [List.mem_singleton] at h; subst h; exact hB z (by simp)) (fun z hz => hB z (by simp [hz])) d2 (by rw [hb]; simp only [List.length_cons]; congr 1; omega) hl'
    refine ⟨E, e1.trans ?_, e2, by rw [eD hbod]; exact e3⟩
    have := d1.append_right B
    simpa using this

theorem WH (C : Cmp ok le cmp) {P A T : List α} {a b : Int} (ha : a = (P.length : Nat)) (hb : b = ((P.length + A.length : Nat) : Int)) (hA : Oks ok A) (hl : (P ++ A ++ T).length ≤ 1099511627776) :
    ∃ D, D.Perm A ∧ Srt le D ∧ mP (P ++ A ++ T) a b cmp = some (P ++ D ++ T) := by
  unfold mP zJ
  simp only [List.length_append] at hl
  cases A with
  | nil =>
    refine ⟨[], List.Perm.refl _, List.Pairwise.nil, ?_⟩
    rw [cI (r := P ++ [] ++ T)]
    · rfl
    · have : decide (IntKind.i64.wrap (a + 1) < b) = false := by
        rw [wr (by omega) (by omega)]; subst ha; subst hb; simp; omega
      simp only [iX, this, cond_false]
  | cons x A =>
    simp only [List.length_cons] at hl
    have hw : IntKind.i64.wrap (a + 1) = ((P.length + [x].length : Nat) : Int) := by rw [wr (by omega) (by omega)]; subst ha; simp
    obtain ⟨D, d1, d2, d3⟩ := MO C (b := b) ha A [x] T (fun z hz => by rw [List.mem_singleton] at hz; subst hz; exact hA z (by simp)) (fun z hz => hA z (by simp [hz])) (by simp) (by rw [hb]; simp only [List.length_cons, List.length_nil]; congr 1; omega) (by simp only [List.length_append, List.length_cons, List.length_nil]; omega)
    refine ⟨D, by simpa using d1, d2, ?_⟩
    rw [hw, show P ++ x :: A ++ T = P ++ [x] ++ (A ++ T) by simp, d3]
    rfl

end ins
theorem HA {cmp : α → α → Option Int} {a b n : Int} : ∀ (X Y Q Z R : List α) (i : Nat), X.length = Y.length → a + i = (Q.length : Nat) → b + i = ((Q.length + X.length + Z.length : Nat) : Int) → n = ((i + X.length : Nat) : Int) → 0 ≤ a → 0 ≤ b → (Q ++ X ++ Z ++ Y ++ R).length ≤ 1099511627776 →
    lp (fun s : List α × Int => nY cmp a b n s.1 s.2) (Q ++ X ++ Z ++ Y ++ R, ((i : Nat) : Int)) = some (Q ++ Y ++ Z ++ X ++ R)
  | [], Y, Q, Z, R, i, hxy, ha, hb, hn, _, _, hl => by
    have : Y = [] := List.length_eq_zero_iff.1 hxy.symm
    subst this
    refine cI ?_
    have : decide (((i : Nat) : Int) < n) = false := by subst hn; simp
    simp only [nY, this, cond_false]
  | x :: X, [], Q, Z, R, i, hxy, _, _, _, _, _, _ => by simp at hxy
  | x :: X, y :: Y, Q, Z, R, i, hxy, ha, hb, hn, ha0, hb0, hl => by
    simp only [List.length_append, List.length_cons] at hl hb hn hxy
    have hlt : decide (((i : Nat) : Int) < n) = true := by subst hn; simp; omega
    have wa : IntKind.i64.wrap (a + i) = ((Q.length : Nat) : Int) := by rw [wr (by omega) (by omega)]; exact ha
    have wb : IntKind.i64.wrap (b + i) = ((Q.length + 1 + (X ++ Z).length : Nat) : Int) := by rw [wr (by omega) (by omega), hb]; simp only [List.length_append]; congr 1; omega
    have wi : IntKind.i64.wrap (((i : Nat) : Int) + 1) = ((i + 1 : Nat) : Int) := by rw [wr (by omega) (by omega)]; omega
    have hd : Q ++ x :: X ++ Z ++ y :: Y ++ R = Q ++ x :: ((X ++ Z) ++ y :: (Y ++ R)) := by simp
    have b1 : 0 ≤ ((Q.length : Nat) : Int) ∧ ((Q.length : Nat) : Int) < ((List.length (Q ++ x :: X ++ Z ++ y :: Y ++ R) : Nat) : Int) := ⟨by omega, by simp only [List.length_append, List.length_cons]; omega⟩
    have b2 : 0 ≤ ((Q.length + 1 + (X ++ Z).length : Nat) : Int) ∧ ((Q.length + 1 + (X ++ Z).length : Nat) : Int) < ((List.length (Q ++ x :: X ++ Z ++ y :: Y ++ R) : Nat) : Int) := ⟨by omega, by simp only [List.length_append, List.length_cons]; omega⟩
    have g1 : (Q ++ x :: X ++ Z ++ y :: Y ++ R).getD Q.length default = x := oZ hd rfl
    have g2 : (Q ++ x :: X ++ Z ++ y :: Y ++ R).getD (Q.length + 1 + (X ++ Z).length) default = y := oZ (Q := Q ++ x :: X ++ Z) (R := Y ++ R) (by simp) (by simp; omega)
    have hbod : (fun s : List α × Int => nY cmp a b n s.1 s.2) (Q ++ x :: X ++ Z ++ y :: Y ++ R, ((i : Nat) : Int)) = some (.inl ((Q ++ [y]) ++ X ++ (Z ++ [x]) ++ Y ++ R, ((i + 1 : Nat) : Int))) := by
      show nY cmp a b n _ _ = _
      simp only [nY, hlt, cond_true, wa, wb, wi, aV b1, aV b2, Int.toNat_natCast, g1, g2]
      rw [PK hd rfl rfl]
      simp
    rw [eD hbod, HA X Y (Q ++ [y]) (Z ++ [x]) R (i + 1) (by omega) (by simp; omega) (by simp; omega) (by rw [hn]; congr 1; omega) ha0 hb0 (by simp only [List.length_append, List.length_cons, List.length_nil]; omega)]
    simp

theorem KT {cmp : α → α → Option Int} {a b n : Int} {X Y Q Z R d : List α} (hd : d = Q ++ X ++ Z ++ Y ++ R) (hxy : X.length = Y.length) (ha : a = (Q.length : Nat)) (hb : b = ((Q.length + X.length + Z.length : Nat) : Int)) (hn : n = (X.length : Nat)) (hl : d.length ≤ 1099511627776) :
    sX d a b n cmp = some (Q ++ Y ++ Z ++ X ++ R) := by
  subst hd
  unfold sX DC
  have := HA (cmp := cmp) (a := a) (b := b) (n := n) X Y Q Z R 0 hxy (by omega) (by omega) (by omega) (by omega) (by omega) hl
  simp only [Int.natCast_zero] at this
  rw [this]; rfl

theorem XI {cmp : α → α → Option Int} {m : Int} : ∀ (n : Nat) (X Y Q R : List α), X.length + Y.length ≤ n → X ≠ [] → Y ≠ [] → m = ((Q.length + X.length : Nat) : Int) → (Q ++ X ++ Y ++ R).length ≤ 1099511627776 →
    (lp (fun s : List α × Int × Int => lI cmp m s.1 s.2.1 s.2.2) (Q ++ X ++ Y ++ R, ((X.length : Nat) : Int), ((Y.length : Nat) : Int))).bind (fun rr => CN cmp rr.1 m rr.2) = some (Q ++ Y ++ X ++ R) := by
  intro n
  induction n with
  | zero => intro X Y Q R hn hX; exact absurd (List.length_eq_zero_iff.1 (by omega)) hX
  | succ n ih =>
    intro X Y Q R hn hX hY hm hl
    have hX' : 0 < X.length := List.length_pos_iff.2 hX
    have hY' : 0 < Y.length := List.length_pos_iff.2 hY
    simp only [List.length_append] at hl
    rcases Nat.lt_trichotomy X.length Y.length with h | h | h
    · -- the second is longer
      obtain ⟨Y1, Y2, rfl, hY2⟩ : ∃ Y1 Y2, Y = Y1 ++ Y2 ∧ Y2.length = X.length := ⟨Y.take (Y.length - X.length), Y.drop (Y.length - X.length), (List.take_append_drop _ _).symm, by rw [List.length_drop]; omega⟩
      simp only [List.length_append] at hn hl h
      have hne : decide (((X.length : Nat) : Int) = (((Y1 ++ Y2).length : Nat) : Int)) = false := by simp only [List.length_append]; simp; omega
      have hlt : decide ((((Y1 ++ Y2).length : Nat) : Int) < ((X.length : Nat) : Int)) = false := by simp only [List.length_append]; simp; omega
      have e1 : IntKind.i64.wrap (m - ((X.length : Nat) : Int)) = ((Q.length : Nat) : Int) := by rw [wr (by omega) (by omega)]; omega
      have e0 : IntKind.i64.wrap (m + (((Y1 ++ Y2).length : Nat) : Int)) = m + (((Y1 ++ Y2).length : Nat) : Int) := by simp only [List.length_append]; exact wr (by omega) (by omega)
      have e2 : IntKind.i64.wrap (m + (((Y1 ++ Y2).length : Nat) : Int) - ((X.length : Nat) : Int)) = ((Q.length + X.length + Y1.length : Nat) : Int) := by simp only [List.length_append]; rw [wr (by omega) (by omega)]; omega
      have e3 : IntKind.i64.wrap ((((Y1 ++ Y2).length : Nat) : Int) - ((X.length : Nat) : Int)) = ((Y1.length : Nat) : Int) := by simp only [List.length_append]; rw [wr (by omega) (by omega)]; omega
      have hbod : (fun s : List α × Int × Int => lI cmp m s.1 s.2.1 s.2.2) (Q ++ X ++ (Y1 ++ Y2) ++ R, ((X.length : Nat) : Int), (((Y1 ++ Y2).length : Nat) : Int)) = some (.inl (Q ++ Y2 ++ Y1 ++ (X ++ R), ((Y2.length : Nat) : Int), ((Y1.length : Nat) : Int))) := by
        show lI cmp m _ _ _ = _
        simp only [lI, hne, Bool.not_false, cond_true, hlt, cond_false, e0, e1, e2, e3]
        rw [KT (X := X) (Y := Y2) (Q := Q) (Z := Y1) (R := R) (by simp) hY2.symm rfl rfl rfl (by simp only [List.length_append]; omega)]
        simp [hY2]
      rw [eD hbod, ih Y2 Y1 Q (X ++ R) (by omega) (fun h => by rw [h] at hY2; simp at hY2; omega) (fun h' => by rw [h'] at h; simp at h; omega) (by rw [hm]; congr 1; omega) (by simp only [List.length_append]; omega)]
      simp
    · -- alike
      have hne : decide (((X.length : Nat) : Int) = ((Y.length : Nat) : Int)) = true := by simp; omega
      rw [cI (r := (Q ++ X ++ Y ++ R, ((X.length : Nat) : Int))) (by show lI cmp m _ _ _ = _; simp only [lI, hne, Bool.not_true, cond_false])]
      simp only [Option.bind_some, CN]
      have e1 : IntKind.i64.wrap (m - ((X.length : Nat) : Int)) = ((Q.length : Nat) : Int) := by rw [wr (by omega) (by omega)]; omega
      rw [e1, KT (X := X) (Y := Y) (Q := Q) (Z := []) (R := R) (by simp) h rfl (by rw [hm]; simp) rfl (by simp only [List.length_append]; omega)]
      simp
    · -- the first is longer
      obtain ⟨X1, X2, rfl, hX1⟩ : ∃ X1 X2, X = X1 ++ X2 ∧ X1.length = Y.length := ⟨X.take Y.length, X.drop Y.length, (List.take_append_drop _ _).symm, by rw [List.length_take]; omega⟩
      simp only [List.length_append] at hn hl h hm
      have hne : decide ((((X1 ++ X2).length : Nat) : Int) = ((Y.length : Nat) : Int)) = false := by simp only [List.length_append]; simp; omega
      have hlt : decide (((Y.length : Nat) : Int) < (((X1 ++ X2).length : Nat) : Int)) = true := by simp only [List.length_append]; simp; omega
      have e1 : IntKind.i64.wrap (m - (((X1 ++ X2).length : Nat) : Int)) = ((Q.length : Nat) : Int) := by simp only [List.length_append]; rw [wr (by omega) (by omega)]; omega
      have e3 : IntKind.i64.wrap ((((X1 ++ X2).length : Nat) : Int) - ((Y.length : Nat) : Int)) = ((X2.length : Nat) : Int) := by simp only [List.length_append]; rw [wr (by omega) (by omega)]; omega
      have hbod : (fun s : List α × Int × Int => lI cmp m s.1 s.2.1 s.2.2) (Q ++ (X1 ++ X2) ++ Y ++ R, (((X1 ++ X2).length : Nat) : Int), ((Y.length : Nat) : Int)) = some (.inl ((Q ++ Y) ++ X2 ++ X1 ++ R, ((X2.length : Nat) : Int), ((X1.length : Nat) : Int))) := by
        show lI cmp m _ _ _ = _
        simp only [lI, hne, Bool.not_false, cond_true, hlt, e1, e3]
        rw [KT (X := X1) (Y := Y) (Q := Q) (Z := X2) (R := R) (by simp) hX1 rfl (by rw [hm]; congr 1; omega) (by rw [hX1]) (by simp only [List.length_append]; omega)]
        simp [hX1]
      rw [eD hbod, ih X2 X1 (Q ++ Y) R (by omega) (fun h' => by rw [h'] at h; simp at h; omega) (fun h => by rw [h] at hX1; simp at hX1; omega) (by rw [hm]; simp only [List.length_append]; congr 1; omega) (by simp only [List.length_append]; omega)]
      simp

theorem aA5 {cmp : α → α → Option Int} {a m b : Int} {X Y Q R d : List α} (hd : d = Q ++ X ++ Y ++ R) (hX : X ≠ []) (hY : Y ≠ []) (ha : a = (Q.length : Nat)) (hm : m = ((Q.length + X.length : Nat) : Int)) (hb : b = ((Q.length + X.length + Y.length : Nat) : Int)) (hl : d.length ≤ 1099511627776) :
    BX d a m b cmp = some (Q ++ Y ++ X ++ R) := by
  subst hd
  unfold BX HV
  have hl' := hl
  simp only [List.length_append] at hl'
  rw [show IntKind.i64.wrap (m - a) = ((X.length : Nat) : Int) by rw [wr (by omega) (by omega)]; omega, show IntKind.i64.wrap (b - m) = ((Y.length : Nat) : Int) by rw [wr (by omega) (by omega)]; omega]
  exact XI _ X Y Q R (Nat.le_refl _) hX hY hm hl

end Go.Abs
namespace Go.Abs
open Go
variable {α : Type} [Inhabited α]
theorem half {s : Nat} (h : s ≤ 4398046511104) : IntKind.i64.wrap (Int.fdiv (IntKind.u64.wrap (IntKind.i64.wrap (s : Int))) (2 ^ (min (Int.toNat (1 : Int)) 64))) = ((s / 2 : Nat) : Int) := by
  rw [wr (n := (s : Int)) (by omega) (by omega)]
  have hu : IntKind.u64.wrap (s : Int) = (s : Int) := by
    simp only [IntKind.wrap, IntKind.bits, IntKind.signed]
    simp
    omega
  have hp : (2 : Int) ^ (min (Int.toNat (1 : Int)) 64) = 2 := by decide
  rw [hu, hp, Int.fdiv_eq_ediv_of_nonneg _ (by omega), wr (by omega) (by omega)]
  omega

theorem EH {P B S d : List α} {n k : Nat} (hd : d = P ++ B ++ S) (hn : n = P.length + k) (hk : k < B.length) : d.getD n default = B.getD k default := by
  subst hd; subst hn
  simp only [List.getD_eq_getElem?_getD]
  rw [List.append_assoc, List.getElem?_append_right (by omega), List.getElem?_append_left (by omega)]
  congr 2; omega

theorem DZ {l : List α} {t : Nat} {y : α} (h : y ∈ l.take t) : ∃ i, i < t ∧ i < l.length ∧ y = l.getD i default := by
  obtain ⟨i, hi, rfl⟩ := List.mem_iff_getElem.1 h
  rw [List.length_take] at hi
  refine ⟨i, by omega, by omega, ?_⟩
  rw [List.getElem_take, List.getD_eq_getElem?_getD, List.getElem?_eq_getElem (by omega)]; rfl

theorem tP {l : List α} {t : Nat} {y : α} (h : y ∈ l.drop t) : ∃ i, t ≤ i ∧ i < l.length ∧ y = l.getD i default := by
  obtain ⟨i, hi, rfl⟩ := List.mem_iff_getElem.1 h
  rw [List.length_drop] at hi
  refine ⟨t + i, by omega, by omega, ?_⟩
  rw [List.getElem_drop, List.getD_eq_getElem?_getD, List.getElem?_eq_getElem (by omega)]; rfl

theorem cW {l : List α} {i : Nat} (h : i < l.length) : l.getD i default ∈ l := by
  rw [List.getD_eq_getElem?_getD, List.getElem?_eq_getElem h]; exact List.getElem_mem h

section sym
variable {ok : α → Prop} {le : α → α → Prop} {cmp : α → α → Option Int}
theorem Cmp.refl {β : Type} {ok : β → Prop} {le : β → β → Prop} {cmp : β → β → Option Int} (C : Cmp ok le cmp) {x : β} (h : ok x) : le x x := by rcases C.total x x h h with h | h <;> exact h

theorem rM (C : Cmp ok le cmp) {l : List α} (ho : Oks ok l) (hs : Srt le l) {i j : Nat} (hij : i ≤ j) (hj : j < l.length) : le (l.getD i default) (l.getD j default) := by
  rcases Nat.lt_or_eq_of_le hij with h | h
  · have := List.pairwise_iff_getElem.1 hs i j (by omega) hj h
    simpa [List.getD_eq_getElem?_getD, List.getElem?_eq_getElem hj, List.getElem?_eq_getElem (show i < l.length by omega)] using this
  · subst h; exact C.refl (ho _ (cW hj))

theorem QY {β : Type} {le : β → β → Prop} {l : List β} (h : Srt le l) (t : Nat) : Srt le (l.take t) := List.Pairwise.sublist (List.take_sublist t l) h

theorem QD {β : Type} {le : β → β → Prop} {l : List β} (h : Srt le l) (t : Nat) : Srt le (l.drop t) := List.Pairwise.sublist (List.drop_sublist t l) h

theorem PT {β : Type} {body : (List β × Int × Int) → Option ((List β × Int × Int) ⊕ (List β × Int))} {d : List β} {f : Nat → Prop} {lo hi : Nat}
    (hb : ∀ i j : Nat, lo ≤ i → i < j → j ≤ hi → ∃ t : Bool, (t = true ↔ f ((i + j) / 2)) ∧ body (d, (i : Int), (j : Int)) = some (.inl (if t then (d, (((i + j) / 2 + 1 : Nat) : Int), (j : Int)) else (d, (i : Int), (((i + j) / 2 : Nat) : Int)))))
    (he : ∀ i : Nat, body (d, (i : Int), (i : Int)) = some (.inr (d, (i : Int)))) :
    ∀ (n i j : Nat), j - i ≤ n → lo ≤ i → i ≤ j → j ≤ hi → (i = lo ∨ f (i - 1)) → (j = hi ∨ ¬ f j) → ∃ s, lo ≤ s ∧ s ≤ hi ∧ (s = lo ∨ f (s - 1)) ∧ (s = hi ∨ ¬ f s) ∧ lp body (d, (i : Int), (j : Int)) = some (d, ((s : Nat) : Int)) := by
  intro n
  induction n with
  | zero =>
    intro i j hn h1 h2 h3 h4 h5
    have : i = j := by omega
    subst this
    exact ⟨i, h1, h3, h4, h5, cI (he i)⟩
  | succ n ih =>
    intro i j hn h1 h2 h3 h4 h5
    by_cases hij : i = j
    · subst hij; exact ⟨i, h1, h3, h4, h5, cI (he i)⟩
    · obtain ⟨t, ht, hbt⟩ := hb i j h1 (by omega) h3
      cases t
      · obtain ⟨s, r1, r2, r3, r4, r5⟩ := ih i ((i + j) / 2) (by omega) h1 (by omega) (by omega) h4 (Or.inr (fun h => by have := ht.2 h; cases this))
        refine ⟨s, r1, r2, r3, r4, ?_⟩
        rw [eD hbt]; exact r5
      · obtain ⟨s, r1, r2, r3, r4, r5⟩ := ih ((i + j) / 2 + 1) j (by omega) (by omega) (by omega) h3 (Or.inr (by simpa using ht.1 rfl)) h5
        refine ⟨s, r1, r2, r3, r4, ?_⟩
        rw [eD hbt]; exact r5

def JX (le : α → α → Prop) (P A B S r : List α) : Prop := ∃ D, D.Perm (A ++ B) ∧ Srt le D ∧ r = P ++ D ++ S

theorem ZZ {cmp : α → α → Option Int} {rec : List α → Int → Int → Int → Option (List α)} {e : Int} {x : α} : ∀ (B Q R : List α) (k : Nat), k = Q.length → e = ((Q.length + B.length + 1 : Nat) : Int) → (Q ++ x :: B ++ R).length ≤ 1099511627776 →
    lp (fun s : List α × Int => mO cmp rec e s.1 s.2) (Q ++ x :: B ++ R, (k : Int)) = some (Q ++ B ++ x :: R)
  | [], Q, R, k, hk, he, hl => by
    simp only [List.length_append, List.length_cons, List.length_nil] at hl he
    refine cI ?_
    show mO cmp rec e _ _ = _
    have : decide ((k : Int) < IntKind.i64.wrap (e - 1)) = false := by rw [wr (by omega) (by omega)]; simp; omega
    simp only [mO, this, cond_false]
    simp
  | y :: B, Q, R, k, hk, he, hl => by
    simp only [List.length_append, List.length_cons] at hl he
    have h1 : decide ((k : Int) < IntKind.i64.wrap (e - 1)) = true := by rw [wr (by omega) (by omega)]; simp; omega
    have hw : IntKind.i64.wrap ((k : Int) + 1) = ((k + 1 : Nat) : Int) := by rw [wr (by omega) (by omega)]; omega
    have b1 : 0 ≤ (k : Int) ∧ (k : Int) < ((List.length (Q ++ x :: y :: B ++ R) : Nat) : Int) := ⟨by omega, by simp only [List.length_append, List.length_cons]; omega⟩
    have b2 : 0 ≤ ((k + 1 : Nat) : Int) ∧ ((k + 1 : Nat) : Int) < ((List.length (Q ++ x :: y :: B ++ R) : Nat) : Int) := ⟨by omega, by simp only [List.length_append, List.length_cons]; omega⟩
    have hd : Q ++ x :: y :: B ++ R = Q ++ x :: ([] ++ y :: (B ++ R)) := by simp
    have g1 : (Q ++ x :: y :: B ++ R).getD k default = x := oZ hd hk
    have g2 : (Q ++ x :: y :: B ++ R).getD (k + 1) default = y := oZ (Q := Q ++ [x]) (R := B ++ R) (by simp) (by simp; omega)
    have hb : (fun s : List α × Int => mO cmp rec e s.1 s.2) (Q ++ x :: y :: B ++ R, (k : Int)) = some (.inl ((Q ++ [y]) ++ x :: B ++ R, ((k + 1 : Nat) : Int))) := by
      show mO cmp rec e _ _ = _
      simp only [mO, h1, cond_true, hw, aV b1, aV b2, Int.toNat_natCast, g1, g2]
      rw [PK (M := []) hd hk (by simp; omega)]
      simp
    rw [eD hb, ZZ B (Q ++ [y]) R (k + 1) (by simp; omega) (by rw [he]; simp only [List.length_append, List.length_cons, List.length_nil]; congr 1; omega) (by simp only [List.length_append, List.length_cons, List.length_nil]; omega)]
    simp

theorem aAt {cmp : α → α → Option Int} {rec : List α → Int → Int → Int → Option (List α)} {e : Int} {x : α} {Q : List α} (he : e = (Q.length : Nat)) : ∀ (n : Nat) (A R : List α) (k : Nat), A.length = n → k = Q.length + A.length → (Q ++ A ++ x :: R).length ≤ 1099511627776 →
    lp (fun s : List α × Int => mM cmp rec e s.1 s.2) (Q ++ A ++ x :: R, (k : Int)) = some (Q ++ x :: A ++ R) := by
  intro n
  induction n with
  | zero =>
    intro A R k hn hk hl
    have hA : A = [] := List.length_eq_zero_iff.1 hn
    subst hA
    refine cI ?_
    show mM cmp rec e _ _ = _
    have : decide (e < (k : Int)) = false := by simp only [List.length_nil] at hk; simp; omega
    simp only [mM, this, cond_false]
    simp
  | succ n ih =>
    intro A R k hn hk hl
    obtain ⟨A', y, rfl⟩ : ∃ A' y, A = A' ++ [y] := by
      rcases List.eq_nil_or_concat A with h | ⟨A', y, h⟩
      · rw [h] at hn; simp at hn
      · exact ⟨A', y, by simpa using h⟩
    simp only [List.length_append, List.length_cons, List.length_nil] at hl hk hn
    have h1 : decide (e < (k : Int)) = true := by simp; omega
    have hw : IntKind.i64.wrap ((k : Int) - 1) = ((Q.length + A'.length : Nat) : Int) := by rw [wr (by omega) (by omega)]; omega
    have b1 : 0 ≤ (k : Int) ∧ (k : Int) < ((List.length (Q ++ (A' ++ [y]) ++ x :: R) : Nat) : Int) := ⟨by omega, by simp only [List.length_append, List.length_cons, List.length_nil]; omega⟩
    have b2 : 0 ≤ ((Q.length + A'.length : Nat) : Int) ∧ ((Q.length + A'.length : Nat) : Int) < ((List.length (Q ++ (A' ++ [y]) ++ x :: R) : Nat) : Int) := ⟨by omega, by simp only [List.length_append, List.length_cons, List.length_nil]; omega⟩
    have g1 : (Q ++ (A' ++ [y]) ++ x :: R).getD k default = x := oZ (Q := Q ++ (A' ++ [y])) rfl (by simp; omega)
    have g2 : (Q ++ (A' ++ [y]) ++ x :: R).getD (Q.length + A'.length) default = y := oZ (Q := Q ++ A') (R := x :: R) (by simp) (by simp)
    have hb : (fun s : List α × Int => mM cmp rec e s.1 s.2) (Q ++ (A' ++ [y]) ++ x :: R, (k : Int)) = some (.inl (Q ++ A' ++ x :: (y :: R), ((Q.length + A'.length : Nat) : Int))) := by
      show mM cmp rec e _ _ = _
      simp only [mM, h1, cond_true, hw, aV b1, aV b2, Int.toNat_natCast, g1, g2]
      rw [DJ (Q := Q ++ (A' ++ [y])) (x := x) (R := R) rfl (by simp; omega), DJ (Q := Q ++ A') (x := y) (R := y :: R) (by simp) (by simp)]
    rw [eD hb, ih A' (y :: R) (Q.length + A'.length) (by omega) rfl (by simp only [List.length_append, List.length_cons]; omega)]
    simp

def UF (cmp : α → α → Option Int) (le : α → α → Prop) (P A B S : List α) (d : List α) (a m b : Int) : Prop :=
  (∃ r, JX le P A B S r ∧ ∀ rec, dQ cmp rec d a m b = some r) ∨
  (∃ A1 A2 B1 B2, A = A1 ++ A2 ∧ B = B1 ++ B2 ∧ 0 < A1.length + B1.length ∧ 0 < A2.length + B2.length ∧ (∀ x ∈ A1 ++ B1, ∀ y ∈ A2 ++ B2, le x y) ∧
    ∀ rec, dQ cmp rec d a m b = (cond (decide (A1 ≠ [] ∧ B1 ≠ [])) (rec (P ++ A1 ++ B1 ++ A2 ++ B2 ++ S) a (a + (A1.length : Nat)) (a + ((A1.length + B1.length : Nat) : Int))) (some (P ++ A1 ++ B1 ++ A2 ++ B2 ++ S))).bind fun x =>
      cond (decide (A2 ≠ [] ∧ B2 ≠ [])) (rec x (a + ((A1.length + B1.length : Nat) : Int)) (a + ((A1.length + B1.length + A2.length : Nat) : Int)) b) (some x))

theorem WA (C : Cmp ok le cmp) {P B S : List α} {x : α} {a m b : Int} (hx : ok x) (hB : Oks ok B) (hs : Srt le B) (ha : a = (P.length : Nat)) (hm : m = ((P.length + 1 : Nat) : Int)) (hb : b = ((P.length + 1 + B.length : Nat) : Int)) (hl : (P ++ x :: B ++ S).length ≤ 1099511627776) :
    ∃ r, JX le P [x] B S r ∧ ∀ rec, dQ cmp rec (P ++ x :: B ++ S) a m b = some r := by
  have hl' := hl
  simp only [List.length_append, List.length_cons] at hl'
  have hgx : (P ++ x :: B ++ S).getD P.length default = x := oZ (Q := P) (R := B ++ S) (by simp) rfl
  have hgb : ∀ k, k < B.length → (P ++ x :: B ++ S).getD (P.length + 1 + k) default = B.getD k default := fun k hk => EH (P := P ++ [x]) (B := B) (S := S) (by simp) (by simp) hk
  have hbin : ∀ rec, ∃ s : Nat, P.length + 1 ≤ s ∧ s ≤ P.length + 1 + B.length ∧ (s = P.length + 1 ∨ ¬ le x (B.getD (s - 1 - (P.length + 1)) default)) ∧ (s = P.length + 1 + B.length ∨ ¬ ¬ le x (B.getD (s - (P.length + 1)) default)) ∧
      lp (fun s : List α × Int × Int => mL cmp rec a s.1 s.2.1 s.2.2) (P ++ x :: B ++ S, m, b) = some (P ++ x :: B ++ S, ((s : Nat) : Int)) := by
    intro rec
    rw [hm, hb]
    refine PT (lo := P.length + 1) (hi := P.length + 1 + B.length) (f := fun k => ¬ le x (B.getD (k - (P.length + 1)) default)) ?_ ?_ _ _ _ (Nat.le_refl _) (Nat.le_refl _) (by omega) (Nat.le_refl _) (Or.inl rfl) (Or.inl rfl)
    · intro i j h1 h2 h3
      have hh : (i + j) / 2 - (P.length + 1) < B.length := by omega
      have e1 : (P ++ x :: B ++ S).getD ((i + j) / 2) default = B.getD ((i + j) / 2 - (P.length + 1)) default := by
        have := hgb ((i + j) / 2 - (P.length + 1)) hh
        rwa [show P.length + 1 + ((i + j) / 2 - (P.length + 1)) = (i + j) / 2 by omega] at this
      obtain ⟨v, hc, hv⟩ := C.ans _ x (hB _ (cW hh)) hx
      refine ⟨decide (v < 0), by simpa using hv, ?_⟩
      show mL cmp rec a _ _ _ = _
      have hlt : decide ((i : Int) < (j : Int)) = true := by simpa using h2
      have hadd : ((i : Int) + (j : Int)) = ((i + j : Nat) : Int) := by omega
      have w1 : IntKind.i64.wrap ((((i + j) / 2 : Nat) : Int) + 1) = (((i + j) / 2 + 1 : Nat) : Int) := by rw [wr (by omega) (by omega)]; omega
      simp only [mL, hlt, cond_true, hadd, half (s := i + j) (by omega), Int.toNat_natCast, ha, e1, hgx, hc, Option.bind_some, w1]
      rw [aV (by omega), aV ⟨by omega, by simp only [List.length_append, List.length_cons]; omega⟩, aV ⟨by omega, by simp only [List.length_append, List.length_cons]; omega⟩]
      by_cases hneg : v < 0 <;> simp [hneg]
    · intro i
      show mL cmp rec a _ _ _ = _
      have hlt : decide ((i : Int) < (i : Int)) = false := by simp
      simp only [mL, hlt, cond_false]
  obtain ⟨s, s1, s2, s3, s4, s5⟩ := hbin (fun _ _ _ _ => none)
  obtain ⟨t, rfl⟩ : ∃ t, s = P.length + 1 + t := ⟨s - (P.length + 1), by omega⟩
  have ht : t ≤ B.length := by omega
  have hx1 : ∀ i, i < t → le (B.getD i default) x := fun i hi => by
    have h3 : ¬ le x (B.getD (t - 1) default) := by
      rcases s3 with h | h
      · omega
      · rwa [show P.length + 1 + t - 1 - (P.length + 1) = t - 1 by omega] at h
    have h4 : le (B.getD (t - 1) default) x := by
      rcases C.total x _ hx (hB _ (cW (show t - 1 < B.length by omega))) with h | h
      · exact absurd h h3
      · exact h
    exact C.trans _ _ _ (hB _ (cW (by omega))) (hB _ (cW (by omega))) hx (rM C hB hs (show i ≤ t - 1 by omega) (by omega)) h4
  have hx2 : ∀ j, t ≤ j → j < B.length → le x (B.getD j default) := fun j hj hj' => by
    have h3 : le x (B.getD t default) := by
      rcases s4 with h | h
      · omega
      · rw [show P.length + 1 + t - (P.length + 1) = t by omega] at h
        exact Classical.not_not.1 h
    exact C.trans _ _ _ hx (hB _ (cW (by omega))) (hB _ (cW hj')) h3 (rM C hB hs hj hj')
  have hBs : B.take t ++ B.drop t = B := List.take_append_drop t B
  have hlt : (B.take t).length = t := by rw [List.length_take]; omega
  refine ⟨P ++ (B.take t ++ x :: B.drop t) ++ S, ⟨_, ?_, ?_, rfl⟩, fun rec => ?_⟩
  · have := List.perm_middle (a := x) (l₁ := B.take t) (l₂ := B.drop t)
    rw [hBs] at this; exact this
  · simp only [Srt, List.pairwise_append, List.pairwise_cons]
    refine ⟨QY hs t, ⟨fun z hz => ?_, QD hs t⟩, fun y hy z hz => ?_⟩
    · obtain ⟨j, j1, j2, rfl⟩ := tP hz
      exact hx2 j j1 j2
    · obtain ⟨i, i1, i2, rfl⟩ := DZ hy
      rcases List.mem_cons.1 hz with rfl | hz
      · exact hx1 i i1
      · obtain ⟨j, j1, j2, rfl⟩ := tP hz
        exact rM C hB hs (by omega) j2
  · have h1 : decide (IntKind.i64.wrap (m - a) = 1) = true := by rw [wr (by omega) (by omega)]; simp; omega
    have s5' : lp (fun s : List α × Int × Int => mL cmp rec a s.1 s.2.1 s.2.2) (P ++ x :: B ++ S, m, b) = some (P ++ x :: B ++ S, ((P.length + 1 + t : Nat) : Int)) := s5
    simp only [dQ, h1, cond_true, DD, s5', Option.bind_some, DL, DE]
    have hmv := ZZ (cmp := cmp) (rec := rec) (e := ((P.length + 1 + t : Nat) : Int)) (x := x) (B.take t) P (B.drop t ++ S) P.length rfl (by rw [hlt]; congr 1; omega) (by simp only [List.length_append, List.length_cons, List.length_drop]; omega)
    have hd : P ++ x :: B.take t ++ (B.drop t ++ S) = P ++ x :: B ++ S := by
      have : P ++ x :: B.take t ++ (B.drop t ++ S) = P ++ x :: (B.take t ++ B.drop t) ++ S := by simp only [List.append_assoc, List.cons_append]
      rw [this, hBs]
    rw [hd] at hmv
    rw [ha, hmv]
    simp [DA]

theorem YX (C : Cmp ok le cmp) {P A S : List α} {x : α} {a m b : Int} (hx : ok x) (hA : Oks ok A) (hs : Srt le A) (hA1 : A.length ≠ 1) (ha : a = (P.length : Nat)) (hm : m = ((P.length + A.length : Nat) : Int)) (hb : b = ((P.length + A.length + 1 : Nat) : Int)) (hl : (P ++ A ++ x :: S).length ≤ 1099511627776) :
    ∃ r, JX le P A [x] S r ∧ ∀ rec, dQ cmp rec (P ++ A ++ x :: S) a m b = some r := by
  have hl' := hl
  simp only [List.length_append, List.length_cons] at hl'
  have hgx : (P ++ A ++ x :: S).getD (P.length + A.length) default = x := oZ (Q := P ++ A) (R := S) rfl (by simp)
  have hga : ∀ k, k < A.length → (P ++ A ++ x :: S).getD (P.length + k) default = A.getD k default := fun k hk => EH (P := P) (B := A) (S := x :: S) rfl rfl hk
  have hbin : ∀ rec, ∃ s : Nat, P.length ≤ s ∧ s ≤ P.length + A.length ∧ (s = P.length ∨ le (A.getD (s - 1 - P.length) default) x) ∧ (s = P.length + A.length ∨ ¬ le (A.getD (s - P.length) default) x) ∧
      lp (fun s : List α × Int × Int => mN cmp rec m s.1 s.2.1 s.2.2) (P ++ A ++ x :: S, a, m) = some (P ++ A ++ x :: S, ((s : Nat) : Int)) := by
    intro rec
    rw [ha, hm]
    refine PT (lo := P.length) (hi := P.length + A.length) (f := fun k => le (A.getD (k - P.length) default) x) ?_ ?_ _ _ _ (Nat.le_refl _) (Nat.le_refl _) (by omega) (Nat.le_refl _) (Or.inl rfl) (Or.inl rfl)
    · intro i j h1 h2 h3
      have hh : (i + j) / 2 - P.length < A.length := by omega
      have e1 : (P ++ A ++ x :: S).getD ((i + j) / 2) default = A.getD ((i + j) / 2 - P.length) default := by
        have := hga ((i + j) / 2 - P.length) hh
        rwa [show P.length + ((i + j) / 2 - P.length) = (i + j) / 2 by omega] at this
      obtain ⟨v, hc, hv⟩ := C.ans x _ hx (hA _ (cW hh))
      refine ⟨!decide (v < 0), by simp only [Bool.not_eq_true', decide_eq_false_iff_not, hv, Classical.not_not], ?_⟩
      show mN cmp rec _ _ _ _ = _
      have hlt : decide ((i : Int) < (j : Int)) = true := by simpa using h2
      have hadd : ((i : Int) + (j : Int)) = ((i + j : Nat) : Int) := by omega
      have w1 : IntKind.i64.wrap ((((i + j) / 2 : Nat) : Int) + 1) = (((i + j) / 2 + 1 : Nat) : Int) := by rw [wr (by omega) (by omega)]; omega
      simp only [mN, hlt, cond_true, hadd, half (s := i + j) (by omega), Int.toNat_natCast, e1, hgx, hc, Option.bind_some, w1]
      rw [aV (by omega), aV ⟨by omega, by simp only [List.length_append, List.length_cons]; omega⟩, aV ⟨by omega, by simp only [List.length_append, List.length_cons]; omega⟩]
      by_cases hneg : v < 0 <;> simp [hneg]
    · intro i
      show mN cmp rec _ _ _ _ = _
      have hlt : decide ((i : Int) < (i : Int)) = false := by simp
      simp only [mN, hlt, cond_false]
  obtain ⟨s, s1, s2, s3, s4, s5⟩ := hbin (fun _ _ _ _ => none)
  obtain ⟨t, rfl⟩ : ∃ t, s = P.length + t := ⟨s - P.length, by omega⟩
  have ht : t ≤ A.length := by omega
  have hx1 : ∀ i, i < t → le (A.getD i default) x := fun i hi => by
    have h4 : le (A.getD (t - 1) default) x := by
      rcases s3 with h | h
      · omega
      · rwa [show P.length + t - 1 - P.length = t - 1 by omega] at h
    exact C.trans _ _ _ (hA _ (cW (by omega))) (hA _ (cW (by omega))) hx (rM C hA hs (show i ≤ t - 1 by omega) (by omega)) h4
  have hx2 : ∀ j, t ≤ j → j < A.length → le x (A.getD j default) := fun j hj hj' => by
    have h3 : le x (A.getD t default) := by
      rcases s4 with h | h
      · omega
      · rw [show P.length + t - P.length = t by omega] at h
        rcases C.total x _ hx (hA _ (cW (show t < A.length by omega))) with h' | h'
        · exact h'
        · exact absurd h' h
    exact C.trans _ _ _ hx (hA _ (cW (by omega))) (hA _ (cW hj')) h3 (rM C hA hs hj hj')
  have hAs : A.take t ++ A.drop t = A := List.take_append_drop t A
  have hlt : (A.take t).length = t := by rw [List.length_take]; omega
  refine ⟨P ++ (A.take t ++ x :: A.drop t) ++ S, ⟨_, ?_, ?_, rfl⟩, fun rec => ?_⟩
  · have := List.perm_middle (a := x) (l₁ := A.take t) (l₂ := A.drop t)
    rw [hAs] at this
    exact this.trans (by simpa using (List.perm_append_comm (l₁ := [x]) (l₂ := A)))
  · simp only [Srt, List.pairwise_append, List.pairwise_cons]
    refine ⟨QY hs t, ⟨fun z hz => ?_, QD hs t⟩, fun y hy z hz => ?_⟩
    · obtain ⟨j, j1, j2, rfl⟩ := tP hz
      exact hx2 j j1 j2
    · obtain ⟨i, i1, i2, rfl⟩ := DZ hy
      rcases List.mem_cons.1 hz with rfl | hz
      · exact hx1 i i1
      · obtain ⟨j, j1, j2, rfl⟩ := tP hz
        exact rM C hA hs (by omega) j2
  · have h1 : decide (IntKind.i64.wrap (m - a) = 1) = false := by rw [wr (by omega) (by omega)]; simp; omega
    have h2 : decide (IntKind.i64.wrap (b - m) = 1) = true := by rw [wr (by omega) (by omega)]; simp; omega
    have s5' : lp (fun s : List α × Int × Int => mN cmp rec m s.1 s.2.1 s.2.2) (P ++ A ++ x :: S, a, m) = some (P ++ A ++ x :: S, ((P.length + t : Nat) : Int)) := s5
    simp only [dQ, h1, cond_false, zL, h2, cond_true, DK, s5', Option.bind_some, EY, CZ]
    have hmv := aAt (cmp := cmp) (rec := rec) (e := ((P.length + t : Nat) : Int)) (x := x) (Q := P ++ A.take t) (by simp [hlt]) (A.drop t).length (A.drop t) S (P.length + A.length) rfl (by simp only [List.length_append, List.length_drop, hlt]; omega) (by simp only [List.length_append, List.length_cons, List.length_drop, hlt]; omega)
    have hd : P ++ A.take t ++ A.drop t ++ x :: S = P ++ A ++ x :: S := by
      have : P ++ A.take t ++ A.drop t ++ x :: S = P ++ (A.take t ++ A.drop t) ++ x :: S := by simp only [List.append_assoc]
      rw [this, hAs]
    rw [hd] at hmv
    rw [hm, hmv]
    simp [FA]

end sym
end Go.Abs
