/- What the law EdgeSums stands on: the framework, the given functions as plain functions, their walks, and the plain laws; part 4. -/
import Derived.Test.YtbnnpfncgndidaaGreatEdgeSumsZ3
set_option linter.unusedSimpArgs false
set_option linter.unusedVariables false
namespace Go.Abs
open Go Go.RowKit Go.Proofs
theorem uX (cmp4_f : Nat) (cmp4_a cmp4_c : List V) (cmp4 : aA → aA → Option Int) (cmp4_h : ∀ a0 a1 r, cmp4 a0 a1 = some r → bR Tryz.prog cmp4_f (cmp4_a ++ [(aD a0), (aD a1)] ++ cmp4_c) (eI r)) (rec : (List aA) → Int → Int → Int → Option (List aA)) (ih : ∀ (lo0p : Nat) (aB : (List aA)) (a1 : Int) (m2 : Int) (b3 : Int) (r : List aA), rec aB a1 m2 b3 = some r → lS Tryz.prog 100 lo0p 2 (List.map aD aB) (List.map aD r) [(.msl 2 lo0p 0 (List.length aB)), (eI a1), (eI m2), (eI b3), (.fn (.func cmp4_f) cmp4_a cmp4_c)] (.tup [])) (lo0p : Nat) (aB : (List aA)) (a1 : Int) (m2 : Int) (b3 : Int) (r : List aA) (h0 : dY cmp4 rec aB a1 m2 b3 = some r) : lS Tryz.prog 100 lo0p 2 (List.map aD aB) (List.map aD r) [(.msl 2 lo0p 0 (List.length aB)), (eI a1), (eI m2), (eI b3), (.fn (.func cmp4_f) cmp4_a cmp4_c)] (.tup []) := by
  intro H0 hl0
  refine cA Tryz.func100 ?_
  have hO := aL.qF hl0
  clear hl0
  obtain ⟨N0, hN0⟩ : ∃ n, n = List.length aB := ⟨_, rfl⟩
  have hN : List.length aB = N0 := hN0.symm
  unfold dY at h0
  refine cC (fun T H => ∃ aB : List aA, Has T [(0, (.msl 2 lo0p 0 (List.length aB))), (1, (eI a1)), (2, (eI m2)), (3, (eI b3)), (4, (.fn (.func cmp4_f) cmp4_a cmp4_c))] ∧ aL ⟨H0, [lo0p], []⟩ H [(lo0p, 2, List.map aD aB)] ∧ List.length aB = N0 ∧ lP cmp4 rec aB a1 m2 b3 = some r) ?_ ?_
  · clear hO hN h0
    rintro T H ⟨aB, hT, hO, hN, h0⟩
    refine aY hT ?_
    clear hT
    unfold lP at h0
    refine cC (fun T H => ∃ aB : List aA, Has T [(0, (.msl 2 lo0p 0 (List.length aB))), (1, (eI a1)), (2, (eI m2)), (3, (eI b3)), (4, (.fn (.func cmp4_f) cmp4_a cmp4_c))] ∧ aL ⟨H0, [lo0p], []⟩ H [(lo0p, 2, List.map aD aB)] ∧ List.length aB = N0 ∧ lK cmp4 rec aB a1 m2 b3 = some r) ?_ ?_
    · clear hO hN h0
      rintro T H ⟨aB, hT, hO, hN, h0⟩
      refine aY hT ?_
      clear hT
      unfold lK at h0
      refine aM ?_
      refine aS aF 7 ?_
      obtain ⟨c1, h0⟩ := bA h0
      refine kB [0 ≤ (1 : Int)] ⟨c1, trivial⟩ ?_
      refine bN [] [(18, (eI (wR (Int.fdiv (IntKind.u64.wrap (wR (a1 + b3))) (2 ^ (min (Int.toNat (1 : Int)) 64))))))] ?_
      refine aT aF 4 [] [(19, (eI (wR ((wR (Int.fdiv (IntKind.u64.wrap (wR (a1 + b3))) (2 ^ (min (Int.toNat (1 : Int)) 64)))) + m2))))] ?_
      refine aT aF 2 [] [] ?_
      refine cC (fun T H => ∃ aB : List aA, ∃ bS : Int, ∃ n19 : Int, ∃ aW : Int, ∃ r21 : Int, Has T [(0, (.msl 2 lo0p 0 (List.length aB))), (1, (eI a1)), (2, (eI m2)), (3, (eI b3)), (4, (.fn (.func cmp4_f) cmp4_a cmp4_c)), (18, (eI bS)), (19, (eI n19)), (20, (eI aW)), (21, (eI r21))] ∧ aL ⟨H0, [lo0p], []⟩ H [(lo0p, 2, List.map aD aB)] ∧ List.length aB = N0 ∧ gH cmp4 rec aB a1 m2 b3 bS n19 aW r21 = some r) ?_ ?_
      · clear hO hN h0
        rintro T H ⟨aB, bS, n19, aW, r21, hT, hO, hN, h0⟩
        refine aY hT ?_
        clear hT
        unfold gH at h0
        refine aT aF 3 [] [(22, (eI (wR (n19 - (1 : Int)))))] ?_
        refine cC (fun T H => ∃ aB : List aA, ∃ aW : Int, Has T [(0, (.msl 2 lo0p 0 (List.length aB))), (1, (eI a1)), (2, (eI m2)), (3, (eI b3)), (4, (.fn (.func cmp4_f) cmp4_a cmp4_c)), (18, (eI bS)), (19, (eI n19)), (20, (eI aW))] ∧ aL ⟨H0, [lo0p], []⟩ H [(lo0p, 2, List.map aD aB)] ∧ List.length aB = N0 ∧ gJ cmp4 rec aB a1 m2 b3 bS n19 aW = some r) ?_ ?_
        · clear hO hN h0
          rintro T H ⟨aB, aW, hT, hO, hN, h0⟩
          refine aY hT ?_
          clear hT
          unfold gJ at h0
          refine aT aF 4 [19] [(24, (eI (wR (n19 - aW))))] ?_
          refine cC (fun T H => ∃ aB : List aA, ∃ eA : Int, Has T [(0, (.msl 2 lo0p 0 (List.length aB))), (1, (eI a1)), (3, (eI b3)), (4, (.fn (.func cmp4_f) cmp4_a cmp4_c)), (18, (eI bS)), (20, (eI aW)), (24, (eI eA))] ∧ aL ⟨H0, [lo0p], []⟩ H [(lo0p, 2, List.map aD aB)] ∧ List.length aB = N0 ∧ gT cmp4 rec aB a1 b3 bS aW eA = some r) ?_ ?_
          · clear hO hN h0
            rintro T H ⟨aB, eA, hT, hO, hN, h0⟩
            refine aY hT ?_
            clear hT
            unfold gT at h0
            refine cC (fun T H => ∃ aB : List aA, Has T [(0, (.msl 2 lo0p 0 (List.length aB))), (3, (eI b3)), (4, (.fn (.func cmp4_f) cmp4_a cmp4_c)), (18, (eI bS)), (24, (eI eA))] ∧ aL ⟨H0, [lo0p], []⟩ H [(lo0p, 2, List.map aD aB)] ∧ List.length aB = N0 ∧ gP cmp4 rec aB b3 bS eA = some r) ?_ ?_
            · clear hO hN h0
              rintro T H ⟨aB, hT, hO, hN, h0⟩
              refine aY hT ?_
              clear hT
              unfold gP at h0
              refine aT aF 8 [] [(213, (aK ((decide (bS < eA)) && (decide (eA < b3)))))] ?_
              refine bE h0 (fun h0 => ?_) (fun h0 => ?_)
              · refine aS aF 6 ?_
                refine bK 5 ?_
                obtain ⟨x3, hx4, h0⟩ := aV h0
                refine pL [(lo0p, 2, List.map aD x3)] 0 (ih lo0p aB bS eA b3 _ hx4) hO ?_
                intro H hO hl5
                simp only [List.length_map] at hl5
                replace hN := hl5.trans hN
                refine dO ?_
                refine cB (l := [(0, (.msl 2 lo0p 0 (List.length x3)))]) ⟨[(0, (.msl 2 lo0p 0 (List.length aB)))], by kernel_rfl, rfl, ⟨aU.eq (by simp [hl5]), trivial⟩⟩ ?_
                obtain rfl := oI h0
                exact aI (sY (x := (.tup [])) (by kernel_rfl) (aU.refl _) ⟨rfl, hO.ext, hO.at 0 (by kernel_rfl), by simp only [List.length_map]; exact hN.trans hN0⟩)
              refine bF ?_
              obtain rfl := oI h0
              exact aI (sY (x := (.tup [])) (by kernel_rfl) (aU.refl _) ⟨rfl, hO.ext, hO.at 0 (by kernel_rfl), by simp only [List.length_map]; exact hN.trans hN0⟩)
            refine aT aF 8 [] [(199, (aK ((decide (a1 < aW)) && (decide (aW < bS)))))] ?_
            refine bE h0 (fun h0 => ?_) (fun h0 => ?_)
            · refine aS aF 6 ?_
              refine bK 5 ?_
              obtain ⟨x7, hx8, h0⟩ := aV h0
              refine pL [(lo0p, 2, List.map aD x7)] 0 (ih lo0p aB a1 aW bS _ hx8) hO ?_
              intro H hO hl9
              simp only [List.length_map] at hl9
              replace hN := hl9.trans hN
              refine dO ?_
              refine cB (l := [(0, (.msl 2 lo0p 0 (List.length x7))), (3, (eI b3)), (4, (.fn (.func cmp4_f) cmp4_a cmp4_c)), (18, (eI bS)), (24, (eI eA))]) ⟨[(0, (.msl 2 lo0p 0 (List.length aB))), (3, (eI b3)), (4, (.fn (.func cmp4_f) cmp4_a cmp4_c)), (18, (eI bS)), (24, (eI eA))], by kernel_rfl, rfl, ⟨aU.eq (by simp [hl9]), aU.refl _, aU.refl _, aU.refl _, aU.refl _, trivial⟩⟩ ?_
              exact aI (aG (⟨rfl, _, .eq (by kernel_rfl), hO, hN, h0⟩))
            refine bF ?_
            exact aI (aG (⟨rfl, _, .eq (by kernel_rfl), hO, hN, h0⟩))
          refine aT aF 8 [] [(185, (aK ((decide (aW < m2)) && (decide (m2 < (wR (n19 - aW)))))))] ?_
          refine bE h0 (fun h0 => ?_) (fun h0 => ?_)
          · refine aS aF 6 ?_
            refine bK 5 ?_
            obtain ⟨x11, hx12, h0⟩ := aV h0
            refine pL [(lo0p, 2, List.map aD x11)] 0 (zO lo0p aB aW m2 (wR (n19 - aW)) cmp4_f cmp4_a cmp4_c cmp4 cmp4_h _ hx12) hO ?_
            intro H hO hl13
            simp only [List.length_map] at hl13
            replace hN := hl13.trans hN
            refine dO ?_
            refine cB (l := [(0, (.msl 2 lo0p 0 (List.length x11))), (1, (eI a1)), (3, (eI b3)), (4, (.fn (.func cmp4_f) cmp4_a cmp4_c)), (18, (eI bS)), (20, (eI aW)), (24, (eI (wR (n19 - aW))))]) ⟨[(0, (.msl 2 lo0p 0 (List.length aB))), (1, (eI a1)), (3, (eI b3)), (4, (.fn (.func cmp4_f) cmp4_a cmp4_c)), (18, (eI bS)), (20, (eI aW)), (24, (eI (wR (n19 - aW))))], by kernel_rfl, rfl, ⟨aU.eq (by simp [hl13]), aU.refl _, aU.refl _, aU.refl _, aU.refl _, aU.refl _, aU.refl _, trivial⟩⟩ ?_
            exact aI (aG (⟨rfl, _, _, .eq (by kernel_rfl), hO, hN, h0⟩))
          refine bF ?_
          exact aI (aG (⟨rfl, _, _, .eq (by kernel_rfl), hO, hN, h0⟩))
        refine bP 8 ?_
        refine cP [(0, (.msl 2 lo0p 0 (List.length aB))), (1, (eI a1)), (2, (eI m2)), (3, (eI b3)), (4, (.fn (.func cmp4_f) cmp4_a cmp4_c)), (18, (eI bS)), (19, (eI n19)), (20, (eI aW)), (21, (eI r21)), (22, (eI (wR (n19 - (1 : Int)))))] ?_
        refine cE (fun T H => ∃ aB : List aA, ∃ aW : Int, ∃ r21 : Int, ∃ p22 : Int, Has T [(0, (.msl 2 lo0p 0 (List.length aB))), (1, (eI a1)), (2, (eI m2)), (3, (eI b3)), (4, (.fn (.func cmp4_f) cmp4_a cmp4_c)), (18, (eI bS)), (19, (eI n19)), (20, (eI aW)), (21, (eI r21)), (22, (eI p22))] ∧ aL ⟨H0, [lo0p], []⟩ H [(lo0p, 2, List.map aD aB)] ∧ List.length aB = N0 ∧ lJ cmp4 rec aB a1 m2 b3 bS n19 aW r21 p22 = some r) ?_ ⟨aB, aW, r21, wR (n19 - (1 : Int)), .eq (by kernel_rfl), hO, hN, h0⟩
        clear hO hN h0
        rintro T H ⟨aB, aW, r21, p22, hT, hO, hN, h0⟩
        refine aY hT ?_
        clear hT
        unfold lJ at h0
        obtain ⟨rr0, hl0, h0⟩ := aV h0
        refine bU (by kernel_rfl) (fun (s : List aA × Int × Int) T H => Has T [(0, (.msl 2 lo0p 0 (List.length s.1))), (1, (eI a1)), (2, (eI m2)), (3, (eI b3)), (4, (.fn (.func cmp4_f) cmp4_a cmp4_c)), (18, (eI bS)), (19, (eI n19)), (20, (eI s.2.1)), (21, (eI s.2.2)), (22, (eI p22))] ∧ aL ⟨H0, [lo0p], []⟩ H [(lo0p, 2, List.map aD s.1)] ∧ List.length s.1 = N0) hl0 ⟨.eq (by kernel_rfl), hO, hN⟩ ?_
        clear hO hN
        rintro k0 s out1 T H ⟨hT, hO, hN⟩ h1 ho0
        obtain ⟨aB, aW, r21⟩ := s
        replace h1 : lH cmp4 rec a1 m2 b3 bS n19 p22 aB aW r21 = some out1 := h1
        dsimp only at hT
        refine aY hT ?_
        clear hT
        unfold lH at h1
        refine aM ?_
        refine aT aF 3 [] [(151, (aK (decide (aW < r21))))] ?_
        refine bE h1 (fun h1 => ?_) (fun h1 => ?_)
        · refine bF ?_
          refine bD [(0, (.msl 2 lo0p 0 (List.length aB))), (1, (eI a1)), (2, (eI m2)), (3, (eI b3)), (4, (.fn (.func cmp4_f) cmp4_a cmp4_c)), (18, (eI bS)), (19, (eI n19)), (20, (eI aW)), (21, (eI r21)), (22, (eI p22))] ?_
          refine bP 9 ?_
          refine aM ?_
          refine aS aF 7 ?_
          obtain ⟨c15, h1⟩ := bA h1
          refine kB [0 ≤ (1 : Int)] ⟨c15, trivial⟩ ?_
          refine bN [] [(23, (eI (wR (Int.fdiv (IntKind.u64.wrap (wR (aW + r21))) (2 ^ (min (Int.toNat (1 : Int)) 64))))))] ?_
          refine aM ?_
          refine fG (fF []) aF 14 ?_
          obtain ⟨c16, h1⟩ := bA h1
          refine cU 6 [0 ≤ (wR (p22 - (wR (Int.fdiv (IntKind.u64.wrap (wR (aW + r21))) (2 ^ (min (Int.toNat (1 : Int)) 64)))))) ∧ (wR (p22 - (wR (Int.fdiv (IntKind.u64.wrap (wR (aW + r21))) (2 ^ (min (Int.toNat (1 : Int)) 64)))))) < (lN aB)] ⟨c16, trivial⟩ ?_
          refine mC 0 lo0p 2 (0 + Int.toNat (wR (p22 - (wR (Int.fdiv (IntKind.u64.wrap (wR (aW + r21))) (2 ^ (min (Int.toNat (1 : Int)) 64))))))) (aD (gD aB (wR (p22 - (wR (Int.fdiv (IntKind.u64.wrap (wR (aW + r21))) (2 ^ (min (Int.toNat (1 : Int)) 64)))))))) (aD (gD aB (wR (p22 - (wR (Int.fdiv (IntKind.u64.wrap (wR (aW + r21))) (2 ^ (min (Int.toNat (1 : Int)) 64)))))))) (List.map aD aB) hO (cS c16) ?_
          obtain ⟨c17, h1⟩ := bA h1
          refine cU 10 [0 ≤ (wR (Int.fdiv (IntKind.u64.wrap (wR (aW + r21))) (2 ^ (min (Int.toNat (1 : Int)) 64)))) ∧ (wR (Int.fdiv (IntKind.u64.wrap (wR (aW + r21))) (2 ^ (min (Int.toNat (1 : Int)) 64)))) < (lN aB)] ⟨c17, trivial⟩ ?_
          refine mC 0 lo0p 2 (0 + Int.toNat (wR (Int.fdiv (IntKind.u64.wrap (wR (aW + r21))) (2 ^ (min (Int.toNat (1 : Int)) 64))))) (aD (gD aB (wR (Int.fdiv (IntKind.u64.wrap (wR (aW + r21))) (2 ^ (min (Int.toNat (1 : Int)) 64)))))) (aD (gD aB (wR (Int.fdiv (IntKind.u64.wrap (wR (aW + r21))) (2 ^ (min (Int.toNat (1 : Int)) 64)))))) (List.map aD aB) hO (cS c17) ?_
          obtain ⟨x18, hx19, h1⟩ := aV h1
          refine BC (cmp4_h (gD aB (wR (p22 - (wR (Int.fdiv (IntKind.u64.wrap (wR (aW + r21))) (2 ^ (min (Int.toNat (1 : Int)) 64))))))) (gD aB (wR (Int.fdiv (IntKind.u64.wrap (wR (aW + r21))) (2 ^ (min (Int.toNat (1 : Int)) 64))))) _ hx19) hO ?_
          intro H hO
          refine jU ?_
          refine bN [] [(171, (aK (!(decide (x18 < (0 : Int))))))] ?_
          refine bE h1 (fun h1 => ?_) (fun h1 => ?_)
          · refine aS aF 3 ?_
            refine aZ ?_
            exact aI (aX (aG (⟨rfl, _, (oI h1).symm, .eq (by kernel_rfl), hO, hN⟩)))
          refine aS aF 2 ?_
          refine aZ ?_
          exact aI (aX (aG (⟨rfl, _, (oI h1).symm, .eq (by kernel_rfl), hO, hN⟩)))
        refine cQ 8 ?_
        obtain rfl := oI h1
        obtain rfl : _ = rr0 := ho0
        replace h0 : gJ cmp4 rec aB a1 m2 b3 bS n19 aW = some r := h0
        exact aI (aR (aR (bH (aG (⟨rfl, _, _, .eq (by kernel_rfl), hO, hN, h0⟩)))))
      refine aT aF 3 [] [(140, (aK (decide ((wR (Int.fdiv (IntKind.u64.wrap (wR (a1 + b3))) (2 ^ (min (Int.toNat (1 : Int)) 64)))) < m2))))] ?_
      refine bE h0 (fun h0 => ?_) (fun h0 => ?_)
      · refine bO aF 4 [(0, (.msl 2 lo0p 0 (List.length aB))), (1, (eI a1)), (2, (eI m2)), (3, (eI b3)), (4, (.fn (.func cmp4_f) cmp4_a cmp4_c)), (18, (eI (wR (Int.fdiv (IntKind.u64.wrap (wR (a1 + b3))) (2 ^ (min (Int.toNat (1 : Int)) 64)))))), (19, (eI (wR ((wR (Int.fdiv (IntKind.u64.wrap (wR (a1 + b3))) (2 ^ (min (Int.toNat (1 : Int)) 64)))) + m2)))), (20, (eI (wR ((wR ((wR (Int.fdiv (IntKind.u64.wrap (wR (a1 + b3))) (2 ^ (min (Int.toNat (1 : Int)) 64)))) + m2)) - b3))))] ?_
        refine aS aF 2 ?_
        refine aZ ?_
        exact aI (aG (⟨rfl, _, _, _, _, _, .eq (by kernel_rfl), hO, hN, h0⟩))
      refine bO aF 2 [(0, (.msl 2 lo0p 0 (List.length aB))), (1, (eI a1)), (2, (eI m2)), (3, (eI b3)), (4, (.fn (.func cmp4_f) cmp4_a cmp4_c)), (18, (eI (wR (Int.fdiv (IntKind.u64.wrap (wR (a1 + b3))) (2 ^ (min (Int.toNat (1 : Int)) 64)))))), (19, (eI (wR ((wR (Int.fdiv (IntKind.u64.wrap (wR (a1 + b3))) (2 ^ (min (Int.toNat (1 : Int)) 64)))) + m2)))), (20, (eI a1))] ?_
      refine aS aF 2 ?_
      refine aZ ?_
      exact aI (aG (⟨rfl, _, _, _, _, _, .eq (by kernel_rfl), hO, hN, h0⟩))
    refine aT aF 4 [] [(80, (aK (decide ((wR (b3 - m2)) = (1 : Int)))))] ?_
    refine bE h0 (fun h0 => ?_) (fun h0 => ?_)
    · refine aT aF 2 [1, 3, 80] [(14, (eI a1))] ?_
      refine aT aF 2 [] [(15, (eI m2))] ?_
      refine cC (fun T H => ∃ aB : List aA, ∃ i14 : Int, Has T [(0, (.msl 2 lo0p 0 (List.length aB))), (2, (eI m2)), (14, (eI i14))] ∧ aL ⟨H0, [lo0p], []⟩ H [(lo0p, 2, List.map aD aB)] ∧ List.length aB = N0 ∧ gW cmp4 rec aB m2 i14 = some r) ?_ ?_
      · clear hO hN h0
        rintro T H ⟨aB, i14, hT, hO, hN, h0⟩
        refine aY hT ?_
        clear hT
        unfold gW at h0
        refine cC (fun T H => ∃ aB : List aA, Has T [(0, (.msl 2 lo0p 0 (List.length aB)))] ∧ aL ⟨H0, [lo0p], []⟩ H [(lo0p, 2, List.map aD aB)] ∧ List.length aB = N0 ∧ gQ cmp4 rec aB = some r) ?_ ?_
        · clear hO hN h0
          rintro T H ⟨aB, hT, hO, hN, h0⟩
          refine aY hT ?_
          clear hT
          unfold gQ at h0
          refine bG ?_
          obtain rfl := oI h0
          exact aI (aP (qQ (x := (.tup [])) (by kernel_rfl) (aU.refl _) ⟨rfl, hO.ext, hO.at 0 (by kernel_rfl), by simp only [List.length_map]; exact hN.trans hN0⟩))
        refine aT aF 2 [2] [(17, (eI m2))] ?_
        refine bP 6 ?_
        refine cP [(0, (.msl 2 lo0p 0 (List.length aB))), (14, (eI i14)), (17, (eI m2))] ?_
        refine cE (fun T H => ∃ aB : List aA, ∃ k17 : Int, Has T [(0, (.msl 2 lo0p 0 (List.length aB))), (14, (eI i14)), (17, (eI k17))] ∧ aL ⟨H0, [lo0p], []⟩ H [(lo0p, 2, List.map aD aB)] ∧ List.length aB = N0 ∧ kE cmp4 rec aB i14 k17 = some r) ?_ ⟨aB, m2, .eq (by kernel_rfl), hO, hN, h0⟩
        clear hO hN h0
        rintro T H ⟨aB, k17, hT, hO, hN, h0⟩
        refine aY hT ?_
        clear hT
        unfold kE at h0
        obtain ⟨rr0, hl0, h0⟩ := aV h0
        refine bU (by kernel_rfl) (fun (s : List aA × Int) T H => Has T [(0, (.msl 2 lo0p 0 (List.length s.1))), (14, (eI i14)), (17, (eI s.2))] ∧ aL ⟨H0, [lo0p], []⟩ H [(lo0p, 2, List.map aD s.1)] ∧ List.length s.1 = N0) hl0 ⟨.eq (by kernel_rfl), hO, hN⟩ ?_
        clear hO hN
        rintro k0 s out1 T H ⟨hT, hO, hN⟩ h1 ho0
        obtain ⟨aB, k17⟩ := s
        replace h1 : kF cmp4 rec i14 aB k17 = some out1 := h1
        dsimp only at hT
        refine aY hT ?_
        clear hT
        unfold kF at h1
        refine aM ?_
        refine aT aF 3 [] [(110, (aK (decide (i14 < k17))))] ?_
        refine bE h1 (fun h1 => ?_) (fun h1 => ?_)
        · refine bF ?_
          refine bD [(0, (.msl 2 lo0p 0 (List.length aB))), (14, (eI i14)), (17, (eI k17))] ?_
          refine aM ?_
          refine bP 7 ?_
          refine fG (fF []) aF 18 ?_
          obtain ⟨c25, h1⟩ := bA h1
          refine cU 9 [0 ≤ (wR (k17 - (1 : Int))) ∧ (wR (k17 - (1 : Int))) < (lN aB)] ⟨c25, trivial⟩ ?_
          refine mC 0 lo0p 2 (0 + Int.toNat (wR (k17 - (1 : Int)))) (aD (gD aB (wR (k17 - (1 : Int))))) (aD (gD aB (wR (k17 - (1 : Int))))) (List.map aD aB) hO (cS c25) ?_
          obtain ⟨c26, h1⟩ := bA h1
          refine cU 13 [0 ≤ k17 ∧ k17 < (lN aB)] ⟨c26, trivial⟩ ?_
          refine mC 0 lo0p 2 (0 + Int.toNat k17) (aD (gD aB k17)) (aD (gD aB k17)) (List.map aD aB) hO (cS c26) ?_
          obtain ⟨c27, h1⟩ := bA h1
          refine cU 15 [0 ≤ k17 ∧ k17 < (lN aB)] ⟨c27, trivial⟩ ?_
          refine wN 0 lo0p 2 (0 + Int.toNat k17) (aD (gD aB k17)) (aD (gD aB (wR (k17 - (1 : Int))))) (List.map aD aB) [(lo0p, 2, List.map aD (List.set aB (Int.toNat k17) (gD aB (wR (k17 - (1 : Int))))))] hO (cS c27) (by simp only [List.set, pJ]) ?_
          intro H hO
          replace hN : List.length (List.set aB (Int.toNat k17) (gD aB (wR (k17 - (1 : Int))))) = N0 := by simpa using hN
          obtain ⟨c28, h1⟩ := bA h1
          refine cU 17 [0 ≤ (wR (k17 - (1 : Int))) ∧ (wR (k17 - (1 : Int))) < (lN aB)] ⟨c28, trivial⟩ ?_
          refine wN 0 lo0p 2 (0 + Int.toNat (wR (k17 - (1 : Int)))) (aD (gD (List.set aB (Int.toNat k17) (gD aB (wR (k17 - (1 : Int))))) (wR (k17 - (1 : Int))))) (aD (gD aB k17)) (List.map aD (List.set aB (Int.toNat k17) (gD aB (wR (k17 - (1 : Int)))))) [(lo0p, 2, List.map aD (List.set (List.set aB (Int.toNat k17) (gD aB (wR (k17 - (1 : Int))))) (Int.toNat (wR (k17 - (1 : Int)))) (gD aB k17)))] hO (zE c28 (by simp [])) (by simp only [List.set, pJ]) ?_
          intro H hO
          replace hN : List.length (List.set (List.set aB (Int.toNat k17) (gD aB (wR (k17 - (1 : Int))))) (Int.toNat (wR (k17 - (1 : Int)))) (gD aB k17)) = N0 := by simpa using hN
          refine DC (by kernel_rfl) ?_
          refine cB (l := [(0, (.msl 2 lo0p 0 (List.length (List.set (List.set aB (Int.toNat k17) (gD aB (wR (k17 - (1 : Int))))) (Int.toNat (wR (k17 - (1 : Int)))) (gD aB k17))))), (14, (eI i14)), (17, (eI k17))]) ⟨[(0, (.msl 2 lo0p 0 (List.length aB))), (14, (eI i14)), (17, (eI k17))], by kernel_rfl, rfl, ⟨aU.eq (by simp []), aU.refl _, aU.refl _, trivial⟩⟩ ?_
          refine aI (aX (aG (?_)))
          refine aS aF 3 ?_
          refine aZ ?_
          exact aI (aG (⟨rfl, _, (oI h1).symm, .eq (by kernel_rfl), hO, hN⟩))
        refine cQ 6 ?_
        obtain rfl := oI h1
        obtain rfl : _ = rr0 := ho0
        replace h0 : gQ cmp4 rec aB = some r := h0
        exact aI (aR (aR (bH (aG (⟨rfl, _, .eq (by kernel_rfl), hO, hN, h0⟩)))))
      refine bP 4 ?_
      refine cP [(0, (.msl 2 lo0p 0 (List.length aB))), (2, (eI m2)), (4, (.fn (.func cmp4_f) cmp4_a cmp4_c)), (14, (eI a1)), (15, (eI m2))] ?_
      refine cE (fun T H => ∃ aB : List aA, ∃ i14 : Int, ∃ j15 : Int, Has T [(0, (.msl 2 lo0p 0 (List.length aB))), (2, (eI m2)), (4, (.fn (.func cmp4_f) cmp4_a cmp4_c)), (14, (eI i14)), (15, (eI j15))] ∧ aL ⟨H0, [lo0p], []⟩ H [(lo0p, 2, List.map aD aB)] ∧ List.length aB = N0 ∧ kQ cmp4 rec aB m2 i14 j15 = some r) ?_ ⟨aB, a1, m2, .eq (by kernel_rfl), hO, hN, h0⟩
      clear hO hN h0
      rintro T H ⟨aB, i14, j15, hT, hO, hN, h0⟩
      refine aY hT ?_
      clear hT
      unfold kQ at h0
      obtain ⟨rr0, hl0, h0⟩ := aV h0
      refine bU (by kernel_rfl) (fun (s : List aA × Int × Int) T H => Has T [(0, (.msl 2 lo0p 0 (List.length s.1))), (2, (eI m2)), (4, (.fn (.func cmp4_f) cmp4_a cmp4_c)), (14, (eI s.2.1)), (15, (eI s.2.2))] ∧ aL ⟨H0, [lo0p], []⟩ H [(lo0p, 2, List.map aD s.1)] ∧ List.length s.1 = N0) hl0 ⟨.eq (by kernel_rfl), hO, hN⟩ ?_
      clear hO hN
      rintro k0 s out1 T H ⟨hT, hO, hN⟩ h1 ho0
      obtain ⟨aB, i14, j15⟩ := s
      replace h1 : kP cmp4 rec m2 aB i14 j15 = some out1 := h1
      dsimp only at hT
      refine aY hT ?_
      clear hT
      unfold kP at h1
      refine aM ?_
      refine aT aF 3 [] [(85, (aK (decide (i14 < j15))))] ?_
      refine bE h1 (fun h1 => ?_) (fun h1 => ?_)
      · refine bF ?_
        refine bD [(0, (.msl 2 lo0p 0 (List.length aB))), (2, (eI m2)), (4, (.fn (.func cmp4_f) cmp4_a cmp4_c)), (14, (eI i14)), (15, (eI j15))] ?_
        refine bP 5 ?_
        refine aM ?_
        refine aS aF 7 ?_
        obtain ⟨c30, h1⟩ := bA h1
        refine kB [0 ≤ (1 : Int)] ⟨c30, trivial⟩ ?_
        refine bN [] [(16, (eI (wR (Int.fdiv (IntKind.u64.wrap (wR (i14 + j15))) (2 ^ (min (Int.toNat (1 : Int)) 64))))))] ?_
        refine aM ?_
        refine fG (fF []) aF 12 ?_
        obtain ⟨c31, h1⟩ := bA h1
        refine cU 4 [0 ≤ m2 ∧ m2 < (lN aB)] ⟨c31, trivial⟩ ?_
        refine mC 0 lo0p 2 (0 + Int.toNat m2) (aD (gD aB m2)) (aD (gD aB m2)) (List.map aD aB) hO (cS c31) ?_
        obtain ⟨c32, h1⟩ := bA h1
        refine cU 8 [0 ≤ (wR (Int.fdiv (IntKind.u64.wrap (wR (i14 + j15))) (2 ^ (min (Int.toNat (1 : Int)) 64)))) ∧ (wR (Int.fdiv (IntKind.u64.wrap (wR (i14 + j15))) (2 ^ (min (Int.toNat (1 : Int)) 64)))) < (lN aB)] ⟨c32, trivial⟩ ?_
        refine mC 0 lo0p 2 (0 + Int.toNat (wR (Int.fdiv (IntKind.u64.wrap (wR (i14 + j15))) (2 ^ (min (Int.toNat (1 : Int)) 64))))) (aD (gD aB (wR (Int.fdiv (IntKind.u64.wrap (wR (i14 + j15))) (2 ^ (min (Int.toNat (1 : Int)) 64)))))) (aD (gD aB (wR (Int.fdiv (IntKind.u64.wrap (wR (i14 + j15))) (2 ^ (min (Int.toNat (1 : Int)) 64)))))) (List.map aD aB) hO (cS c32) ?_
        obtain ⟨x33, hx34, h1⟩ := aV h1
        refine BC (cmp4_h (gD aB m2) (gD aB (wR (Int.fdiv (IntKind.u64.wrap (wR (i14 + j15))) (2 ^ (min (Int.toNat (1 : Int)) 64))))) _ hx34) hO ?_
        intro H hO
        refine jU ?_
        refine bN [] [(103, (aK (!(decide (x33 < (0 : Int))))))] ?_
        refine bE h1 (fun h1 => ?_) (fun h1 => ?_)
        · refine aS aF 3 ?_
          refine aZ ?_
          exact aI (aX (aG (⟨rfl, _, (oI h1).symm, .eq (by kernel_rfl), hO, hN⟩)))
        refine aS aF 2 ?_
        refine aZ ?_
        exact aI (aX (aG (⟨rfl, _, (oI h1).symm, .eq (by kernel_rfl), hO, hN⟩)))
      refine cQ 4 ?_
      obtain rfl := oI h1
      obtain rfl : _ = rr0 := ho0
      replace h0 : gW cmp4 rec aB m2 i14 = some r := h0
      exact aI (aR (aR (bH (aG (⟨rfl, _, _, .eq (by kernel_rfl), hO, hN, h0⟩)))))
    refine bF ?_
    exact aI (aG (⟨rfl, _, .eq (by kernel_rfl), hO, hN, h0⟩))
  refine aT aF 4 [] [(28, (aK (decide ((wR (m2 - a1)) = (1 : Int)))))] ?_
  refine bE h0 (fun h0 => ?_) (fun h0 => ?_)
  · refine aT aF 2 [2, 28] [(10, (eI m2))] ?_
    refine aT aF 2 [3] [(11, (eI b3))] ?_
    refine cC (fun T H => ∃ aB : List aA, ∃ i10 : Int, Has T [(0, (.msl 2 lo0p 0 (List.length aB))), (1, (eI a1)), (10, (eI i10))] ∧ aL ⟨H0, [lo0p], []⟩ H [(lo0p, 2, List.map aD aB)] ∧ List.length aB = N0 ∧ gC cmp4 rec aB a1 i10 = some r) ?_ ?_
    · clear hO hN h0
      rintro T H ⟨aB, i10, hT, hO, hN, h0⟩
      refine aY hT ?_
      clear hT
      unfold gC at h0
      refine cC (fun T H => ∃ aB : List aA, Has T [(0, (.msl 2 lo0p 0 (List.length aB)))] ∧ aL ⟨H0, [lo0p], []⟩ H [(lo0p, 2, List.map aD aB)] ∧ List.length aB = N0 ∧ gE cmp4 rec aB = some r) ?_ ?_
      · clear hO hN h0
        rintro T H ⟨aB, hT, hO, hN, h0⟩
        refine aY hT ?_
        clear hT
        unfold gE at h0
        refine bG ?_
        obtain rfl := oI h0
        exact aI (aP (qQ (x := (.tup [])) (by kernel_rfl) (aU.refl _) ⟨rfl, hO.ext, hO.at 0 (by kernel_rfl), by simp only [List.length_map]; exact hN.trans hN0⟩))
      refine aT aF 2 [1] [(13, (eI a1))] ?_
      refine bP 2 ?_
      refine cP [(0, (.msl 2 lo0p 0 (List.length aB))), (10, (eI i10)), (13, (eI a1))] ?_
      refine cE (fun T H => ∃ aB : List aA, ∃ k13 : Int, Has T [(0, (.msl 2 lo0p 0 (List.length aB))), (10, (eI i10)), (13, (eI k13))] ∧ aL ⟨H0, [lo0p], []⟩ H [(lo0p, 2, List.map aD aB)] ∧ List.length aB = N0 ∧ kT cmp4 rec aB i10 k13 = some r) ?_ ⟨aB, a1, .eq (by kernel_rfl), hO, hN, h0⟩
      clear hO hN h0
      rintro T H ⟨aB, k13, hT, hO, hN, h0⟩
      refine aY hT ?_
      clear hT
      unfold kT at h0
      obtain ⟨rr0, hl0, h0⟩ := aV h0
      refine bU (by kernel_rfl) (fun (s : List aA × Int) T H => Has T [(0, (.msl 2 lo0p 0 (List.length s.1))), (10, (eI i10)), (13, (eI s.2))] ∧ aL ⟨H0, [lo0p], []⟩ H [(lo0p, 2, List.map aD s.1)] ∧ List.length s.1 = N0) hl0 ⟨.eq (by kernel_rfl), hO, hN⟩ ?_
      clear hO hN
      rintro k0 s out1 T H ⟨hT, hO, hN⟩ h1 ho0
      obtain ⟨aB, k13⟩ := s
      replace h1 : kU cmp4 rec i10 aB k13 = some out1 := h1
      dsimp only at hT
      refine aY hT ?_
      clear hT
      unfold kU at h1
      refine aM ?_
      refine aT aF 4 [] [(58, (aK (decide (k13 < (wR (i10 - (1 : Int)))))))] ?_
      refine bE h1 (fun h1 => ?_) (fun h1 => ?_)
      · refine bF ?_
        refine bD [(0, (.msl 2 lo0p 0 (List.length aB))), (10, (eI i10)), (13, (eI k13))] ?_
        refine aM ?_
        refine bP 3 ?_
        refine fG (fF []) aF 18 ?_
        obtain ⟨c39, h1⟩ := bA h1
        refine cU 9 [0 ≤ (wR (k13 + (1 : Int))) ∧ (wR (k13 + (1 : Int))) < (lN aB)] ⟨c39, trivial⟩ ?_
        refine mC 0 lo0p 2 (0 + Int.toNat (wR (k13 + (1 : Int)))) (aD (gD aB (wR (k13 + (1 : Int))))) (aD (gD aB (wR (k13 + (1 : Int))))) (List.map aD aB) hO (cS c39) ?_
        obtain ⟨c40, h1⟩ := bA h1
        refine cU 13 [0 ≤ k13 ∧ k13 < (lN aB)] ⟨c40, trivial⟩ ?_
        refine mC 0 lo0p 2 (0 + Int.toNat k13) (aD (gD aB k13)) (aD (gD aB k13)) (List.map aD aB) hO (cS c40) ?_
        obtain ⟨c41, h1⟩ := bA h1
        refine cU 15 [0 ≤ k13 ∧ k13 < (lN aB)] ⟨c41, trivial⟩ ?_
        refine wN 0 lo0p 2 (0 + Int.toNat k13) (aD (gD aB k13)) (aD (gD aB (wR (k13 + (1 : Int))))) (List.map aD aB) [(lo0p, 2, List.map aD (List.set aB (Int.toNat k13) (gD aB (wR (k13 + (1 : Int))))))] hO (cS c41) (by simp only [List.set, pJ]) ?_
        intro H hO
        replace hN : List.length (List.set aB (Int.toNat k13) (gD aB (wR (k13 + (1 : Int))))) = N0 := by simpa using hN
        obtain ⟨c42, h1⟩ := bA h1
        refine cU 17 [0 ≤ (wR (k13 + (1 : Int))) ∧ (wR (k13 + (1 : Int))) < (lN aB)] ⟨c42, trivial⟩ ?_
        refine wN 0 lo0p 2 (0 + Int.toNat (wR (k13 + (1 : Int)))) (aD (gD (List.set aB (Int.toNat k13) (gD aB (wR (k13 + (1 : Int))))) (wR (k13 + (1 : Int))))) (aD (gD aB k13)) (List.map aD (List.set aB (Int.toNat k13) (gD aB (wR (k13 + (1 : Int)))))) [(lo0p, 2, List.map aD (List.set (List.set aB (Int.toNat k13) (gD aB (wR (k13 + (1 : Int))))) (Int.toNat (wR (k13 + (1 : Int)))) (gD aB k13)))] hO (zE c42 (by simp [])) (by simp only [List.set, pJ]) ?_
        intro H hO
        replace hN : List.length (List.set (List.set aB (Int.toNat k13) (gD aB (wR (k13 + (1 : Int))))) (Int.toNat (wR (k13 + (1 : Int)))) (gD aB k13)) = N0 := by simpa using hN
        refine DC (by kernel_rfl) ?_
        refine cB (l := [(0, (.msl 2 lo0p 0 (List.length (List.set (List.set aB (Int.toNat k13) (gD aB (wR (k13 + (1 : Int))))) (Int.toNat (wR (k13 + (1 : Int)))) (gD aB k13))))), (10, (eI i10)), (13, (eI k13))]) ⟨[(0, (.msl 2 lo0p 0 (List.length aB))), (10, (eI i10)), (13, (eI k13))], by kernel_rfl, rfl, ⟨aU.eq (by simp []), aU.refl _, aU.refl _, trivial⟩⟩ ?_
        refine aI (aX (aG (?_)))
        refine aS aF 3 ?_
        refine aZ ?_
        exact aI (aG (⟨rfl, _, (oI h1).symm, .eq (by kernel_rfl), hO, hN⟩))
      refine cQ 2 ?_
      obtain rfl := oI h1
      obtain rfl : _ = rr0 := ho0
      replace h0 : gE cmp4 rec aB = some r := h0
      exact aI (aR (aR (bH (aG (⟨rfl, _, .eq (by kernel_rfl), hO, hN, h0⟩)))))
    refine bP 0 ?_
    refine cP [(0, (.msl 2 lo0p 0 (List.length aB))), (1, (eI a1)), (4, (.fn (.func cmp4_f) cmp4_a cmp4_c)), (10, (eI m2)), (11, (eI b3))] ?_
    refine cE (fun T H => ∃ aB : List aA, ∃ i10 : Int, ∃ j11 : Int, Has T [(0, (.msl 2 lo0p 0 (List.length aB))), (1, (eI a1)), (4, (.fn (.func cmp4_f) cmp4_a cmp4_c)), (10, (eI i10)), (11, (eI j11))] ∧ aL ⟨H0, [lo0p], []⟩ H [(lo0p, 2, List.map aD aB)] ∧ List.length aB = N0 ∧ kI cmp4 rec aB a1 i10 j11 = some r) ?_ ⟨aB, m2, b3, .eq (by kernel_rfl), hO, hN, h0⟩
    clear hO hN h0
    rintro T H ⟨aB, i10, j11, hT, hO, hN, h0⟩
    refine aY hT ?_
    clear hT
    unfold kI at h0
    obtain ⟨rr0, hl0, h0⟩ := aV h0
    refine bU (by kernel_rfl) (fun (s : List aA × Int × Int) T H => Has T [(0, (.msl 2 lo0p 0 (List.length s.1))), (1, (eI a1)), (4, (.fn (.func cmp4_f) cmp4_a cmp4_c)), (10, (eI s.2.1)), (11, (eI s.2.2))] ∧ aL ⟨H0, [lo0p], []⟩ H [(lo0p, 2, List.map aD s.1)] ∧ List.length s.1 = N0) hl0 ⟨.eq (by kernel_rfl), hO, hN⟩ ?_
    clear hO hN
    rintro k0 s out1 T H ⟨hT, hO, hN⟩ h1 ho0
    obtain ⟨aB, i10, j11⟩ := s
    replace h1 : kY cmp4 rec a1 aB i10 j11 = some out1 := h1
    dsimp only at hT
    refine aY hT ?_
    clear hT
    unfold kY at h1
    refine aM ?_
    refine aT aF 3 [] [(33, (aK (decide (i10 < j11))))] ?_
    refine bE h1 (fun h1 => ?_) (fun h1 => ?_)
    · refine bF ?_
      refine bD [(0, (.msl 2 lo0p 0 (List.length aB))), (1, (eI a1)), (4, (.fn (.func cmp4_f) cmp4_a cmp4_c)), (10, (eI i10)), (11, (eI j11))] ?_
      refine bP 1 ?_
      refine aM ?_
      refine aS aF 7 ?_
      obtain ⟨c44, h1⟩ := bA h1
      refine kB [0 ≤ (1 : Int)] ⟨c44, trivial⟩ ?_
      refine bN [] [(12, (eI (wR (Int.fdiv (IntKind.u64.wrap (wR (i10 + j11))) (2 ^ (min (Int.toNat (1 : Int)) 64))))))] ?_
      refine aM ?_
      refine fG (fF []) aF 11 ?_
      obtain ⟨c45, h1⟩ := bA h1
      refine cU 4 [0 ≤ (wR (Int.fdiv (IntKind.u64.wrap (wR (i10 + j11))) (2 ^ (min (Int.toNat (1 : Int)) 64)))) ∧ (wR (Int.fdiv (IntKind.u64.wrap (wR (i10 + j11))) (2 ^ (min (Int.toNat (1 : Int)) 64)))) < (lN aB)] ⟨c45, trivial⟩ ?_
      refine mC 0 lo0p 2 (0 + Int.toNat (wR (Int.fdiv (IntKind.u64.wrap (wR (i10 + j11))) (2 ^ (min (Int.toNat (1 : Int)) 64))))) (aD (gD aB (wR (Int.fdiv (IntKind.u64.wrap (wR (i10 + j11))) (2 ^ (min (Int.toNat (1 : Int)) 64)))))) (aD (gD aB (wR (Int.fdiv (IntKind.u64.wrap (wR (i10 + j11))) (2 ^ (min (Int.toNat (1 : Int)) 64)))))) (List.map aD aB) hO (cS c45) ?_
      obtain ⟨c46, h1⟩ := bA h1
      refine cU 8 [0 ≤ a1 ∧ a1 < (lN aB)] ⟨c46, trivial⟩ ?_
      refine mC 0 lo0p 2 (0 + Int.toNat a1) (aD (gD aB a1)) (aD (gD aB a1)) (List.map aD aB) hO (cS c46) ?_
      obtain ⟨x47, hx48, h1⟩ := aV h1
      refine BC (cmp4_h (gD aB (wR (Int.fdiv (IntKind.u64.wrap (wR (i10 + j11))) (2 ^ (min (Int.toNat (1 : Int)) 64))))) (gD aB a1) _ hx48) hO ?_
      intro H hO
      refine jU ?_
      refine bN [] [(50, (aK (decide (x47 < (0 : Int)))))] ?_
      refine bE h1 (fun h1 => ?_) (fun h1 => ?_)
      · refine aS aF 3 ?_
        refine aZ ?_
        exact aI (aX (aG (⟨rfl, _, (oI h1).symm, .eq (by kernel_rfl), hO, hN⟩)))
      refine aS aF 2 ?_
      refine aZ ?_
      exact aI (aX (aG (⟨rfl, _, (oI h1).symm, .eq (by kernel_rfl), hO, hN⟩)))
    refine cQ 0 ?_
    obtain rfl := oI h1
    obtain rfl : _ = rr0 := ho0
    replace h0 : gC cmp4 rec aB a1 i10 = some r := h0
    exact aI (aR (aR (bH (aG (⟨rfl, _, _, .eq (by kernel_rfl), hO, hN, h0⟩)))))
  refine bF ?_
  exact aI (aG (⟨rfl, _, .eq (by kernel_rfl), hO, hN, h0⟩))

theorem oS (cmp4_f : Nat) (cmp4_a cmp4_c : List V) (cmp4 : aA → aA → Option Int) (cmp4_h : ∀ a0 a1 r, cmp4 a0 a1 = some r → bR Tryz.prog cmp4_f (cmp4_a ++ [(aD a0), (aD a1)] ++ cmp4_c) (eI r)) : ∀ (k : Nat) (lo0p : Nat) (aB : (List aA)) (a1 : Int) (m2 : Int) (b3 : Int) (r : List aA), gS cmp4 k aB a1 m2 b3 = some r → lS Tryz.prog 100 lo0p 2 (List.map aD aB) (List.map aD r) [(.msl 2 lo0p 0 (List.length aB)), (eI a1), (eI m2), (eI b3), (.fn (.func cmp4_f) cmp4_a cmp4_c)] (.tup [])
  | 0, _, _, _, _, _, _, h => by cases h
  | k + 1, lo0p, aB, a1, m2, b3, r, h => uX cmp4_f cmp4_a cmp4_c cmp4 cmp4_h _ (oS cmp4_f cmp4_a cmp4_c cmp4 cmp4_h k) lo0p aB a1 m2 b3 r h

theorem pV (lo0p : Nat) (aB : (List aA)) (a1 : Int) (m2 : Int) (b3 : Int) (cmp4_f : Nat) (cmp4_a cmp4_c : List V) (cmp4 : aA → aA → Option Int) (cmp4_h : ∀ a0 a1 r, cmp4 a0 a1 = some r → bR Tryz.prog cmp4_f (cmp4_a ++ [(aD a0), (aD a1)] ++ cmp4_c) (eI r)) (r : List aA) (h0 : eS aB a1 m2 b3 cmp4 = some r) : lS Tryz.prog 100 lo0p 2 (List.map aD aB) (List.map aD r) [(.msl 2 lo0p 0 (List.length aB)), (eI a1), (eI m2), (eI b3), (.fn (.func cmp4_f) cmp4_a cmp4_c)] (.tup []) := by
  obtain ⟨k, hk⟩ := JI h0
  exact oS cmp4_f cmp4_a cmp4_c cmp4 cmp4_h k lo0p aB a1 m2 b3 r hk

end Go.Abs
namespace Go.Abs
open Go Go.RowKit Go.Proofs
theorem zM (lo0p : Nat) (aB : (List aA)) (n1 : Int) (cmp2_f : Nat) (cmp2_a cmp2_c : List V) (cmp2 : aA → aA → Option Int) (cmp2_h : ∀ a0 a1 r, cmp2 a0 a1 = some r → bR Tryz.prog cmp2_f (cmp2_a ++ [(aD a0), (aD a1)] ++ cmp2_c) (eI r)) (r : List aA) (h0 : fJ aB n1 cmp2 = some r) : lS Tryz.prog 94 lo0p 2 (List.map aD aB) (List.map aD r) [(.msl 2 lo0p 0 (List.length aB)), (eI n1), (.fn (.func cmp2_f) cmp2_a cmp2_c)] (.tup []) := by
  intro H0 hl0
  refine cA Tryz.func94 ?_
  have hO := aL.qF hl0
  clear hl0
  obtain ⟨N0, hN0⟩ : ∃ n, n = List.length aB := ⟨_, rfl⟩
  have hN : List.length aB = N0 := hN0.symm
  unfold fJ at h0
  refine aT aF 1 [] [(6, (eI (20 : Int)))] ?_
  refine aT aF 3 [] [(7, (eI (0 : Int))), (8, (eI (20 : Int)))] ?_
  refine cC (fun T H => ∃ aB : List aA, ∃ aO : Int, ∃ a7 : Int, Has T [(0, (.msl 2 lo0p 0 (List.length aB))), (1, (eI n1)), (2, (.fn (.func cmp2_f) cmp2_a cmp2_c)), (6, (eI aO)), (7, (eI a7))] ∧ aL ⟨H0, [lo0p], []⟩ H [(lo0p, 2, List.map aD aB)] ∧ List.length aB = N0 ∧ fB cmp2 aB n1 aO a7 = some r) ?_ ?_
  · clear hO hN h0
    rintro T H ⟨aB, aO, a7, hT, hO, hN, h0⟩
    refine aY hT ?_
    clear hT
    unfold fB at h0
    refine aM ?_
    refine aS aF 5 ?_
    refine bK 4 ?_
    obtain ⟨x1, hx2, h0⟩ := aV h0
    refine pL [(lo0p, 2, List.map aD x1)] 0 (nX lo0p aB a7 n1 cmp2_f cmp2_a cmp2_c cmp2 cmp2_h _ hx2) hO ?_
    intro H hO hl3
    simp only [List.length_map] at hl3
    replace hN := hl3.trans hN
    refine dO ?_
    refine cB (l := [(0, (.msl 2 lo0p 0 (List.length x1))), (1, (eI n1)), (2, (.fn (.func cmp2_f) cmp2_a cmp2_c)), (6, (eI aO))]) ⟨[(0, (.msl 2 lo0p 0 (List.length aB))), (1, (eI n1)), (2, (.fn (.func cmp2_f) cmp2_a cmp2_c)), (6, (eI aO))], by kernel_rfl, rfl, ⟨aU.eq (by simp [hl3]), aU.refl _, aU.refl _, aU.refl _, trivial⟩⟩ ?_
    refine aI (aG (?_))
    refine bP 2 ?_
    refine cP [(0, (.msl 2 lo0p 0 (List.length x1))), (1, (eI n1)), (2, (.fn (.func cmp2_f) cmp2_a cmp2_c)), (6, (eI aO))] ?_
    refine cE (fun T H => ∃ aB : List aA, ∃ aO : Int, Has T [(0, (.msl 2 lo0p 0 (List.length aB))), (1, (eI n1)), (2, (.fn (.func cmp2_f) cmp2_a cmp2_c)), (6, (eI aO))] ∧ aL ⟨H0, [lo0p], []⟩ H [(lo0p, 2, List.map aD aB)] ∧ List.length aB = N0 ∧ iQ cmp2 aB n1 aO = some r) ?_ ⟨x1, aO, .eq (by kernel_rfl), hO, hN, h0⟩
    clear hO hN h0
    rintro T H ⟨aB, aO, hT, hO, hN, h0⟩
    refine aY hT ?_
    clear hT
    unfold iQ at h0
    obtain ⟨rr0, hl0, h0⟩ := aV h0
    refine bU (by kernel_rfl) (fun (s : List aA × Int) T H => Has T [(0, (.msl 2 lo0p 0 (List.length s.1))), (1, (eI n1)), (2, (.fn (.func cmp2_f) cmp2_a cmp2_c)), (6, (eI s.2))] ∧ aL ⟨H0, [lo0p], []⟩ H [(lo0p, 2, List.map aD s.1)] ∧ List.length s.1 = N0) hl0 ⟨.eq (by kernel_rfl), hO, hN⟩ ?_
    clear hO hN
    rintro k0 s out1 T H ⟨hT, hO, hN⟩ h1 ho0
    obtain ⟨aB, aO⟩ := s
    replace h1 : iD cmp2 n1 aB aO = some out1 := h1
    dsimp only at hT
    refine aY hT ?_
    clear hT
    unfold iD at h1
    refine aM ?_
    refine aT aF 3 [] [(30, (aK (decide (aO < n1))))] ?_
    refine bE h1 (fun h1 => ?_) (fun h1 => ?_)
    · refine bF ?_
      refine bD [(0, (.msl 2 lo0p 0 (List.length aB))), (1, (eI n1)), (2, (.fn (.func cmp2_f) cmp2_a cmp2_c)), (6, (eI aO))] ?_
      refine bP 3 ?_
      refine aT aF 4 [] [(7, (eI (0 : Int))), (8, (eI (wR ((2 : Int) * aO))))] ?_
      refine cC (fun T H => ∃ aB : List aA, ∃ a7 : Int, Has T [(0, (.msl 2 lo0p 0 (List.length aB))), (1, (eI n1)), (2, (.fn (.func cmp2_f) cmp2_a cmp2_c)), (6, (eI aO)), (7, (eI a7))] ∧ aL ⟨H0, [lo0p], []⟩ H [(lo0p, 2, List.map aD aB)] ∧ List.length aB = N0 ∧ eZ cmp2 aB n1 aO a7 = some out1) ?_ ?_
      · clear hO hN h1
        rintro T H ⟨aB, a7, hT, hO, hN, h1⟩
        refine aY hT ?_
        clear hT
        unfold eZ at h1
        refine cC (fun T H => ∃ aB : List aA, Has T [(0, (.msl 2 lo0p 0 (List.length aB))), (1, (eI n1)), (2, (.fn (.func cmp2_f) cmp2_a cmp2_c)), (6, (eI aO))] ∧ aL ⟨H0, [lo0p], []⟩ H [(lo0p, 2, List.map aD aB)] ∧ List.length aB = N0 ∧ iI cmp2 aB n1 aO = some out1) ?_ ?_
        · clear hO hN h1
          rintro T H ⟨aB, hT, hO, hN, h1⟩
          refine aY hT ?_
          clear hT
          unfold iI at h1
          refine aS aF 3 ?_
          refine aZ ?_
          exact aI (aX (aG (⟨rfl, _, (oI h1).symm, .eq (by kernel_rfl), hO, hN⟩)))
        refine aT aF 4 [] [(9, (eI (wR (a7 + aO))))] ?_
        refine aT aF 3 [] [(54, (aK (decide ((wR (a7 + aO)) < n1))))] ?_
        refine bE h1 (fun h1 => ?_) (fun h1 => ?_)
        · refine aS aF 6 ?_
          refine bK 5 ?_
          obtain ⟨x6, hx7, h1⟩ := aV h1
          refine pL [(lo0p, 2, List.map aD x6)] 0 (pV lo0p aB a7 (wR (a7 + aO)) n1 cmp2_f cmp2_a cmp2_c cmp2 cmp2_h _ hx7) hO ?_
          intro H hO hl8
          simp only [List.length_map] at hl8
          replace hN := hl8.trans hN
          refine dO ?_
          refine cB (l := [(0, (.msl 2 lo0p 0 (List.length x6))), (1, (eI n1)), (2, (.fn (.func cmp2_f) cmp2_a cmp2_c)), (6, (eI aO))]) ⟨[(0, (.msl 2 lo0p 0 (List.length aB))), (1, (eI n1)), (2, (.fn (.func cmp2_f) cmp2_a cmp2_c)), (6, (eI aO))], by kernel_rfl, rfl, ⟨aU.eq (by simp [hl8]), aU.refl _, aU.refl _, aU.refl _, trivial⟩⟩ ?_
          exact aI (aG (⟨rfl, _, .eq (by kernel_rfl), hO, hN, h1⟩))
        refine bF ?_
        exact aI (aG (⟨rfl, _, .eq (by kernel_rfl), hO, hN, h1⟩))
      refine bP 4 ?_
      refine cP [(0, (.msl 2 lo0p 0 (List.length aB))), (1, (eI n1)), (2, (.fn (.func cmp2_f) cmp2_a cmp2_c)), (6, (eI aO)), (7, (eI (0 : Int))), (8, (eI (wR ((2 : Int) * aO))))] ?_
      refine cE (fun T H => ∃ aB : List aA, ∃ a7 : Int, ∃ b8 : Int, Has T [(0, (.msl 2 lo0p 0 (List.length aB))), (1, (eI n1)), (2, (.fn (.func cmp2_f) cmp2_a cmp2_c)), (6, (eI aO)), (7, (eI a7)), (8, (eI b8))] ∧ aL ⟨H0, [lo0p], []⟩ H [(lo0p, 2, List.map aD aB)] ∧ List.length aB = N0 ∧ iG cmp2 aB n1 aO a7 b8 = some out1) ?_ ⟨aB, (0 : Int), wR ((2 : Int) * aO), .eq (by kernel_rfl), hO, hN, h1⟩
      clear hO hN h1
      rintro T H ⟨aB, a7, b8, hT, hO, hN, h1⟩
      refine aY hT ?_
      clear hT
      unfold iG at h1
      obtain ⟨rr1, hl1, h1⟩ := aV h1
      refine bU (by kernel_rfl) (fun (s : List aA × Int × Int) T H => Has T [(0, (.msl 2 lo0p 0 (List.length s.1))), (1, (eI n1)), (2, (.fn (.func cmp2_f) cmp2_a cmp2_c)), (6, (eI aO)), (7, (eI s.2.1)), (8, (eI s.2.2))] ∧ aL ⟨H0, [lo0p], []⟩ H [(lo0p, 2, List.map aD s.1)] ∧ List.length s.1 = N0) hl1 ⟨.eq (by kernel_rfl), hO, hN⟩ ?_
      clear hO hN
      rintro k1 s out2 T H ⟨hT, hO, hN⟩ h2 ho1
      obtain ⟨aB, a7, b8⟩ := s
      replace h2 : iO cmp2 n1 aO aB a7 b8 = some out2 := h2
      dsimp only at hT
      refine aY hT ?_
      clear hT
      unfold iO at h2
      refine aM ?_
      refine aT aF 3 [] [(35, (aK (decide (b8 ≤ n1))))] ?_
      refine bE h2 (fun h2 => ?_) (fun h2 => ?_)
      · refine bF ?_
        refine bD [(0, (.msl 2 lo0p 0 (List.length aB))), (1, (eI n1)), (2, (.fn (.func cmp2_f) cmp2_a cmp2_c)), (6, (eI aO)), (7, (eI a7)), (8, (eI b8))] ?_
        refine bP 5 ?_
        refine aM ?_
        refine aS aF 8 ?_
        refine bK 7 ?_
        obtain ⟨x10, hx11, h2⟩ := aV h2
        refine pL [(lo0p, 2, List.map aD x10)] 0 (pV lo0p aB a7 (wR (a7 + aO)) b8 cmp2_f cmp2_a cmp2_c cmp2 cmp2_h _ hx11) hO ?_
        intro H hO hl12
        simp only [List.length_map] at hl12
        replace hN := hl12.trans hN
        refine dO ?_
        refine cB (l := [(0, (.msl 2 lo0p 0 (List.length x10))), (1, (eI n1)), (2, (.fn (.func cmp2_f) cmp2_a cmp2_c)), (6, (eI aO)), (8, (eI b8))]) ⟨[(0, (.msl 2 lo0p 0 (List.length aB))), (1, (eI n1)), (2, (.fn (.func cmp2_f) cmp2_a cmp2_c)), (6, (eI aO)), (8, (eI b8))], by kernel_rfl, rfl, ⟨aU.eq (by simp [hl12]), aU.refl _, aU.refl _, aU.refl _, aU.refl _, trivial⟩⟩ ?_
        refine aI (aG (?_))
        refine aT aF 2 [] [(7, (eI b8))] ?_
        refine aS aF 5 ?_
        refine aZ ?_
        exact aI (aX (aG (⟨rfl, _, (oI h2).symm, .eq (by kernel_rfl), hO, hN⟩)))
      refine cQ 4 ?_
      obtain rfl := oI h2
      obtain rfl : _ = rr1 := ho1
      replace h1 : eZ cmp2 aB n1 aO a7 = some out1 := h1
      exact aI (aR (aR (bH (aG (⟨rfl, _, _, .eq (by kernel_rfl), hO, hN, h1⟩)))))
    refine cQ 2 ?_
    obtain rfl := oI h1
    obtain rfl : _ = rr0 := ho0
    replace h0 : some aB = some r := h0
    obtain rfl := oI h0
    exact aI (aR (aR (bH (sY (x := (.tup [])) (by kernel_rfl) (aU.refl _) ⟨rfl, hO.ext, hO.at 0 (by kernel_rfl), by simp only [List.length_map]; exact hN.trans hN0⟩))))
  refine bP 0 ?_
  refine cP [(0, (.msl 2 lo0p 0 (List.length aB))), (1, (eI n1)), (2, (.fn (.func cmp2_f) cmp2_a cmp2_c)), (6, (eI (20 : Int))), (7, (eI (0 : Int))), (8, (eI (20 : Int)))] ?_
  refine cE (fun T H => ∃ aB : List aA, ∃ aO : Int, ∃ a7 : Int, ∃ b8 : Int, Has T [(0, (.msl 2 lo0p 0 (List.length aB))), (1, (eI n1)), (2, (.fn (.func cmp2_f) cmp2_a cmp2_c)), (6, (eI aO)), (7, (eI a7)), (8, (eI b8))] ∧ aL ⟨H0, [lo0p], []⟩ H [(lo0p, 2, List.map aD aB)] ∧ List.length aB = N0 ∧ iT cmp2 aB n1 aO a7 b8 = some r) ?_ ⟨aB, (20 : Int), (0 : Int), (20 : Int), .eq (by kernel_rfl), hO, hN, h0⟩
  clear hO hN h0
  rintro T H ⟨aB, aO, a7, b8, hT, hO, hN, h0⟩
  refine aY hT ?_
  clear hT
  unfold iT at h0
  obtain ⟨rr0, hl0, h0⟩ := aV h0
  refine bU (by kernel_rfl) (fun (s : List aA × Int × Int) T H => Has T [(0, (.msl 2 lo0p 0 (List.length s.1))), (1, (eI n1)), (2, (.fn (.func cmp2_f) cmp2_a cmp2_c)), (6, (eI aO)), (7, (eI s.2.1)), (8, (eI s.2.2))] ∧ aL ⟨H0, [lo0p], []⟩ H [(lo0p, 2, List.map aD s.1)] ∧ List.length s.1 = N0) hl0 ⟨.eq (by kernel_rfl), hO, hN⟩ ?_
  clear hO hN
  rintro k0 s out1 T H ⟨hT, hO, hN⟩ h1 ho0
  obtain ⟨aB, a7, b8⟩ := s
  replace h1 : iH cmp2 n1 aO aB a7 b8 = some out1 := h1
  dsimp only at hT
  refine aY hT ?_
  clear hT
  unfold iH at h1
  refine aM ?_
  refine aT aF 3 [] [(13, (aK (decide (b8 ≤ n1))))] ?_
  refine bE h1 (fun h1 => ?_) (fun h1 => ?_)
  · refine bF ?_
    refine bD [(0, (.msl 2 lo0p 0 (List.length aB))), (1, (eI n1)), (2, (.fn (.func cmp2_f) cmp2_a cmp2_c)), (6, (eI aO)), (7, (eI a7)), (8, (eI b8))] ?_
    refine bP 1 ?_
    refine aM ?_
    refine aS aF 5 ?_
    refine bK 4 ?_
    obtain ⟨x14, hx15, h1⟩ := aV h1
    refine pL [(lo0p, 2, List.map aD x14)] 0 (nX lo0p aB a7 b8 cmp2_f cmp2_a cmp2_c cmp2 cmp2_h _ hx15) hO ?_
    intro H hO hl16
    simp only [List.length_map] at hl16
    replace hN := hl16.trans hN
    refine dO ?_
    refine cB (l := [(0, (.msl 2 lo0p 0 (List.length x14))), (1, (eI n1)), (2, (.fn (.func cmp2_f) cmp2_a cmp2_c)), (6, (eI aO)), (8, (eI b8))]) ⟨[(0, (.msl 2 lo0p 0 (List.length aB))), (1, (eI n1)), (2, (.fn (.func cmp2_f) cmp2_a cmp2_c)), (6, (eI aO)), (8, (eI b8))], by kernel_rfl, rfl, ⟨aU.eq (by simp [hl16]), aU.refl _, aU.refl _, aU.refl _, aU.refl _, trivial⟩⟩ ?_
    refine aI (aG (?_))
    refine aT aF 2 [] [(7, (eI b8))] ?_
    refine aS aF 4 ?_
    refine aZ ?_
    exact aI (aX (aG (⟨rfl, _, (oI h1).symm, .eq (by kernel_rfl), hO, hN⟩)))
  refine cQ 0 ?_
  obtain rfl := oI h1
  obtain rfl : _ = rr0 := ho0
  replace h0 : fB cmp2 aB n1 aO a7 = some r := h0
  exact aI (aR (aR (bH (aG (⟨rfl, _, _, _, .eq (by kernel_rfl), hO, hN, h0⟩)))))

theorem sW (lo0p : Nat) (x0 : (List aA)) (cmp1_f : Nat) (cmp1_a cmp1_c : List V) (cmp1 : aA → aA → Option Int) (cmp1_h : ∀ a0 a1 r, cmp1 a0 a1 = some r → bR Tryz.prog cmp1_f (cmp1_a ++ [(aD a0), (aD a1)] ++ cmp1_c) (eI r)) (r : List aA) (h0 : dG x0 cmp1 = some r) : lS Tryz.prog 81 lo0p 2 (List.map aD x0) (List.map aD r) [(.msl 2 lo0p 0 (List.length x0)), (.fn (.func cmp1_f) cmp1_a cmp1_c)] (.tup []) := by
  intro H0 hl0
  refine cA Tryz.func81 ?_
  have hO := aL.qF hl0
  clear hl0
  obtain ⟨N0, hN0⟩ : ∃ n, n = List.length x0 := ⟨_, rfl⟩
  have hN : List.length x0 = N0 := hN0.symm
  unfold dG at h0
  refine aS aF 5 ?_
  refine bK 4 ?_
  obtain ⟨x1, hx2, h0⟩ := aV h0
  refine pL [(lo0p, 2, List.map aD x1)] 0 (zM lo0p x0 (lN x0) cmp1_f cmp1_a cmp1_c cmp1 cmp1_h _ hx2) hO ?_
  intro H hO hl3
  simp only [List.length_map] at hl3
  replace hN := hl3.trans hN
  refine dO ?_
  refine cB (l := [(0, (.msl 2 lo0p 0 (List.length x1)))]) ⟨[(0, (.msl 2 lo0p 0 (List.length x0)))], by kernel_rfl, rfl, ⟨aU.eq (by simp [hl3]), trivial⟩⟩ ?_
  obtain rfl := oI h0
  exact aI (sY (x := (.tup [])) (by kernel_rfl) (aU.refl _) ⟨rfl, hO.ext, hO.at 0 (by kernel_rfl), by simp only [List.length_map]; exact hN.trans hN0⟩)

theorem RO (a0 : aA) (b1 : aA) (r : Int) (h0 : nJ a0 b1 = some r) : bR Tryz.prog 82 [(aD a0), (aD b1)] (eI r) := by
  intro H0
  refine cA Tryz.func82 ?_
  have hO := aL.start H0
  unfold nJ at h0
  refine aM ?_
  refine aS aF 3 ?_
  refine jF 2 (aD a0) (by kernel_rfl) (by kernel_rfl) ?_
  refine jF 2 (aD b1) (by kernel_rfl) (by kernel_rfl) ?_
  refine aZ ?_
  refine bD [(2, (.rp (aD a0))), (3, (.rp (aD b1)))] ?_
  refine aM ?_
  refine aS aF 6 ?_
  refine bK 4 ?_
  obtain ⟨x1, hx2, h0⟩ := aV h0
  refine bW (xD a0.At b1.At _ hx2) hO ?_
  intro H hO
  refine aZ ?_
  refine bD [(4, (eI x1))] ?_
  refine bG ?_
  obtain rfl := oI h0
  exact aI (Q_r hO)

theorem rO (f0 : (List aA)) (r : Bool) (h0 : kO f0 = some r) : bR Tryz.prog 37 [(eL aD f0)] (aK r) := by
  intro H0
  refine cA Tryz.func37 ?_
  have hO := aL.start H0
  unfold kO at h0
  refine aT aF 1 [] [] ?_
  refine aM ?_
  refine aT aF 3 [] [(8, (aK (decide ((1024 : Int) < (lN f0)))))] ?_
  refine bE h0 (fun h0 => ?_) (fun h0 => ?_)
  · refine bO aF 1 [(2, (aK false))] ?_
    refine bG ?_
    obtain rfl := oI h0
    exact aI (aP (Q_r hO))
  refine bF ?_
  refine bD [(0, (eL aD f0))] ?_
  refine aT aF 1 [] [(3, (eI (-2 : Int)))] ?_
  refine cC (fun T H => Has T [] ∧ aL ⟨H0, [], []⟩ H [] ∧ xY  = some r) ?_ ?_
  · clear hO h0
    rintro T H ⟨hT, hO, h0⟩
    refine aY hT ?_
    clear hT
    unfold xY at h0
    refine bO aF 1 [(2, (aK true))] ?_
    refine bG ?_
    obtain rfl := oI h0
    exact aI (Q_r hO)
  refine aT aF 3 [0] [(9, (eL aD f0)), (10, (eI (lN f0))), (11, (eI (0 : Int)))] ?_
  refine bP 0 ?_
  refine cP [(3, (eI (-2 : Int))), (9, (eL aD f0)), (10, (eI (lN f0))), (11, (eI (0 : Int)))] ?_
  refine cE (fun T H => ∃ sD : Int, ∃ t9 : (List aA), ∃ t10 : Int, ∃ t11 : Int, Has T [(3, (eI sD)), (9, (eL aD t9)), (10, (eI t10)), (11, (eI t11))] ∧ aL ⟨H0, [], []⟩ H [] ∧ BL sD t9 t10 t11 = some r) ?_ ⟨(-2 : Int), f0, (lN f0), (0 : Int), .eq (by kernel_rfl), hO, h0⟩
  clear hO h0
  rintro T H ⟨sD, t9, t10, t11, hT, hO, h0⟩
  refine aY hT ?_
  clear hT
  unfold BL at h0
  obtain ⟨rr0, hl0, h0⟩ := aV h0
  refine bU (by kernel_rfl) (fun (s : Int × Int) T H => Has T [(3, (eI s.1)), (9, (eL aD t9)), (10, (eI t10)), (11, (eI s.2))] ∧ aL ⟨H0, [], []⟩ H []) hl0 ⟨.eq (by kernel_rfl), hO⟩ ?_
  clear hO
  rintro k0 s out1 T H ⟨hT, hO⟩ h1 ho0
  obtain ⟨sD, t11⟩ := s
  replace h1 : mW t9 t10 sD t11 = some out1 := h1
  dsimp only at hT
  refine aY hT ?_
  clear hT
  unfold mW at h1
  refine aT aF 1 [] [(12, (aK (decide (t11 < t10))))] ?_
  refine aM ?_
  refine bE h1 (fun h1 => ?_) (fun h1 => ?_)
  · refine bF ?_
    refine bD [(3, (eI sD)), (9, (eL aD t9)), (10, (eI t10)), (11, (eI t11))] ?_
    refine aM ?_
    refine bP 1 ?_
    refine aM ?_
    refine aS aF 4 ?_
    obtain ⟨c3, h1⟩ := bA h1
    refine mP 2 [0 ≤ t11 ∧ t11 < (lN t9)] ⟨c3, trivial⟩ ?_
    refine sX 2 (aD (aA.mk 0 0)) (by kernel_rfl) (by kernel_rfl) hO ?_
    intro lo4 H hO
    refine rT 0 lo4 2 0 (aD (aA.mk 0 0)) (aD (gD t9 t11)) [(aD (aA.mk 0 0))] [(lo4, 2, [(aD (gD t9 t11))])] hO rfl (by kernel_rfl) ?_
    intro H hO
    refine dO ?_
    refine bN [] [(5, (.lp lo4 0 0))] ?_
    refine aM ?_
    refine aM ?_
    refine aS aF 20 ?_
    refine bK 1 ?_
    refine BH 0 lo4 2 0 (aD (gD t9 t11)) (eI ((gD t9 t11).At)) [(aD (gD t9 t11))] hO rfl ?_
    refine bK 6 ?_
    refine BE [(19, false)] 0 lo4 2 0 (aD (gD t9 t11)) (eI ((gD t9 t11).At)) [(aD (gD t9 t11))] (by kernel_rfl) (by kernel_rfl) hO (by kernel_rfl) (!(decide (((gD t9 t11).At) ≤ sD))) (by kernel_rfl) (fun hb5 => rfl) ?_
    refine bK 11 ?_
    refine BE [(24, false)] 0 lo4 2 0 (aD (gD t9 t11)) (eI ((gD t9 t11).Net)) [(aD (gD t9 t11))] (by kernel_rfl) (by kernel_rfl) hO (by kernel_rfl) (!((decide (((gD t9 t11).At) ≤ sD)) || (decide ((1125899906842624 : Int) ≤ ((gD t9 t11).At))))) (by kernel_rfl) (fun hb6 => rfl) ?_
    refine bK 16 ?_
    refine BE [(29, false)] 0 lo4 2 0 (aD (gD t9 t11)) (eI ((gD t9 t11).Net)) [(aD (gD t9 t11))] (by kernel_rfl) (by kernel_rfl) hO (by kernel_rfl) (!(((decide (((gD t9 t11).At) ≤ sD)) || (decide ((1125899906842624 : Int) ≤ ((gD t9 t11).At)))) || (decide (((gD t9 t11).Net) = (0 : Int))))) (by kernel_rfl) (fun hb7 => rfl) ?_
    obtain ⟨x8, hx9, h1⟩ := aV h1
    refine jQ [(29, false)] 69 [(eI ((gD t9 t11).Net))] (aK x8) (!(((decide (((gD t9 t11).At) ≤ sD)) || (decide ((1125899906842624 : Int) ≤ ((gD t9 t11).At)))) || (decide (((gD t9 t11).Net) = (0 : Int))))) (by kernel_rfl) (by kernel_rfl) (by kernel_rfl) (fun hb10 => (LM ((gD t9 t11).Net) _ (jI hx9 hb10))) hO ?_
    intro H hO
    refine aZ ?_
    refine bN [3] [(34, (aK ((((decide (((gD t9 t11).At) ≤ sD)) || (decide ((1125899906842624 : Int) ≤ ((gD t9 t11).At)))) || (decide (((gD t9 t11).Net) = (0 : Int)))) || (!x8))))] ?_
    refine bE h1 (fun h1 => ?_) (fun h1 => ?_)
    · refine aM ?_
      refine aS aF 1 ?_
      refine aZ ?_
      refine cR [(2, (aK false))] ?_
      replace hO := hO.pick (L' := []) [] (by decide) (by kernel_rfl)
      refine aI (aG (?_))
      refine bG ?_
      obtain rfl := oI h1
      obtain rfl : _ = rr0 := ho0
      replace h0 : some false = some r := h0
      obtain rfl := oI h0
      exact aI (aP (bL (aP (aP (bL (aP (Q_r hO)))))))
    refine bF ?_
    refine bD [(5, (.lp lo4 0 0)), (9, (eL aD t9)), (10, (eI t10)), (11, (eI t11))] ?_
    refine aS aF 3 ?_
    refine bK 1 ?_
    refine BH 0 lo4 2 0 (aD (gD t9 t11)) (eI ((gD t9 t11).At)) [(aD (gD t9 t11))] hO rfl ?_
    refine aZ ?_
    refine cR [(3, (eI ((gD t9 t11).At))), (9, (eL aD t9)), (10, (eI t10)), (11, (eI t11))] ?_
    replace hO := hO.pick (L' := []) [] (by decide) (by kernel_rfl)
    refine aI (aX (aG (?_)))
    refine aS aF 2 ?_
    refine aZ ?_
    exact aI (aG (⟨rfl, _, (oI h1).symm, .eq (by kernel_rfl), hO⟩))
  refine cQ 0 ?_
  obtain rfl := oI h1
  obtain rfl : _ = rr0 := ho0
  replace h0 : xY  = some r := h0
  exact aI (aR (aR (bH (aG (⟨rfl, .eq (by kernel_rfl), hO, h0⟩)))))

theorem BR (f0 : (List aA)) (r : ((List aA) × Int)) (h0 : oH f0 = some r) : bR Tryz.prog 63 [(eL aD f0)] (.tup [(eL aD r.1), (eI r.2)]) := by
  intro H0
  refine cA Tryz.func63 ?_
  have hO := aL.start H0
  unfold oH at h0
  refine aT aF 2 [] [] ?_
  refine aM ?_
  refine aM ?_
  refine aS aF 3 ?_
  refine bK 1 ?_
  obtain ⟨x1, hx2, h0⟩ := aV h0
  refine bW (rO f0 _ hx2) hO ?_
  intro H hO
  refine aZ ?_
  refine bN [] [(6, (aK (!x1)))] ?_
  refine bE h0 (fun h0 => ?_) (fun h0 => ?_)
  · refine bO aF 2 [(2, (.sl true 0 (fun _ => .bad))), (3, (eI (7 : Int)))] ?_
    refine bG ?_
    refine cB (l := [(2, (eL aD ([]))), (3, (eI (7 : Int)))]) ⟨[(2, (.sl true 0 (fun _ => .bad))), (3, (eI (7 : Int)))], by kernel_rfl, rfl, ⟨cT, aU.refl _, trivial⟩⟩ ?_
    obtain rfl := oI h0
    exact aI (aP (Q_r hO))
  refine bF ?_
  refine bD [(0, (eL aD f0))] ?_
  refine bO aF 3 [(2, (eL aD f0)), (3, (eI (0 : Int)))] ?_
  refine bG ?_
  obtain rfl := oI h0
  exact aI (Q_r hO)

theorem XN (l0 : (List aA)) (r : ((List aA) × Int)) (h0 : xT l0 = some r) : bR Tryz.prog 50 [(eL aD l0)] (.tup [(eL aD r.1), (eI r.2)]) := by
  intro H0
  refine cA Tryz.func50 ?_
  have hO := aL.start H0
  unfold xT at h0
  refine aT aF 2 [] [] ?_
  refine aM ?_
  refine aM ?_
  refine aS aF 2 ?_
  refine bK 1 ?_
  obtain ⟨x1, hx2, h0⟩ := aV h0
  refine bW (nO l0 79 [] [] (fun y0 => tW y0) (fun y0 r h => RS y0 r h) _ hx2) hO ?_
  intro H hO
  refine dO ?_
  refine bN [] [(9, (aK x1))] ?_
  refine bE h0 (fun h0 => ?_) (fun h0 => ?_)
  · refine bO aF 2 [(2, (.sl true 0 (fun _ => .bad))), (3, (eI (2 : Int)))] ?_
    refine bG ?_
    refine cB (l := [(2, (eL aD ([]))), (3, (eI (2 : Int)))]) ⟨[(2, (.sl true 0 (fun _ => .bad))), (3, (eI (2 : Int)))], by kernel_rfl, rfl, ⟨cT, aU.refl _, trivial⟩⟩ ?_
    obtain rfl := oI h0
    exact aI (aP (Q_r hO))
  refine bF ?_
  refine bD [(0, (eL aD l0))] ?_
  refine aM ?_
  refine aM ?_
  refine aS aF 2 ?_
  refine bK 1 ?_
  obtain ⟨x5, hx6, h0⟩ := aV h0
  refine bW (nO l0 80 [] [] (fun y0 => tS y0) (fun y0 r h => RH y0 r h) _ hx6) hO ?_
  intro H hO
  refine dO ?_
  refine bN [] [(11, (aK x5))] ?_
  refine bE h0 (fun h0 => ?_) (fun h0 => ?_)
  · refine bO aF 2 [(2, (.sl true 0 (fun _ => .bad))), (3, (eI (13 : Int)))] ?_
    refine bG ?_
    refine cB (l := [(2, (eL aD ([]))), (3, (eI (13 : Int)))]) ⟨[(2, (.sl true 0 (fun _ => .bad))), (3, (eI (13 : Int)))], by kernel_rfl, rfl, ⟨cT, aU.refl _, trivial⟩⟩ ?_
    obtain rfl := oI h0
    exact aI (aP (Q_r hO))
  refine bF ?_
  refine bD [(0, (eL aD l0))] ?_
  refine aM ?_
  refine aS aF 3 ?_
  refine bK 1 ?_
  obtain ⟨x9, hx10, h0⟩ := aV h0
  refine GH (L' := fun lo11 => [(lo11, 2, List.map aD x9)]) 2 (List.map aD x9) 62 [(eL aD l0)] (fun lo11 => (.msl 2 lo11 0 (List.length x9))) (by kernel_rfl) (by kernel_rfl) (mG l0 _ hx10) hO (fun _ => by kernel_rfl) ?_
  intro lo11 H hO
  refine aZ ?_
  refine bD [(4, (.msl 2 lo11 0 (List.length x9)))] ?_
  refine aM ?_
  refine aS aF 2 ?_
  refine bK 1 ?_
  obtain ⟨x12, hx13, h0⟩ := aV h0
  refine pL [(lo11, 2, List.map aD x12)] 0 (sW lo11 x9 82 [] [] (fun y0 y1 => nJ y0 y1) (fun y0 y1 r h => RO y0 y1 r h) _ hx13) hO ?_
  intro H hO hl14
  simp only [List.length_map] at hl14
  refine dO ?_
  refine cB (l := [(4, (.msl 2 lo11 0 (List.length x12)))]) ⟨[(4, (.msl 2 lo11 0 (List.length x9)))], by kernel_rfl, rfl, ⟨aU.eq (by simp [hl14]), trivial⟩⟩ ?_
  refine aI (aG (?_))
  refine aM ?_
  refine aS aF 2 ?_
  refine fE (xs := []) (k := 2) (by kernel_rfl) (by kernel_rfl) ?_
  refine aZ ?_
  refine bN [] [(5, (.sl true 0 (fun _ => .bad)))] ?_
  refine cC (fun T H => ∃ out5 : List aA, ∃ lo15 : Nat, Has T [(5, (.msl 2 lo15 0 (List.length out5)))] ∧ aL ⟨H0, [], []⟩ H [(lo15, 2, List.map aD out5)] ∧ vG out5 = some r) ?_ ?_
  · clear hO h0
    rintro T H ⟨out5, lo15, hT, hO, h0⟩
    refine aY hT ?_
    clear hT
    unfold vG at h0
    refine aM ?_
    refine aS aF 6 ?_
    refine oR (e := aD) out5 0 5 2 lo15 (List.length out5) [] (by kernel_rfl) hO (by kernel_rfl) (by kernel_rfl) (by kernel_rfl) (by kernel_rfl) ?_
    intro H hO
    refine bK 1 ?_
    obtain ⟨x16, hx17, h0⟩ := aV h0
    refine bW (BR out5 _ hx17) hO ?_
    intro H hO
    refine aZ ?_
    refine bD [(2, (eL aD x16.1)), (3, (eI x16.2))] ?_
    refine bG ?_
    obtain rfl := oI h0
    exact aI (Q_r hO)
  refine aT aF 1 [] [(6, (eI (0 : Int)))] ?_
  refine bP 0 ?_
  refine cP [(4, (.msl 2 lo11 0 (List.length x12))), (5, (.sl true 0 (fun _ => .bad))), (6, (eI (0 : Int)))] ?_
  refine rP (el := (fun _ => .bad)) 1 5 2 hO (by kernel_rfl) ?_
  intro lo43 H44 hO
  refine cE (fun T H => ∃ all4 : List aA, ∃ out5 : List aA, ∃ i6 : Int, ∃ lo21 : Nat, ∃ lo22 : Nat, Has T [(4, (.msl 2 lo21 0 (List.length all4))), (5, (.msl 2 lo22 0 (List.length out5))), (6, (eI i6))] ∧ aL ⟨H0, [], []⟩ H [(lo21, 2, List.map aD all4), (lo22, 2, List.map aD out5)] ∧ AF all4 out5 i6 = some r) ?_ ⟨x12, ([] : List aA), (0 : Int), lo11, lo43, .eq (by kernel_rfl), hO, h0⟩
  clear hO h0
  rintro T H ⟨all4, out5, i6, lo21, lo22, hT, hO, h0⟩
  refine aY hT ?_
  clear hT
  unfold AF at h0
  obtain ⟨rr0, hl0, h0⟩ := aV h0
  refine bU (by kernel_rfl) (fun (s : List aA × List aA × Int) T H => ∃ lo21 : Nat, ∃ lo22 : Nat, Has T [(4, (.msl 2 lo21 0 (List.length s.1))), (5, (.msl 2 lo22 0 (List.length s.2.1))), (6, (eI s.2.2))] ∧ aL ⟨H0, [], []⟩ H [(lo21, 2, List.map aD s.1), (lo22, 2, List.map aD s.2.1)]) hl0 ⟨lo21, lo22, .eq (by kernel_rfl), hO⟩ ?_
  clear hO
  rintro k0 s out1 T H ⟨lo21, lo22, hT, hO⟩ h1 ho0
  obtain ⟨all4, out5, i6⟩ := s
  replace h1 : lU all4 out5 i6 = some out1 := h1
  dsimp only at hT
  refine aY hT ?_
  clear hT
  unfold lU at h1
  refine aM ?_
  refine aT aF 4 [] [(20, (aK (decide (i6 < (lN all4)))))] ?_
  refine bE h1 (fun h1 => ?_) (fun h1 => ?_)
  · refine bF ?_
    refine bD [(4, (.msl 2 lo21 0 (List.length all4))), (5, (.msl 2 lo22 0 (List.length out5))), (6, (eI i6))] ?_
    refine bP 1 ?_
    refine aM ?_
    refine aS aF 8 ?_
    obtain ⟨c24, h1⟩ := bA h1
    refine mP 4 [0 ≤ i6 ∧ i6 < (lN all4)] ⟨c24, trivial⟩ ?_
    refine BH 0 lo21 2 (0 + Int.toNat i6) (aD (gD all4 i6)) (eI ((gD all4 i6).At)) (List.map aD all4) hO (cS c24) ?_
    refine bK 6 ?_
    refine sX 2 (aD (aA.mk 0 0)) (by kernel_rfl) (by kernel_rfl) hO ?_
    intro lo25 H hO
    refine rT 2 lo25 2 0 (aD (aA.mk 0 0)) (aD (aA.mk ((gD all4 i6).At) 0)) [(aD (aA.mk 0 0))] [(lo21, 2, List.map aD all4), (lo22, 2, List.map aD out5), (lo25, 2, [(aD (aA.mk ((gD all4 i6).At) 0))])] hO rfl (by kernel_rfl) ?_
    intro H hO
    refine dO ?_
    refine bN [] [(7, (.lp lo25 0 0))] ?_
    refine cC (fun T H => ∃ all4 : List aA, ∃ out5 : List aA, ∃ i6 : Int, ∃ j7 : aA, ∃ lo26 : Nat, ∃ lo27 : Nat, ∃ lo28 : Nat, Has T [(4, (.msl 2 lo26 0 (List.length all4))), (5, (.msl 2 lo27 0 (List.length out5))), (6, (eI i6)), (7, (.lp lo28 0 0))] ∧ aL ⟨H0, [], []⟩ H [(lo26, 2, List.map aD all4), (lo27, 2, List.map aD out5), (lo28, 2, [(aD j7)])] ∧ vK all4 out5 i6 j7 = some out1) ?_ ?_
    · clear hO h1
      rintro T H ⟨all4, out5, i6, j7, lo26, lo27, lo28, hT, hO, h1⟩
      refine aY hT ?_
      clear hT
      unfold vK at h1
      refine aM ?_
      refine aS aF 8 ?_
      refine bK 1 ?_
      refine BH 2 lo28 2 0 (aD j7) (eI j7.Net) [(aD j7)] hO rfl ?_
      refine bK 5 ?_
      refine BE [(55, true)] 2 lo28 2 0 (aD j7) (eI j7.At) [(aD j7)] (by kernel_rfl) (by kernel_rfl) hO (by kernel_rfl) (!decide (j7.Net = (0 : Int))) (by kernel_rfl) (fun hb29 => rfl) ?_
      refine aZ ?_
      refine bN [] [(59, (aK ((!decide (j7.Net = (0 : Int))) && (decide (j7.At < (1125899906842624 : Int))))))] ?_
      refine bE h1 (fun h1 => ?_) (fun h1 => ?_)
      · refine aS aF 5 ?_
        refine bK 1 ?_
        refine BH 2 lo28 2 0 (aD j7) (aD j7) [(aD j7)] hO rfl ?_
        refine fE (xs := [(aD j7)]) (k := 2) (by kernel_rfl) (by kernel_rfl) ?_
        obtain ⟨c32, h1⟩ := bA h1
        refine nB (e := aD) out5 ([j7]) 1 lo27 2 16 (dL [(aD j7)]) (fun lo31 => [(lo26, 2, List.map aD all4), (lo31, 2, List.map aD (out5 ++ ([j7]))), (lo28, 2, [(aD j7)])]) (by kernel_rfl) (by kernel_rfl) hO (by kernel_rfl) (by kernel_rfl) c32 (fun _ => by kernel_rfl) ?_
        intro lo31 H hO
        refine aZ ?_
        replace hO := hO.pick (L' := [(lo26, 2, List.map aD all4), (lo31, 2, List.map aD (out5 ++ ([j7])))]) [0, 1] (by decide) (by kernel_rfl)
        exact aI (aX (aG (⟨rfl, _, (oI h1).symm, _, _, .eq (by kernel_rfl), hO⟩)))
      refine bF ?_
      replace hO := hO.pick (L' := [(lo26, 2, List.map aD all4), (lo27, 2, List.map aD out5)]) [0, 1] (by decide) (by kernel_rfl)
      exact aI (aX (aG (⟨rfl, _, (oI h1).symm, _, _, .eq (by kernel_rfl), hO⟩)))
    refine bP 2 ?_
    refine cP [(4, (.msl 2 lo21 0 (List.length all4))), (5, (.msl 2 lo22 0 (List.length out5))), (6, (eI i6)), (7, (.lp lo25 0 0))] ?_
    refine cE (fun T H => ∃ all4 : List aA, ∃ out5 : List aA, ∃ i6 : Int, ∃ j7 : aA, ∃ lo36 : Nat, ∃ lo37 : Nat, ∃ lo38 : Nat, Has T [(4, (.msl 2 lo36 0 (List.length all4))), (5, (.msl 2 lo37 0 (List.length out5))), (6, (eI i6)), (7, (.lp lo38 0 0))] ∧ aL ⟨H0, [], []⟩ H [(lo36, 2, List.map aD all4), (lo37, 2, List.map aD out5), (lo38, 2, [(aD j7)])] ∧ zT all4 out5 i6 j7 = some out1) ?_ ⟨all4, out5, i6, aA.mk ((gD all4 i6).At) 0, lo21, lo22, lo25, .eq (by kernel_rfl), hO, h1⟩
    clear hO h1
    rintro T H ⟨all4, out5, i6, j7, lo36, lo37, lo38, hT, hO, h1⟩
    refine aY hT ?_
    clear hT
    unfold zT at h1
    obtain ⟨rr1, hl1, h1⟩ := aV h1
    refine bU (by kernel_rfl) (fun (s : List aA × List aA × Int × aA) T H => ∃ lo36 : Nat, ∃ lo37 : Nat, ∃ lo38 : Nat, Has T [(4, (.msl 2 lo36 0 (List.length s.1))), (5, (.msl 2 lo37 0 (List.length s.2.1))), (6, (eI s.2.2.1)), (7, (.lp lo38 0 0))] ∧ aL ⟨H0, [], []⟩ H [(lo36, 2, List.map aD s.1), (lo37, 2, List.map aD s.2.1), (lo38, 2, [(aD s.2.2.2)])]) hl1 ⟨lo36, lo37, lo38, .eq (by kernel_rfl), hO⟩ ?_
    clear hO
    rintro k1 s out2 T H ⟨lo36, lo37, lo38, hT, hO⟩ h2 ho1
    obtain ⟨all4, out5, i6, j7⟩ := s
    replace h2 : jZ all4 out5 i6 j7 = some out2 := h2
    dsimp only at hT
    refine aY hT ?_
    clear hT
    unfold jZ at h2
    refine aM ?_
    refine aM ?_
    obtain ⟨c39, h2⟩ := bA h2
    refine fG (fF []) aF 14 ?_
    refine xU (K := fun T H => Has (lift T) [(4, (.msl 2 lo36 0 (List.length all4))), (5, (.msl 2 lo37 0 (List.length out5))), (6, (eI i6)), (7, (.lp lo38 0 0)), (40, (aK ((decide (i6 < (lN all4))) && (decide (((gD all4 i6).At) = j7.At)))))] ∧ aL ⟨H0, [], []⟩ H [(lo36, 2, List.map aD all4), (lo37, 2, List.map aD out5), (lo38, 2, [(aD j7)])]) ?_ ?_
    · refine sQ 5 ?_
      refine sF (t := 31) (e := decide (i6 < (lN all4))) (by kernel_rfl) (fun hg40 => ?_) (fun hg40 => ?_)
      · refine cU 9 [0 ≤ i6 ∧ i6 < (lN all4)] ⟨(c39 hg40), trivial⟩ ?_
        refine zF 0 lo36 2 (0 + Int.toNat i6) (aD (gD all4 i6)) (eI ((gD all4 i6).At)) (List.map aD all4) (by kernel_rfl) (by kernel_rfl) (by kernel_rfl) hO (by kernel_rfl) (cS (c39 hg40)) ?_
        refine sQ 11 ?_
        refine zF 2 lo38 2 0 (aD j7) (eI j7.At) [(aD j7)] (by kernel_rfl) (by kernel_rfl) (by kernel_rfl) hO (by kernel_rfl) rfl ?_
        refine jU ?_
        exact ⟨⟨[(4, (.msl 2 lo36 0 (List.length all4))), (5, (.msl 2 lo37 0 (List.length out5))), (6, (eI i6)), (7, (.lp lo38 0 0)), (40, (aK (decide (((gD all4 i6).At) = j7.At))))], by kernel_rfl, rfl, ⟨aU.refl _, aU.refl _, aU.refl _, aU.refl _, aU.eq (congrArg aK (rZ hg40 rfl).symm), trivial⟩⟩, hO⟩
      refine jU ?_
      exact ⟨⟨[(4, (.msl 2 lo36 0 (List.length all4))), (5, (.msl 2 lo37 0 (List.length out5))), (6, (eI i6)), (7, (.lp lo38 0 0)), (40, (aK false))], by kernel_rfl, rfl, ⟨aU.refl _, aU.refl _, aU.refl _, aU.refl _, aU.eq (congrArg aK (rZ hg40 rfl).symm), trivial⟩⟩, hO⟩
    · rintro T H ⟨hT, hO⟩
      refine cB hT ?_
      clear hT
      refine aI (aG ?_)
      refine bE h2 (fun h2 => ?_) (fun h2 => ?_)
      · refine bF ?_
        refine bD [(4, (.msl 2 lo36 0 (List.length all4))), (5, (.msl 2 lo37 0 (List.length out5))), (6, (eI i6)), (7, (.lp lo38 0 0))] ?_
        refine aM ?_
        refine bP 3 ?_
        refine fG (fF []) aF 10 ?_
        refine sQ 1 ?_
        refine mC 2 lo38 2 0 (aD j7) (eI j7.Net) [(aD j7)] hO rfl ?_
        obtain ⟨c42, h2⟩ := bA h2
        refine cU 6 [0 ≤ i6 ∧ i6 < (lN all4)] ⟨c42, trivial⟩ ?_
        refine mC 0 lo36 2 (0 + Int.toNat i6) (aD (gD all4 i6)) (eI ((gD all4 i6).Net)) (List.map aD all4) hO (cS c42) ?_
        refine sQ 9 ?_
        refine wN 2 lo38 2 0 (aD j7) (aD (aA.mk j7.At (wR (j7.Net + ((gD all4 i6).Net))))) [(aD j7)] [(lo36, 2, List.map aD all4), (lo37, 2, List.map aD out5), (lo38, 2, [(aD (aA.mk j7.At (wR (j7.Net + ((gD all4 i6).Net)))))])] hO rfl (by kernel_rfl) ?_
        intro H hO
        refine DC (by kernel_rfl) ?_
        refine cR [(4, (.msl 2 lo36 0 (List.length all4))), (5, (.msl 2 lo37 0 (List.length out5))), (6, (eI i6)), (7, (.lp lo38 0 0))] ?_
        refine aI (aX (aG (?_)))
        refine aS aF 3 ?_
        refine aZ ?_
        exact aI (aG (⟨rfl, _, (oI h2).symm, _, _, _, .eq (by kernel_rfl), hO⟩))
      refine cQ 2 ?_
      obtain rfl := oI h2
      obtain rfl : _ = rr1 := ho1
      replace h1 : vK all4 out5 i6 j7 = some out1 := h1
      exact aI (aR (aR (bH (aG (⟨rfl, _, _, _, _, _, _, _, .eq (by kernel_rfl), hO, h1⟩)))))
  refine cQ 0 ?_
  replace hO := hO.pick (L' := [(lo22, 2, List.map aD out5)]) [1] (by decide) (by kernel_rfl)
  obtain rfl := oI h1
  obtain rfl : _ = rr0 := ho0
  replace h0 : vG out5 = some r := h0
  exact aI (aR (aR (bH (aG (⟨rfl, _, _, .eq (by kernel_rfl), hO, h0⟩)))))

theorem RK (f0 : (List aA)) (r : ((List aA) × Int)) (h0 : tM f0 = some r) : bR Tryz.prog 49 [(eL aD f0)] (.tup [(eL aD r.1), (eI r.2)]) := by
  intro H0
  refine cA Tryz.func49 ?_
  have hO := aL.start H0
  unfold tM at h0
  refine aT aF 2 [] [] ?_
  refine aM ?_
  refine aS aF 6 ?_
  refine bK 1 ?_
  obtain ⟨x1, hx2, h0⟩ := aV h0
  refine bW (XN f0 _ hx2) hO ?_
  intro H hO
  refine aZ ?_
  refine bD [(2, (eL aD x1.1)), (3, (eI x1.2))] ?_
  refine bG ?_
  obtain rfl := oI h0
  exact aI (Q_r hO)

theorem LK (l0 : (List aC)) (r : ((List aC) × Int)) (h0 : uU l0 = some r) : bR Tryz.prog 16 [(eL aE l0)] (.tup [(eL aE r.1), (eI r.2)]) := by
  intro H0
  refine cA Tryz.func16 ?_
  have hO := aL.start H0
  unfold uU at h0
  refine aT aF 2 [] [] ?_
  refine aM ?_
  refine aM ?_
  refine aS aF 2 ?_
  refine bK 1 ?_
  obtain ⟨x1, hx2, h0⟩ := aV h0
  refine bW (nM l0 40 [] [] (fun y0 => tN y0) (fun y0 r h => RT y0 r h) _ hx2) hO ?_
  intro H hO
  refine dO ?_
  refine bN [] [(6, (aK x1))] ?_
  refine bE h0 (fun h0 => ?_) (fun h0 => ?_)
  · refine bO aF 2 [(2, (.sl true 0 (fun _ => .bad))), (3, (eI (2 : Int)))] ?_
    refine bG ?_
    refine cB (l := [(2, (eL aE ([]))), (3, (eI (2 : Int)))]) ⟨[(2, (.sl true 0 (fun _ => .bad))), (3, (eI (2 : Int)))], by kernel_rfl, rfl, ⟨cT, aU.refl _, trivial⟩⟩ ?_
    obtain rfl := oI h0
    exact aI (aP (Q_r hO))
  refine bF ?_
  refine bD [(0, (eL aE l0))] ?_
  refine aM ?_
  refine aM ?_
  refine aS aF 2 ?_
  refine bK 1 ?_
  obtain ⟨x5, hx6, h0⟩ := aV h0
  refine bW (nM l0 41 [] [] (fun y0 => tR y0) (fun y0 r h => RJ y0 r h) _ hx6) hO ?_
  intro H hO
  refine dO ?_
  refine bN [] [(8, (aK x5))] ?_
  refine bE h0 (fun h0 => ?_) (fun h0 => ?_)
  · refine bO aF 2 [(2, (.sl true 0 (fun _ => .bad))), (3, (eI (13 : Int)))] ?_
    refine bG ?_
    refine cB (l := [(2, (eL aE ([]))), (3, (eI (13 : Int)))]) ⟨[(2, (.sl true 0 (fun _ => .bad))), (3, (eI (13 : Int)))], by kernel_rfl, rfl, ⟨cT, aU.refl _, trivial⟩⟩ ?_
    obtain rfl := oI h0
    exact aI (aP (Q_r hO))
  refine bF ?_
  refine bD [(0, (eL aE l0))] ?_
  refine aM ?_
  refine aS aF 3 ?_
  refine bK 1 ?_
  obtain ⟨x9, hx10, h0⟩ := aV h0
  refine GH (L' := fun lo11 => [(lo11, 3, List.map aE x9)]) 3 (List.map aE x9) 42 [(eL aE l0)] (fun lo11 => (.msl 3 lo11 0 (List.length x9))) (by kernel_rfl) (by kernel_rfl) (yX l0 _ hx10) hO (fun _ => by kernel_rfl) ?_
  intro lo11 H hO
  refine aZ ?_
  refine bD [(4, (.msl 3 lo11 0 (List.length x9)))] ?_
  refine aM ?_
  refine aS aF 2 ?_
  refine bK 1 ?_
  obtain ⟨x12, hx13, h0⟩ := aV h0
  refine pL [(lo11, 3, List.map aE x12)] 0 (sV lo11 x9 44 [] [] (fun y0 y1 => nI y0 y1) (fun y0 y1 r h => RM y0 y1 r h) _ hx13) hO ?_
  intro H hO hl14
  simp only [List.length_map] at hl14
  refine dO ?_
  refine cB (l := [(4, (.msl 3 lo11 0 (List.length x12)))]) ⟨[(4, (.msl 3 lo11 0 (List.length x9)))], by kernel_rfl, rfl, ⟨aU.eq (by simp [hl14]), trivial⟩⟩ ?_
  refine aI (aG (?_))
  refine aM ?_
  refine aS aF 6 ?_
  refine oR (e := aE) x12 0 4 3 lo11 (List.length x12) [] (by kernel_rfl) hO (by kernel_rfl) (by kernel_rfl) (by kernel_rfl) (by kernel_rfl) ?_
  intro H hO
  refine bK 1 ?_
  obtain ⟨x15, hx16, h0⟩ := aV h0
  refine bW (IM x12 49 [] [] (fun y0 => tM y0) (fun y0 r h => RK y0 r h) _ hx16) hO ?_
  intro H hO
  refine aZ ?_
  refine bD [(2, (eL aE x15.1)), (3, (eI x15.2))] ?_
  refine bG ?_
  obtain rfl := oI h0
  exact aI (Q_r hO)

theorem QK (r0 : (List aH)) (s1 : nA) (r : ((List aC) × Int)) (h0 : zC r0 s1 = some r) : bR Tryz.prog 13 [(eL aJ r0), (tD s1)] (.tup [(eL aE r.1), (eI r.2)]) := by
  intro H0
  refine cA Tryz.func13 ?_
  have hO := aL.start H0
  unfold zC at h0
  refine aM ?_
  refine aS aF 3 ?_
  refine jF 2 (tD s1) (by kernel_rfl) (by kernel_rfl) ?_
  refine aZ ?_
  refine bN [1] [(3, (.rp (tD s1)))] ?_
  refine aM ?_
  refine bP 0 ?_
  refine aM ?_
  refine aS aF 4 ?_
  refine bK 1 ?_
  obtain ⟨x1, hx2, h0⟩ := aV h0
  refine bW (CL r0 _ hx2) hO ?_
  intro H hO
  refine aZ ?_
  refine bN [] [(6, (aK (!x1)))] ?_
  refine bE h0 (fun h0 => ?_) (fun h0 => ?_)
  · refine bO aF 2 [(4, (.sl true 0 (fun _ => .bad))), (5, (eI (2 : Int)))] ?_
    refine bG ?_
    refine cB (l := [(4, (eL aE ([]))), (5, (eI (2 : Int)))]) ⟨[(4, (.sl true 0 (fun _ => .bad))), (5, (eI (2 : Int)))], by kernel_rfl, rfl, ⟨cT, aU.refl _, trivial⟩⟩ ?_
    obtain rfl := oI h0
    exact aI (bL (aP (Q_r hO)))
  refine aM ?_
  refine aS aF 4 ?_
  refine bK 1 ?_
  obtain ⟨x5, hx6, h0⟩ := aV h0
  refine bW (aAa s1 _ hx6) hO ?_
  intro H hO
  refine aZ ?_
  refine bN [6] [(10, (aK (!x5)))] ?_
  refine bE h0 (fun h0 => ?_) (fun h0 => ?_)
  · refine bO aF 2 [(4, (.sl true 0 (fun _ => .bad))), (5, (eI (14 : Int)))] ?_
    refine bG ?_
    refine cB (l := [(4, (eL aE ([]))), (5, (eI (14 : Int)))]) ⟨[(4, (.sl true 0 (fun _ => .bad))), (5, (eI (14 : Int)))], by kernel_rfl, rfl, ⟨cT, aU.refl _, trivial⟩⟩ ?_
    obtain rfl := oI h0
    exact aI (bL (aP (Q_r hO)))
  refine bF ?_
  refine cR [(0, (eL aJ r0)), (3, (.rp (tD s1)))] ?_
  refine aI (aX (aG (?_)))
  refine aM ?_
  refine aS aF 14 ?_
  refine bK 8 ?_
  refine fE (xs := [(aE (aC.mk r0 s1.From (1 : Int))), (aE (aC.mk r0 s1.To (-1 : Int)))]) (k := 3) (by kernel_rfl) (by kernel_rfl) ?_
  obtain ⟨x9, hx10, h0⟩ := aV h0
  refine UD 16 [(dL [(aE (aC.mk r0 s1.From (1 : Int))), (aE (aC.mk r0 s1.To (-1 : Int)))])] (.tup [(eL aE x9.1), (eI x9.2)]) (bR.sub (LK ([aC.mk r0 s1.From (1 : Int), aC.mk r0 s1.To (-1 : Int)]) _ hx10) ⟨JD (l := [aC.mk r0 s1.From (1 : Int), aC.mk r0 s1.To (-1 : Int)]), trivial⟩) hO ?_
  intro H hO
  refine aZ ?_
  refine bD [(4, (eL aE x9.1)), (5, (eI x9.2))] ?_
  refine bG ?_
  obtain rfl := oI h0
  exact aI (Q_r hO)

theorem LC (l0 : (List aC)) (holds1_f : Nat) (holds1_a holds1_c : List V) (wL : (List aA) → Option Bool) (holds1_h : ∀ a0 r, wL a0 = some r → bR Tryz.prog holds1_f (holds1_a ++ [(eL aD a0)] ++ holds1_c) (aK r)) (r : Bool) (h0 : uR l0 wL = some r) : bR Tryz.prog 35 [(eL aE l0), (.fn (.func holds1_f) holds1_a holds1_c)] (aK r) := by
  intro H0
  refine XZ aF Tryz.func35 (by kernel_rfl) (by kernel_rfl) (by kernel_rfl) ?_
  have hO := aL.start H0
  unfold uR at h0
  refine aM ?_
  refine aS aF 2 ?_
  refine jF 1 (.fn (.func holds1_f) holds1_a holds1_c) (by kernel_rfl) (by kernel_rfl) ?_
  refine sX 1 (aK false) (by kernel_rfl) (by kernel_rfl) hO ?_
  intro lo1 H hO
  refine dO ?_
  refine bN [1] [(3, (.rp (.fn (.func holds1_f) holds1_a holds1_c))), (4, (.lp lo1 0 0))] ?_
  refine aM ?_
  refine aT aF 3 [] [(11, (aK (decide ((4096 : Int) < (lN l0)))))] ?_
  refine bE h0 (fun h0 => ?_) (fun h0 => ?_)
  · refine aM ?_
    refine aS aF 1 ?_
    refine rT 0 lo1 1 0 (aK false) (aK false) [(aK false)] [(lo1, 1, [(aK false)])] hO rfl (by kernel_rfl) ?_
    intro H hO
    refine dO ?_
    refine bD [(4, (.lp lo1 0 0))] ?_
    refine bG ?_
    obtain rfl := oI h0
    exact aI (aP (QM0 (.inr rfl) (rs := [.cell 4 4]) (xs := [(aK false)]) (x := (aK false)) (by kernel_rfl) (AZ (lo := lo1) (k := 1) (y := (aK false)) (x := (aK false)) 0 hO (by kernel_rfl) (by kernel_rfl) (by kernel_rfl) (by kernel_rfl) JT) (by kernel_rfl) ⟨rfl, hO.out⟩))
  refine bF ?_
  refine bD [(0, (eL aE l0)), (3, (.rp (.fn (.func holds1_f) holds1_a holds1_c))), (4, (.lp lo1 0 0))] ?_
  refine aM ?_
  refine aS aF 1 ?_
  refine MG 1 (.sl true 0 (fun _ => .bad)) (eL aJ ([])) (by kernel_rfl) (by kernel_rfl) (by kernel_rfl) (cT) (by kernel_rfl) (by kernel_rfl) hO ?_
  intro lo3 H hO
  refine dO ?_
  refine bN [] [(5, (.lp lo3 0 0))] ?_
  refine aM ?_
  refine aS aF 2 ?_
  refine sX 1 (aK false) (by kernel_rfl) (by kernel_rfl) hO ?_
  intro lo4 H hO
  refine rT 2 lo4 1 0 (aK false) (aK false) [(aK false)] [(lo1, 1, [(aK false)]), (lo3, 1, [(eL aJ ([]))]), (lo4, 1, [(aK false)])] hO rfl (by kernel_rfl) ?_
  intro H hO
  refine dO ?_
  refine bN [] [(6, (.lp lo4 0 0))] ?_
  refine aM ?_
  refine aM ?_
  refine aS aF 2 ?_
  refine bK 1 ?_
  obtain ⟨x5, hx6, h0⟩ := aV h0
  refine bW (LI l0 _ hx6) hO ?_
  intro H hO
  refine dO ?_
  refine bN [0] [(13, (.fn (.func 86) [] [(.rp (eL aE x5))]))] ?_
  refine bP 0 ?_
  refine cP [(3, (.rp (.fn (.func holds1_f) holds1_a holds1_c))), (4, (.lp lo1 0 0)), (5, (.lp lo3 0 0)), (6, (.lp lo4 0 0)), (13, (.fn (.func 86) [] [(.rp (eL aE x5))]))] ?_
  refine cE (fun T H => ∃ t4 : Bool, ∃ pM : (List aH), ∃ jT : Bool, ∃ kL : (List aC), ∃ lo7 : Nat, ∃ lo8 : Nat, ∃ lo9 : Nat, Has T [(3, (.rp (.fn (.func holds1_f) holds1_a holds1_c))), (4, (.lp lo7 0 0)), (5, (.lp lo8 0 0)), (6, (.lp lo9 0 0)), (13, (.fn (.func 86) [] [(.rp (eL aE kL))]))] ∧ aL ⟨H0, [], []⟩ H [(lo7, 1, [(aK t4)]), (lo8, 1, [(eL aJ pM)]), (lo9, 1, [(aK jT)])] ∧ zZ wL t4 pM jT kL = some r) ?_ ⟨false, [], false, x5, lo1, lo3, lo4, .eq (by kernel_rfl), hO, h0⟩
  clear hO h0
  rintro T H ⟨t4, pM, jT, kL, lo7, lo8, lo9, hT, hO, h0⟩
  refine aY (l := [(3, (.rp (.fn (.func holds1_f) holds1_a holds1_c))), (4, (.lp lo7 0 0)), (5, (.lp lo8 0 0)), (6, (.lp lo9 0 0)), (13, (.fn (.func 86) [] [(.rp (eL aE kL))]))]) hT ?_
  clear hT
  unfold zZ at h0
  obtain ⟨o0, hl0, h0⟩ := aV h0
  refine VQ (fid := 86) (ys := []) (cs := [(.rp (eL aE kL))]) #[14, 15] (fun (A : GY) (b lL : Nat) (st : (Bool × (List aH) × Bool) ⊕ (Bool × (List aH) × Bool)) (G' : Gs) => Sum.elim (fun (s : Bool × (List aH) × Bool) => G' = (lL, .raw (mY b A .ready none)) :: (up [(lo7, 1, [(aK s.1)]), (lo8, 1, [(eL aJ s.2.1)]), (lo9, 1, [(aK s.2.2)])] ++ [])) (fun (s : Bool × (List aH) × Bool) => G' = (lL, .raw (mY b A .done (some .ret))) :: (up [(lo7, 1, [(aK s.1)]), (lo8, 1, [(eL aJ s.2.1)]), (lo9, 1, [(aK s.2.2)])] ++ [])) st) (.inl (t4, pM, jT)) o0 (.tup []) (by kernel_rfl) (by kernel_rfl) (by kernel_rfl) hO (fun _ _ => rfl) ?_ ?_
  · intro b lL
    clear hO h0
    refine ES _ b (fun st t14 t15 => rnd (fun (s : Bool × (List aH) × Bool) => qP wL kL s.1 s.2.1 s.2.2 t14 t15) st) ?_ kL _ _ hl0
    intro st t14 t15 st2 rr hr
    obtain ⟨s, rfl, h1, rfl⟩ := aDk hr
    clear hr
    intro Hr Gr hi hg
    obtain ⟨t4, pM, jT⟩ := s
    dsimp only [Sum.elim_inl] at hi
    obtain rfl := hi
    replace h1 : qP wL kL t4 pM jT t14 t15 = some st2 := h1
    unfold qP at h1
    obtain ⟨E1, hE, hO⟩ := LR hg
    refine LO (UL (hO.gm 0 _ rfl).2 (by kernel_rfl) (by kernel_rfl) ?_)
    refine cP [(3, (.rp (.fn (.func holds1_f) holds1_a holds1_c))), (4, (.lp lo7 0 0)), (5, (.lp lo8 0 0)), (6, (.lp lo9 0 0)), (13, (.fn (.func 86) [] [(.rp (eL aE kL))])), (14, (eL aJ t14)), (15, (eL aD t15))] ?_
    refine aT aF 1 [13, 14] [(7, (eL aJ t14))] ?_
    refine aS aF 1 ?_
    refine aZ ?_
    refine cR [(3, (.rp (.fn (.func holds1_f) holds1_a holds1_c))), (4, (.lp lo7 0 0)), (5, (.lp lo8 0 0)), (6, (.lp lo9 0 0)), (7, (eL aJ t14)), (8, (eL aD t15))] ?_
    refine aI (⟨rfl, rfl, (hO.gm 0 _ rfl).2, ?_⟩)
    intro o1 ho1
    replace hO := hO.JJ o1
    refine bP 1 ?_
    refine aM ?_
    refine aM ?_
    refine aS aF 18 ?_
    refine bK 1 ?_
    obtain ⟨x10, hx11, h1⟩ := aV h1
    refine bW (CL t14 _ hx11) hO ?_
    intro H hO
    refine bK 4 ?_
    refine BE [(19, false)] 2 lo9 1 0 (aK jT) (aK jT) [(aK jT)] (by kernel_rfl) (by kernel_rfl) hO (by kernel_rfl) (!(!x10)) (by kernel_rfl) (fun hb13 => rfl) ?_
    refine bK 6 ?_
    refine BE [(21, true), (19, false)] 1 lo8 1 0 (eL aJ pM) (eL aJ pM) [(eL aJ pM)] (by kernel_rfl) (by kernel_rfl) hO (by kernel_rfl) (jT && (!(!x10))) (by kernel_rfl) (fun hb14 => rfl) ?_
    refine bK 8 ?_
    obtain ⟨x15, hx16, h1⟩ := aV h1
    refine jQ [(21, true), (19, false)] 46 [(eL aJ pM), (eL aJ t14)] (eI x15) (jT && (!(!x10))) (by kernel_rfl) (by kernel_rfl) (by kernel_rfl) (fun hb17 => (IG pM t14 _ (jI hx16 hb17))) hO ?_
    intro H hO
    refine bK 15 ?_
    obtain ⟨x18, hx19, h1⟩ := aV h1
    refine jQ [(28, false)] holds1_f (holds1_a ++ [(eL aD t15)] ++ holds1_c) (aK x18) (!((!x10) || (jT && (decide ((0 : Int) ≤ x15))))) (by kernel_rfl) (by kernel_rfl) (by kernel_rfl) (fun hb20 => (holds1_h t15 _ (jI hx19 hb20))) hO ?_
    intro H hO
    refine aZ ?_
    refine bN [3, 8] [(33, (aK (((!x10) || (jT && (decide ((0 : Int) ≤ x15)))) || (!x18))))] ?_
    refine bE h1 (fun h1 => ?_) (fun h1 => ?_)
    · refine aM ?_
      refine aS aF 1 ?_
      refine rT 0 lo7 1 0 (aK t4) (aK false) [(aK t4)] [(lo7, 1, [(aK false)]), (lo8, 1, [(eL aJ pM)]), (lo9, 1, [(aK jT)])] hO rfl (by kernel_rfl) ?_
      intro H hO
      refine dO ?_
      refine bN [7, 33] [] ?_
      refine bG ?_
      refine cR [(4, (.lp lo7 0 0)), (5, (.lp lo8 0 0)), (6, (.lp lo9 0 0))] ?_
      obtain rfl := oI h1
      exact aI (aP (bL (⟨(pP hO hE ho1 .dead).1, rfl, _, rfl, (pP hO hE ho1 _).2⟩)))
    refine bF ?_
    refine bD [(4, (.lp lo7 0 0)), (5, (.lp lo8 0 0)), (6, (.lp lo9 0 0)), (7, (eL aJ t14))] ?_
    refine aS aF 3 ?_
    refine bK 1 ?_
    refine rT 1 lo8 1 0 (eL aJ pM) (eL aJ t14) [(eL aJ pM)] [(lo7, 1, [(aK t4)]), (lo8, 1, [(eL aJ t14)]), (lo9, 1, [(aK jT)])] hO rfl (by kernel_rfl) ?_
    intro H hO
    refine rT 2 lo9 1 0 (aK jT) (aK true) [(aK jT)] [(lo7, 1, [(aK t4)]), (lo8, 1, [(eL aJ t14)]), (lo9, 1, [(aK true)])] hO rfl (by kernel_rfl) ?_
    intro H hO
    refine dO ?_
    refine cR [(4, (.lp lo7 0 0)), (5, (.lp lo8 0 0)), (6, (.lp lo9 0 0))] ?_
    obtain rfl := oI h1
    exact aI (aX (⟨(pP hO hE ho1 .dead).1, rfl, _, rfl, (pP hO hE ho1 _).2⟩))
  · intro b lD lL H' G' hi hO
    rcases o0 with s | s
    · dsimp only [Sum.elim_inl] at hi
      obtain rfl := hi
      replace h0 : (some true) = some r := h0
      obtain ⟨hlL, hO⟩ := DJ hO
      refine ⟨_, _, hlL, (by intro e; cases e), ?_⟩
      refine cR [(4, (.lp lo7 0 0))] ?_
      replace hO := hO.pick (L' := [(lo7, 1, [(aK s.1)])]) [0] (by decide) (by kernel_rfl)
      refine aI (aX (aG (?_)))
      refine aM ?_
      refine aS aF 1 ?_
      refine rT 0 lo7 1 0 (aK s.1) (aK true) [(aK s.1)] [(lo7, 1, [(aK true)])] hO rfl (by kernel_rfl) ?_
      intro H hO
      refine dO ?_
      refine bD [(4, (.lp lo7 0 0))] ?_
      refine bG ?_
      obtain rfl := oI h0
      have hD := (hO.gm 0 _ rfl).2
      replace hO := (hO.JJ .dead).HD
      exact aI (QM1 (.inr rfl) hD (rs := [.cell 4 4]) (xs := [(aK true)]) (x := (aK true)) (by kernel_rfl) (AZ (lo := lo7) (k := 1) (y := (aK true)) (x := (aK true)) 0 hO (by kernel_rfl) (by kernel_rfl) (by kernel_rfl) (by kernel_rfl) JT) (by kernel_rfl) ⟨rfl, hO.out⟩)
    · dsimp only [Sum.elim_inr] at hi
      obtain rfl := hi
      replace h0 : (some s.1) = some r := h0
      obtain ⟨hlL, hO⟩ := DJ hO
      refine ⟨_, _, hlL, (by intro e; cases e), ?_⟩
      refine bG ?_
      replace hO := hO.pick (L' := [(lo7, 1, [(aK s.1)])]) [0] (by decide) (by kernel_rfl)
      obtain rfl := oI h0
      have hD := (hO.gm 0 _ rfl).2
      replace hO := (hO.JJ .dead).HD
      exact aI (bL (aP (QM1 (.inr rfl) hD (rs := [.cell 4 4]) (xs := [(aK s.1)]) (x := (aK s.1)) (by kernel_rfl) (AZ (lo := lo7) (k := 1) (y := (aK s.1)) (x := (aK s.1)) 0 hO (by kernel_rfl) (by kernel_rfl) (by kernel_rfl) (by kernel_rfl) JT) (by kernel_rfl) ⟨rfl, hO.out⟩)))

theorem DG (l0 : (List aC)) (r : Bool) (h0 : pK l0 = some r) : bR Tryz.prog 15 [(eL aE l0)] (aK r) := by
  intro H0
  refine cA Tryz.func15 ?_
  have hO := aL.start H0
  unfold pK at h0
  refine aT aF 1 [] [] ?_
  refine aM ?_
  refine aS aF 3 ?_
  refine bK 1 ?_
  obtain ⟨x1, hx2, h0⟩ := aV h0
  refine bW (LC l0 37 [] [] (fun y0 => kO y0) (fun y0 r h => rO y0 r h) _ hx2) hO ?_
  intro H hO
  refine aZ ?_
  refine bD [(2, (aK x1))] ?_
  refine bG ?_
  obtain rfl := oI h0
  exact aI (Q_r hO)

theorem zL (n1 : Int) (r : (List aC)) (h0 : fH n1 = some r) : BV Tryz.prog 51 [(.sl true 0 (fun _ => .bad)), (eI n1)] (fun lo => (.msl 3 lo 0 (List.length r))) 3 (List.map aE r) := by
  intro H0
  refine cA Tryz.func51 ?_
  have hO := aL.start H0
  unfold fH at h0
  refine aT aF 1 [] [] ?_
  refine aM ?_
  refine aT aF 2 [] [(6, (aK (decide (n1 < (0 : Int)))))] ?_
  refine bE h0 (fun h0 => ?_) (fun h0 => ?_)
  · cases h0
  refine bF ?_
  refine bD [(0, (.sl true 0 (fun _ => .bad))), (1, (eI n1))] ?_
  refine cC (fun T H => ∃ s0 : List aC, ∃ lo2 : Nat, Has T [(0, (.msl 3 lo2 0 (List.length s0)))] ∧ aL ⟨H0, [], []⟩ H [(lo2, 3, List.map aE s0)] ∧ iL s0 = some r) ?_ ?_
  · clear hO h0
    rintro T H ⟨s0, lo2, hT, hO, h0⟩
    refine aY hT ?_
    clear hT
    unfold iL at h0
    refine bO aF 2 [(4, (.msl 3 lo2 0 (List.length s0)))] ?_
    refine bG ?_
    obtain rfl := oI h0
    exact aI (qQ (x := (.msl 3 lo2 0 (List.length s0))) (by kernel_rfl) (aU.refl _) ⟨lo2, rfl, hO⟩)
  refine aT aF 8 [1] [(1, (eI (wR (n1 - (wR ((0 : Int) - ((0 : Nat) : Int)))))))] ?_
  refine aT aF 2 [] [(16, (aK (decide ((0 : Int) < (wR (n1 - (wR ((0 : Int) - ((0 : Nat) : Int)))))))))] ?_
  refine bE h0 (fun h0 => ?_) (fun h0 => ?_)
  · refine aS aF 10 ?_
    obtain ⟨c4, h0⟩ := bA h0
    refine mP 5 [0 ≤ (0 : Int) ∧ (0 : Int) ≤ ((0 : Nat) : Int)] ⟨c4, trivial⟩ ?_
    obtain ⟨c5, h0⟩ := bA h0
    refine ZN 3 40 (wR (n1 - (wR ((0 : Int) - ((0 : Nat) : Int))))) (by kernel_rfl) (by kernel_rfl) c5 hO ?_
    intro lo6 H hO
    obtain ⟨c7, h0⟩ := bA h0
    refine kB [0 ≤ ((0 : Nat) : Int) ∧ ((0 : Nat) : Int) ≤ (((Int.toNat (wR (n1 - (wR ((0 : Int) - ((0 : Nat) : Int)))))) : Nat) : Int)] ⟨c7, trivial⟩ ?_
    exact aI (aG (⟨rfl, ([] : List aC), _, .eq (by kernel_rfl), hO, h0⟩))
  refine bF ?_
  refine cR [(0, (.sl true 0 (fun _ => .bad)))] ?_
  refine OA (el := (fun _ => .bad)) 0 0 3 hO (by kernel_rfl) ?_
  intro lo8 H9 hO
  exact aI (aG (⟨rfl, ([] : List aC), _, .eq (by kernel_rfl), hO, h0⟩))

theorem xG (dB : (List (List aC))) (r : (List aC)) (h0 : eR dB = some r) : bR Tryz.prog 17 [(eL (eL aE) dB)] (eL aE r) := by
  intro H0
  refine cA Tryz.func17 ?_
  have hO := aL.start H0
  unfold eR at h0
  refine aT aF 1 [] [] ?_
  refine aT aF 1 [] [(3, (eI (0 : Int)))] ?_
  refine cC (fun T H => ∃ mN : Int, Has T [(0, (eL (eL aE) dB)), (3, (eI mN))] ∧ aL ⟨H0, [], []⟩ H [] ∧ eM dB mN = some r) ?_ ?_
  · clear hO h0
    rintro T H ⟨mN, hT, hO, h0⟩
    refine aY hT ?_
    clear hT
    unfold eM at h0
    refine aM ?_
    refine aS aF 3 ?_
    refine bK 1 ?_
    obtain ⟨x1, hx2, h0⟩ := aV h0
    refine GH (L' := fun lo3 => [(lo3, 3, List.map aE x1)]) 3 (List.map aE x1) 51 [(.sl true 0 (fun _ => .bad)), (eI mN)] (fun lo3 => (.msl 3 lo3 0 (List.length x1))) (by kernel_rfl) (by kernel_rfl) (zL mN _ hx2) hO (fun _ => by kernel_rfl) ?_
    intro lo3 H hO
    refine aZ ?_
    refine bN [3] [(6, (.msl 3 lo3 0 (List.length x1)))] ?_
    refine cC (fun T H => ∃ cY : List aC, ∃ lo4 : Nat, Has T [(6, (.msl 3 lo4 0 (List.length cY)))] ∧ aL ⟨H0, [], []⟩ H [(lo4, 3, List.map aE cY)] ∧ eJ cY = some r) ?_ ?_
    · clear hO h0
      rintro T H ⟨cY, lo4, hT, hO, h0⟩
      refine aY hT ?_
      clear hT
      unfold eJ at h0
      refine bO aF 2 [(2, (.msl 3 lo4 0 (List.length cY)))] ?_
      refine bG ?_
      refine cR [(2, (.msl 3 lo4 0 (List.length cY)))] ?_
      refine pR (en := aE) cY 0 0 2 3 lo4 (List.length cY) hO (by kernel_rfl) (by kernel_rfl) (by kernel_rfl) (L' := []) (by kernel_rfl) ?_
      intro H5 hO
      obtain rfl := oI h0
      exact aI (Q_r hO)
    refine aT aF 3 [0] [(25, (eL (eL aE) dB)), (26, (eI (lN dB))), (27, (eI (0 : Int)))] ?_
    refine bP 2 ?_
    refine cP [(6, (.msl 3 lo3 0 (List.length x1))), (25, (eL (eL aE) dB)), (26, (eI (lN dB))), (27, (eI (0 : Int)))] ?_
    refine cE (fun T H => ∃ cY : List aC, ∃ t25 : (List (List aC)), ∃ t26 : Int, ∃ t27 : Int, ∃ lo7 : Nat, Has T [(6, (.msl 3 lo7 0 (List.length cY))), (25, (eL (eL aE) t25)), (26, (eI t26)), (27, (eI t27))] ∧ aL ⟨H0, [], []⟩ H [(lo7, 3, List.map aE cY)] ∧ gK cY t25 t26 t27 = some r) ?_ ⟨x1, dB, (lN dB), (0 : Int), lo3, .eq (by kernel_rfl), hO, h0⟩
    clear hO h0
    rintro T H ⟨cY, t25, t26, t27, lo7, hT, hO, h0⟩
    refine aY hT ?_
    clear hT
    unfold gK at h0
    obtain ⟨rr0, hl0, h0⟩ := aV h0
    refine bU (by kernel_rfl) (fun (s : List aC × Int) T H => ∃ lo7 : Nat, Has T [(6, (.msl 3 lo7 0 (List.length s.1))), (25, (eL (eL aE) t25)), (26, (eI t26)), (27, (eI s.2))] ∧ aL ⟨H0, [], []⟩ H [(lo7, 3, List.map aE s.1)]) hl0 ⟨lo7, .eq (by kernel_rfl), hO⟩ ?_
    clear hO
    rintro k0 s out1 T H ⟨lo7, hT, hO⟩ h1 ho0
    obtain ⟨cY, t27⟩ := s
    replace h1 : cI t25 t26 cY t27 = some out1 := h1
    dsimp only at hT
    refine aY hT ?_
    clear hT
    unfold cI at h1
    refine aT aF 1 [] [(28, (aK (decide (t27 < t26))))] ?_
    refine aM ?_
    refine bE h1 (fun h1 => ?_) (fun h1 => ?_)
    · refine bF ?_
      refine bD [(6, (.msl 3 lo7 0 (List.length cY))), (25, (eL (eL aE) t25)), (26, (eI t26)), (27, (eI t27))] ?_
      refine aM ?_
      refine bP 3 ?_
      refine aM ?_
      refine aS aF 3 ?_
      obtain ⟨c9, h1⟩ := bA h1
      refine kB [0 ≤ t27 ∧ t27 < (lN t25)] ⟨c9, trivial⟩ ?_
      refine bN [] [(8, (eL aE (gD t25 t27)))] ?_
      refine aS aF 4 ?_
      refine bK 2 ?_
      obtain ⟨c11, h1⟩ := bA h1
      refine nB (e := aE) cY (gD t25 t27) 0 lo7 3 40 (eL aE (gD t25 t27)) (fun lo10 => [(lo10, 3, List.map aE (cY ++ (gD t25 t27)))]) (by kernel_rfl) (by kernel_rfl) hO (by kernel_rfl) (BI (fun _ => by kernel_rfl)) c11 (fun _ => by kernel_rfl) ?_
      intro lo10 H hO
      refine aZ ?_
      refine cR [(6, (.msl 3 lo10 0 (List.length (cY ++ (gD t25 t27))))), (25, (eL (eL aE) t25)), (26, (eI t26)), (27, (eI t27))] ?_
      refine aI (aX (aG (?_)))
      refine aS aF 2 ?_
      refine aZ ?_
      exact aI (aG (⟨rfl, _, (oI h1).symm, _, .eq (by kernel_rfl), hO⟩))
    refine cQ 2 ?_
    obtain rfl := oI h1
    obtain rfl : _ = rr0 := ho0
    replace h0 : eJ cY = some r := h0
    exact aI (aR (aR (bH (aG (⟨rfl, _, _, .eq (by kernel_rfl), hO, h0⟩)))))
  refine aT aF 3 [] [(9, (eL (eL aE) dB)), (10, (eI (lN dB))), (11, (eI (0 : Int)))] ?_
  refine bP 0 ?_
  refine cP [(0, (eL (eL aE) dB)), (3, (eI (0 : Int))), (9, (eL (eL aE) dB)), (10, (eI (lN dB))), (11, (eI (0 : Int)))] ?_
  refine cE (fun T H => ∃ mN : Int, ∃ t9 : (List (List aC)), ∃ t10 : Int, ∃ t11 : Int, Has T [(0, (eL (eL aE) dB)), (3, (eI mN)), (9, (eL (eL aE) t9)), (10, (eI t10)), (11, (eI t11))] ∧ aL ⟨H0, [], []⟩ H [] ∧ gM dB mN t9 t10 t11 = some r) ?_ ⟨(0 : Int), dB, (lN dB), (0 : Int), .eq (by kernel_rfl), hO, h0⟩
  clear hO h0
  rintro T H ⟨mN, t9, t10, t11, hT, hO, h0⟩
  refine aY hT ?_
  clear hT
  unfold gM at h0
  obtain ⟨rr0, hl0, h0⟩ := aV h0
  refine bU (by kernel_rfl) (fun (s : Int × Int) T H => Has T [(0, (eL (eL aE) dB)), (3, (eI s.1)), (9, (eL (eL aE) t9)), (10, (eI t10)), (11, (eI s.2))] ∧ aL ⟨H0, [], []⟩ H []) hl0 ⟨.eq (by kernel_rfl), hO⟩ ?_
  clear hO
  rintro k0 s out1 T H ⟨hT, hO⟩ h1 ho0
  obtain ⟨mN, t11⟩ := s
  replace h1 : cJ dB t9 t10 mN t11 = some out1 := h1
  dsimp only at hT
  refine aY hT ?_
  clear hT
  unfold cJ at h1
  refine aT aF 1 [] [(12, (aK (decide (t11 < t10))))] ?_
  refine aM ?_
  refine bE h1 (fun h1 => ?_) (fun h1 => ?_)
  · refine bF ?_
    refine bD [(0, (eL (eL aE) dB)), (3, (eI mN)), (9, (eL (eL aE) t9)), (10, (eI t10)), (11, (eI t11))] ?_
    refine aM ?_
    refine bP 1 ?_
    refine aM ?_
    refine aS aF 3 ?_
    obtain ⟨c13, h1⟩ := bA h1
    refine kB [0 ≤ t11 ∧ t11 < (lN t9)] ⟨c13, trivial⟩ ?_
    refine bN [] [(5, (eL aE (gD t9 t11)))] ?_
    refine aT aF 5 [3, 5] [(3, (eI (wR (mN + (lN (gD t9 t11))))))] ?_
    refine aT aF 2 [] [(20, (aK (decide ((wR (mN + (lN (gD t9 t11)))) < (0 : Int)))))] ?_
    refine bE h1 (fun h1 => ?_) (fun h1 => ?_)
    · cases h1
    refine bF ?_
    refine cR [(0, (eL (eL aE) dB)), (3, (eI (wR (mN + (lN (gD t9 t11)))))), (9, (eL (eL aE) t9)), (10, (eI t10)), (11, (eI t11))] ?_
    refine aI (aX (aG (?_)))
    refine aS aF 2 ?_
    refine aZ ?_
    exact aI (aG (⟨rfl, _, (oI h1).symm, .eq (by kernel_rfl), hO⟩))
  refine cQ 0 ?_
  obtain rfl := oI h1
  obtain rfl : _ = rr0 := ho0
  replace h0 : eM dB mN = some r := h0
  exact aI (aR (aR (bH (aG (⟨rfl, _, .eq (by kernel_rfl), hO, h0⟩)))))

theorem NW (a0 : (List aC)) (b1 : (List aC)) (r : ((List aC) × Int)) (h0 : wS a0 b1 = some r) : bR Tryz.prog 6 [(eL aE a0), (eL aE b1)] (.tup [(eL aE r.1), (eI r.2)]) := by
  intro H0
  refine cA Tryz.func6 ?_
  have hO := aL.start H0
  unfold wS at h0
  refine aT aF 2 [] [] ?_
  refine aM ?_
  refine aM ?_
  refine aS aF 8 ?_
  refine bK 1 ?_
  obtain ⟨x1, hx2, h0⟩ := aV h0
  refine bW (DG a0 _ hx2) hO ?_
  intro H hO
  refine bK 5 ?_
  obtain ⟨x4, hx5, h0⟩ := aV h0
  refine jQ [(9, false)] 15 [(eL aE b1)] (aK x4) (!(!x1)) (by kernel_rfl) (by kernel_rfl) (by kernel_rfl) (fun hb6 => (DG b1 _ (jI hx5 hb6))) hO ?_
  intro H hO
  refine aZ ?_
  refine bN [] [(13, (aK ((!x1) || (!x4))))] ?_
  refine bE h0 (fun h0 => ?_) (fun h0 => ?_)
  · refine bO aF 2 [(4, (.sl true 0 (fun _ => .bad))), (5, (eI (2 : Int)))] ?_
    refine bG ?_
    refine cB (l := [(4, (eL aE ([]))), (5, (eI (2 : Int)))]) ⟨[(4, (.sl true 0 (fun _ => .bad))), (5, (eI (2 : Int)))], by kernel_rfl, rfl, ⟨cT, aU.refl _, trivial⟩⟩ ?_
    obtain rfl := oI h0
    exact aI (aP (Q_r hO))
  refine bF ?_
  refine bD [(0, (eL aE a0)), (1, (eL aE b1))] ?_
  refine aM ?_
  refine aS aF 9 ?_
  refine bK 2 ?_
  refine fE (xs := [(eL aE a0), (eL aE b1)]) (k := 1) (by kernel_rfl) (by kernel_rfl) ?_
  obtain ⟨x8, hx9, h0⟩ := aV h0
  refine UD 17 [(dL [(eL aE a0), (eL aE b1)])] (eL aE x8) (bR.sub (xG ([a0, b1]) _ hx9) ⟨JD (l := [a0, b1]), trivial⟩) hO ?_
  intro H hO
  obtain ⟨x11, hx12, h0⟩ := aV h0
  refine bW (LK x8 _ hx12) hO ?_
  intro H hO
  refine aZ ?_
  refine bD [(4, (eL aE x11.1)), (5, (eI x11.2))] ?_
  refine bG ?_
  obtain rfl := oI h0
  exact aI (Q_r hO)

theorem VU (f0 : (List aA)) (r : Int) (h0 : vY f0 = some r) : bR Tryz.prog 38 [(eL aD f0)] (eI r) := by
  intro H0
  refine cA Tryz.func38 ?_
  have hO := aL.start H0
  unfold vY at h0
  refine aT aF 1 [] [] ?_
  refine aM ?_
  refine aM ?_
  refine aS aF 8 ?_
  refine bK 1 ?_
  obtain ⟨x1, hx2, h0⟩ := aV h0
  refine bW (rO f0 _ hx2) hO ?_
  intro H hO
  refine aZ ?_
  refine bN [] [(14, (aK ((!x1) || (decide ((lN f0) = (0 : Int))))))] ?_
  refine bE h0 (fun h0 => ?_) (fun h0 => ?_)
  · refine bO aF 1 [(2, (eI (0 : Int)))] ?_
    refine bG ?_
    obtain rfl := oI h0
    exact aI (aP (Q_r hO))
  refine bF ?_
  refine bD [(0, (eL aD f0))] ?_
  refine aT aF 2 [] [(3, (eI (0 : Int))), (4, (eI (0 : Int)))] ?_
  refine cC (fun T H => ∃ v3 : Int, ∃ fI : Int, Has T [(0, (eL aD f0)), (3, (eI v3)), (4, (eI fI))] ∧ aL ⟨H0, [], []⟩ H [] ∧ qV f0 v3 fI = some r) ?_ ?_
  · clear hO h0
    rintro T H ⟨v3, fI, hT, hO, h0⟩
    refine aY hT ?_
    clear hT
    unfold qV at h0
    refine cC (fun T H => ∃ fI : Int, Has T [(4, (eI fI))] ∧ aL ⟨H0, [], []⟩ H [] ∧ tQ fI = some r) ?_ ?_
    · clear hO h0
      rintro T H ⟨fI, hT, hO, h0⟩
      refine aY hT ?_
      clear hT
      unfold tQ at h0
      refine bO aF 2 [(2, (eI fI))] ?_
      refine bG ?_
      obtain rfl := oI h0
      exact aI (Q_r hO)
    refine aT aF 3 [0] [(24, (eL aD f0)), (25, (eI (lN f0))), (26, (eI (0 : Int)))] ?_
    refine bP 0 ?_
    refine cP [(3, (eI v3)), (4, (eI fI)), (24, (eL aD f0)), (25, (eI (lN f0))), (26, (eI (0 : Int)))] ?_
    refine cE (fun T H => ∃ v3 : Int, ∃ fI : Int, ∃ t24 : (List aA), ∃ t25 : Int, ∃ t26 : Int, Has T [(3, (eI v3)), (4, (eI fI)), (24, (eL aD t24)), (25, (eI t25)), (26, (eI t26))] ∧ aL ⟨H0, [], []⟩ H [] ∧ uE v3 fI t24 t25 t26 = some r) ?_ ⟨v3, fI, f0, (lN f0), (0 : Int), .eq (by kernel_rfl), hO, h0⟩
    clear hO h0
    rintro T H ⟨v3, fI, t24, t25, t26, hT, hO, h0⟩
    refine aY hT ?_
    clear hT
    unfold uE at h0
    obtain ⟨rr0, hl0, h0⟩ := aV h0
    refine bU (by kernel_rfl) (fun (s : Int × Int × Int) T H => Has T [(3, (eI s.1)), (4, (eI s.2.1)), (24, (eL aD t24)), (25, (eI t25)), (26, (eI s.2.2))] ∧ aL ⟨H0, [], []⟩ H []) hl0 ⟨.eq (by kernel_rfl), hO⟩ ?_
    clear hO
    rintro k0 s out1 T H ⟨hT, hO⟩ h1 ho0
    obtain ⟨v3, fI, t26⟩ := s
    replace h1 : nF t24 t25 v3 fI t26 = some out1 := h1
    dsimp only at hT
    refine aY hT ?_
    clear hT
    unfold nF at h1
    refine aT aF 1 [] [(27, (aK (decide (t26 < t25))))] ?_
    refine aM ?_
    refine bE h1 (fun h1 => ?_) (fun h1 => ?_)
    · refine bF ?_
      refine bD [(3, (eI v3)), (4, (eI fI)), (24, (eL aD t24)), (25, (eI t25)), (26, (eI t26))] ?_
      refine aM ?_
      refine bP 1 ?_
      refine aM ?_
      refine aS aF 4 ?_
      obtain ⟨c6, h1⟩ := bA h1
      refine mP 2 [0 ≤ t26 ∧ t26 < (lN t24)] ⟨c6, trivial⟩ ?_
      refine sX 2 (aD (aA.mk 0 0)) (by kernel_rfl) (by kernel_rfl) hO ?_
      intro lo7 H hO
      refine rT 0 lo7 2 0 (aD (aA.mk 0 0)) (aD (gD t24 t26)) [(aD (aA.mk 0 0))] [(lo7, 2, [(aD (gD t24 t26))])] hO rfl (by kernel_rfl) ?_
      intro H hO
      refine dO ?_
      refine bN [] [(6, (.lp lo7 0 0))] ?_
      refine aM ?_
      refine aS aF 5 ?_
      refine bK 2 ?_
      refine BH 0 lo7 2 0 (aD (gD t24 t26)) (eI ((gD t24 t26).Net)) [(aD (gD t24 t26))] hO rfl ?_
      refine aZ ?_
      replace hO := hO.pick (L' := []) [] (by decide) (by kernel_rfl)
      refine bN [3, 6] [(3, (eI (wR (v3 + ((gD t24 t26).Net)))))] ?_
      refine aS aF 4 ?_
      refine aZ ?_
      refine cR [(3, (eI (wR (v3 + ((gD t24 t26).Net))))), (4, (eI (if (wR (v3 + ((gD t24 t26).Net))) < fI then (wR (v3 + ((gD t24 t26).Net))) else fI))), (24, (eL aD t24)), (25, (eI t25)), (26, (eI t26))] ?_
      refine aI (aX (aG (?_)))
      refine aS aF 2 ?_
      refine aZ ?_
      exact aI (aG (⟨rfl, _, (oI h1).symm, .eq (by kernel_rfl), hO⟩))
    refine cQ 0 ?_
    obtain rfl := oI h1
    obtain rfl : _ = rr0 := ho0
    replace h0 : tQ fI = some r := h0
    exact aI (aR (aR (bH (aG (⟨rfl, _, .eq (by kernel_rfl), hO, h0⟩)))))
  refine aM ?_
  refine aS aF 5 ?_
  obtain ⟨c8, h0⟩ := bA h0
  refine kB [0 ≤ (0 : Int) ∧ (0 : Int) < (lN f0)] ⟨c8, trivial⟩ ?_
  refine bN [] [(19, (aK (decide (((gD f0 (0 : Int)).At) = (-1 : Int)))))] ?_
  refine bE h0 (fun h0 => ?_) (fun h0 => ?_)
  · refine aS aF 5 ?_
    obtain ⟨c10, h0⟩ := bA h0
    refine kB [0 ≤ (0 : Int) ∧ (0 : Int) < (lN f0)] ⟨c10, trivial⟩ ?_
    exact aI (aG (⟨rfl, _, _, .eq (by kernel_rfl), hO, h0⟩))
  refine bF ?_
  exact aI (aG (⟨rfl, _, _, .eq (by kernel_rfl), hO, h0⟩))

theorem PR (f0 : (List aA)) (r : Bool) (h0 : sM f0 = some r) : bR Tryz.prog 36 [(eL aD f0)] (aK r) := by
  intro H0
  refine cA Tryz.func36 ?_
  have hO := aL.start H0
  unfold sM at h0
  refine aT aF 1 [] [] ?_
  refine aM ?_
  refine aS aF 8 ?_
  refine bK 1 ?_
  obtain ⟨x1, hx2, h0⟩ := aV h0
  refine bW (rO f0 _ hx2) hO ?_
  intro H hO
  refine bK 4 ?_
  obtain ⟨x4, hx5, h0⟩ := aV h0
  refine jQ [(5, true)] 38 [(eL aD f0)] (eI x4) x1 (by kernel_rfl) (by kernel_rfl) (by kernel_rfl) (fun hb6 => (VU f0 _ (jI hx5 hb6))) hO ?_
  intro H hO
  refine aZ ?_
  refine bD [(2, (aK (x1 && (decide ((0 : Int) ≤ x4)))))] ?_
  refine bG ?_
  obtain rfl := oI h0
  exact aI (Q_r hO)

theorem SS (l0 : (List aC)) (r : Bool) (h0 : wK l0 = some r) : bR Tryz.prog 14 [(eL aE l0)] (aK r) := by
  intro H0
  refine cA Tryz.func14 ?_
  have hO := aL.start H0
  unfold wK at h0
  refine aT aF 1 [] [] ?_
  refine aM ?_
  refine aS aF 3 ?_
  refine bK 1 ?_
  obtain ⟨x1, hx2, h0⟩ := aV h0
  refine bW (LC l0 36 [] [] (fun y0 => sM y0) (fun y0 r h => PR y0 r h) _ hx2) hO ?_
  intro H hO
  refine aZ ?_
  refine bD [(2, (aK x1))] ?_
  refine bG ?_
  obtain rfl := oI h0
  exact aI (Q_r hO)

theorem JE  (r : Bool) (h0 : sE  = some r) : bR Tryz.prog 5 [] (aK r) := by
  intro H0
  refine cA Tryz.func5 ?_
  have hO := aL.start H0
  unfold sE at h0
  refine bO aF 1 [] ?_
  refine aM ?_
  refine aS aF 3 ?_
  refine bK 1 ?_
  refine fE (xs := [(aJ (aH.mk (1 : Int) (1 : Int) ByteArray.empty))]) (k := 3) (by kernel_rfl) (by kernel_rfl) ?_
  refine aZ ?_
  refine cB (l := [(1, (eL aJ ([aH.mk (1 : Int) (1 : Int) ByteArray.empty])))]) ⟨[(1, (dL [(aJ (aH.mk (1 : Int) (1 : Int) ByteArray.empty))]))], by kernel_rfl, rfl, ⟨JD (l := [aH.mk (1 : Int) (1 : Int) ByteArray.empty]), trivial⟩⟩ ?_
  refine aI (aG (?_))
  refine aM ?_
  refine aS aF 8 ?_
  refine bK 2 ?_
  obtain ⟨x1, hx2, h0⟩ := aV h0
  refine bW (QK ([aH.mk (1 : Int) (1 : Int) ByteArray.empty]) (nA.mk (2 : Int) (5 : Int)) _ hx2) hO ?_
  intro H hO
  refine aZ ?_
  refine bN [] [(2, (eL aE x1.1)), (3, (eI x1.2))] ?_
  refine aM ?_
  refine aS aF 8 ?_
  refine bK 2 ?_
  obtain ⟨x4, hx5, h0⟩ := aV h0
  refine bW (QK ([aH.mk (1 : Int) (1 : Int) ByteArray.empty]) (nA.mk (5 : Int) (9 : Int)) _ hx5) hO ?_
  intro H hO
  refine aZ ?_
  refine bN [1] [(4, (eL aE x4.1)), (5, (eI x4.2))] ?_
  refine aM ?_
  refine aS aF 8 ?_
  refine bK 2 ?_
  obtain ⟨x7, hx8, h0⟩ := aV h0
  refine bW (NW x1.1 x4.1 _ hx8) hO ?_
  intro H hO
  refine aZ ?_
  refine bN [4] [(6, (eL aE x7.1)), (7, (eI x7.2))] ?_
  refine aM ?_
  refine aS aF 56 ?_
  obtain ⟨c10, h0⟩ := bA h0
  obtain ⟨c11, h0⟩ := bA h0
  obtain ⟨c12, h0⟩ := bA h0
  obtain ⟨c13, h0⟩ := bA h0
  refine mP 50 [(((((((decide (x1.2 = (0 : Int))) && (decide (x4.2 = (0 : Int)))) && (decide (x7.2 = (0 : Int)))) && (decide ((lN x1.1) = (2 : Int)))) && (decide ((lN x7.1) = (2 : Int))))) = true → 0 ≤ (0 : Int) ∧ (0 : Int) < (lN x7.1)), ((((((((decide (x1.2 = (0 : Int))) && (decide (x4.2 = (0 : Int)))) && (decide (x7.2 = (0 : Int)))) && (decide ((lN x1.1) = (2 : Int)))) && (decide ((lN x7.1) = (2 : Int)))) && (decide (((gD x7.1 (0 : Int)).At) = (2 : Int))))) = true → 0 ≤ (0 : Int) ∧ (0 : Int) < (lN x7.1)), (((((((((decide (x1.2 = (0 : Int))) && (decide (x4.2 = (0 : Int)))) && (decide (x7.2 = (0 : Int)))) && (decide ((lN x1.1) = (2 : Int)))) && (decide ((lN x7.1) = (2 : Int)))) && (decide (((gD x7.1 (0 : Int)).At) = (2 : Int)))) && (decide (((gD x7.1 (0 : Int)).Net) = (1 : Int))))) = true → 0 ≤ (1 : Int) ∧ (1 : Int) < (lN x7.1)), ((((((((((decide (x1.2 = (0 : Int))) && (decide (x4.2 = (0 : Int)))) && (decide (x7.2 = (0 : Int)))) && (decide ((lN x1.1) = (2 : Int)))) && (decide ((lN x7.1) = (2 : Int)))) && (decide (((gD x7.1 (0 : Int)).At) = (2 : Int)))) && (decide (((gD x7.1 (0 : Int)).Net) = (1 : Int)))) && (decide (((gD x7.1 (1 : Int)).At) = (9 : Int))))) = true → 0 ≤ (1 : Int) ∧ (1 : Int) < (lN x7.1))] ⟨c10, c11, c12, c13, trivial⟩ ?_
  obtain ⟨x14, hx15, h0⟩ := aV h0
  refine jQ [(76, true)] 14 [(eL aE x7.1)] (aK x14) (((((((((decide (x1.2 = (0 : Int))) && (decide (x4.2 = (0 : Int)))) && (decide (x7.2 = (0 : Int)))) && (decide ((lN x1.1) = (2 : Int)))) && (decide ((lN x7.1) = (2 : Int)))) && (decide (((gD x7.1 (0 : Int)).At) = (2 : Int)))) && (decide (((gD x7.1 (0 : Int)).Net) = (1 : Int)))) && (decide (((gD x7.1 (1 : Int)).At) = (9 : Int)))) && (decide (((gD x7.1 (1 : Int)).Net) = (-1 : Int)))) (by kernel_rfl) (by kernel_rfl) (by kernel_rfl) (fun hb16 => (SS x7.1 _ (jI hx15 hb16))) hO ?_
  intro H hO
  refine bK 53 ?_
  obtain ⟨x17, hx18, h0⟩ := aV h0
  refine jQ [(80, true)] 15 [(.sl true 0 (fun _ => .bad))] (aK x17) ((((((((((decide (x1.2 = (0 : Int))) && (decide (x4.2 = (0 : Int)))) && (decide (x7.2 = (0 : Int)))) && (decide ((lN x1.1) = (2 : Int)))) && (decide ((lN x7.1) = (2 : Int)))) && (decide (((gD x7.1 (0 : Int)).At) = (2 : Int)))) && (decide (((gD x7.1 (0 : Int)).Net) = (1 : Int)))) && (decide (((gD x7.1 (1 : Int)).At) = (9 : Int)))) && (decide (((gD x7.1 (1 : Int)).Net) = (-1 : Int)))) && x14) (by kernel_rfl) (by kernel_rfl) (by kernel_rfl) (fun hb19 => (bR.sub (DG ([]) _ (jI hx18 hb19)) ⟨cT, trivial⟩)) hO ?_
  intro H hO
  refine aZ ?_
  refine bD [(0, (aK (((((((((((decide (x1.2 = (0 : Int))) && (decide (x4.2 = (0 : Int)))) && (decide (x7.2 = (0 : Int)))) && (decide ((lN x1.1) = (2 : Int)))) && (decide ((lN x7.1) = (2 : Int)))) && (decide (((gD x7.1 (0 : Int)).At) = (2 : Int)))) && (decide (((gD x7.1 (0 : Int)).Net) = (1 : Int)))) && (decide (((gD x7.1 (1 : Int)).At) = (9 : Int)))) && (decide (((gD x7.1 (1 : Int)).Net) = (-1 : Int)))) && x14) && x17)))] ?_
  refine bG ?_
  obtain rfl := oI h0
  exact aI (Q_r hO)

theorem FK (v0 : aH) (r : Bool) (h0 : rY v0 = some r) : bR Tryz.prog 83 [(aJ v0)] (aK r) := by
  intro H0
  refine cA Tryz.func83 ?_
  have hO := aL.start H0
  unfold rY at h0
  refine aM ?_
  refine aS aF 2 ?_
  refine jF 3 (aJ v0) (by kernel_rfl) (by kernel_rfl) ?_
  refine aZ ?_
  refine bD [(1, (.rp (aJ v0)))] ?_
  refine aM ?_
  refine aT aF 3 [] [(5, (aK (decide (v0.Kind = (1 : Int)))))] ?_
  refine bE h0 (fun h0 => ?_) (fun h0 => ?_)
  · refine bO aF 4 [(2, (aK (oJ v0.Text (⟨#[]⟩ : ByteArray))))] ?_
    refine bG ?_
    obtain rfl := oI h0
    exact aI (aP (Q_r hO))
  refine bF ?_
  refine bD [(1, (.rp (aJ v0)))] ?_
  refine bO aF 15 [(2, (aK (((decide (v0.Kind = (2 : Int))) && (decide (v0.Num = (0 : Int)))) && (decide (((ByteArray.size v0.Text : Nat) : Int) ≤ (64 : Int))))))] ?_
  refine bG ?_
  obtain rfl := oI h0
  exact aI (Q_r hO)

theorem BT (r0 : (List aH)) (r : Bool) (h0 : pO r0 = some r) : bR Tryz.prog 52 [(eL aJ r0)] (aK r) := by
  intro H0
  refine cA Tryz.func52 ?_
  have hO := aL.start H0
  unfold pO at h0
  refine aT aF 1 [] [] ?_
  refine cC (fun T H => Has T [(0, (eL aJ r0))] ∧ aL ⟨H0, [], []⟩ H [] ∧ sN r0 = some r) ?_ ?_
  · clear hO h0
    rintro T H ⟨hT, hO, h0⟩
    refine aY hT ?_
    clear hT
    unfold sN at h0
    refine bO aF 4 [(2, (aK (decide ((lN r0) ≤ (8 : Int)))))] ?_
    refine bG ?_
    obtain rfl := oI h0
    exact aI (Q_r hO)
  refine aT aF 1 [] [(3, (eI (0 : Int)))] ?_
  refine bP 0 ?_
  refine cP [(0, (eL aJ r0)), (3, (eI (0 : Int)))] ?_
  refine cE (fun T H => ∃ i3 : Int, Has T [(0, (eL aJ r0)), (3, (eI i3))] ∧ aL ⟨H0, [], []⟩ H [] ∧ zV r0 i3 = some r) ?_ ⟨(0 : Int), .eq (by kernel_rfl), hO, h0⟩
  clear hO h0
  rintro T H ⟨i3, hT, hO, h0⟩
  refine aY hT ?_
  clear hT
  unfold zV at h0
  obtain ⟨rr0, hl0, h0⟩ := aV h0
  refine bU (by kernel_rfl) (fun (s : Int) T H => Has T [(0, (eL aJ r0)), (3, (eI s))] ∧ aL ⟨H0, [], []⟩ H []) hl0 ⟨.eq (by kernel_rfl), hO⟩ ?_
  clear hO
  rintro k0 s out1 T H ⟨hT, hO⟩ h1 ho0
  obtain ⟨i3, rfl⟩ : ∃ x, x = s := ⟨_, rfl⟩
  replace h1 : qK r0 i3 = some out1 := h1
  refine aY hT ?_
  clear hT
  unfold qK at h1
  refine aM ?_
  refine aT aF 8 [] [(11, (aK ((decide (i3 < (lN r0))) && (decide (i3 < (9 : Int))))))] ?_
  refine bE h1 (fun h1 => ?_) (fun h1 => ?_)
  · refine bF ?_
    refine bD [(0, (eL aJ r0)), (3, (eI i3))] ?_
    refine aM ?_
    refine bP 1 ?_
    refine aM ?_
    refine aS aF 6 ?_
    obtain ⟨c2, h1⟩ := bA h1
    refine mP 4 [0 ≤ i3 ∧ i3 < (lN r0)] ⟨c2, trivial⟩ ?_
    obtain ⟨x3, hx4, h1⟩ := aV h1
    refine bW (FK (gD r0 i3) _ hx4) hO ?_
    intro H hO
    refine aZ ?_
    refine bN [] [(19, (aK (!x3)))] ?_
    refine bE h1 (fun h1 => ?_) (fun h1 => ?_)
    · refine bO aF 1 [(2, (aK false))] ?_
      refine bG ?_
      obtain rfl := oI h1
      obtain rfl : _ = rr0 := ho0
      replace h0 : some false = some r := h0
      obtain rfl := oI h0
      exact aI (bL (aP (aP (bL (aP (Q_r hO))))))
    refine bF ?_
    refine cR [(0, (eL aJ r0)), (3, (eI i3))] ?_
    refine aI (aX (aG (?_)))
    refine aS aF 3 ?_
    refine aZ ?_
    exact aI (aG (⟨rfl, _, (oI h1).symm, .eq (by kernel_rfl), hO⟩))
  refine cQ 0 ?_
  obtain rfl := oI h1
  obtain rfl : _ = rr0 := ho0
  replace h0 : sN r0 = some r := h0
  exact aI (aR (aR (bH (aG (⟨rfl, .eq (by kernel_rfl), hO, h0⟩)))))

theorem xS (f0 : (List aA)) (r : Bool) (h0 : mT f0 = some r) : bR Tryz.prog 53 [(eL aD f0)] (aK r) := by
  intro H0
  refine cA Tryz.func53 ?_
  have hO := aL.start H0
  unfold mT at h0
  refine aT aF 1 [] [] ?_
  refine aM ?_
  refine aT aF 3 [] [(6, (aK (decide ((1024 : Int) < (lN f0)))))] ?_
  refine bE h0 (fun h0 => ?_) (fun h0 => ?_)
  · refine bO aF 1 [(2, (aK false))] ?_
    refine bG ?_
    obtain rfl := oI h0
    exact aI (aP (Q_r hO))
  refine bF ?_
  refine bD [(0, (eL aD f0))] ?_
  refine cC (fun T H => Has T [] ∧ aL ⟨H0, [], []⟩ H [] ∧ wD  = some r) ?_ ?_
  · clear hO h0
    rintro T H ⟨hT, hO, h0⟩
    refine aY hT ?_
    clear hT
    unfold wD at h0
    refine bO aF 1 [(2, (aK true))] ?_
    refine bG ?_
    obtain rfl := oI h0
    exact aI (Q_r hO)
  refine aT aF 1 [] [(3, (eI (0 : Int)))] ?_
  refine bP 0 ?_
  refine cP [(0, (eL aD f0)), (3, (eI (0 : Int)))] ?_
  refine cE (fun T H => ∃ i3 : Int, Has T [(0, (eL aD f0)), (3, (eI i3))] ∧ aL ⟨H0, [], []⟩ H [] ∧ AO f0 i3 = some r) ?_ ⟨(0 : Int), .eq (by kernel_rfl), hO, h0⟩
  clear hO h0
  rintro T H ⟨i3, hT, hO, h0⟩
  refine aY hT ?_
  clear hT
  unfold AO at h0
  obtain ⟨rr0, hl0, h0⟩ := aV h0
  refine bU (by kernel_rfl) (fun (s : Int) T H => Has T [(0, (eL aD f0)), (3, (eI s))] ∧ aL ⟨H0, [], []⟩ H []) hl0 ⟨.eq (by kernel_rfl), hO⟩ ?_
  clear hO
  rintro k0 s out1 T H ⟨hT, hO⟩ h1 ho0
  obtain ⟨i3, rfl⟩ : ∃ x, x = s := ⟨_, rfl⟩
  replace h1 : lW f0 i3 = some out1 := h1
  refine aY hT ?_
  clear hT
  unfold lW at h1
  refine aM ?_
  refine aT aF 4 [] [(10, (aK (decide (i3 < (lN f0)))))] ?_
  refine bE h1 (fun h1 => ?_) (fun h1 => ?_)
  · refine bF ?_
    refine bD [(0, (eL aD f0)), (3, (eI i3))] ?_
    refine aM ?_
    refine bP 1 ?_
    refine aM ?_
    refine aM ?_
    refine aS aF 38 ?_
    obtain ⟨c3, h1⟩ := bA h1
    obtain ⟨c4, h1⟩ := bA h1
    obtain ⟨c5, h1⟩ := bA h1
    obtain ⟨c6, h1⟩ := bA h1
    obtain ⟨c7, h1⟩ := bA h1
    refine kB [0 ≤ i3 ∧ i3 < (lN f0), (((!(decide (((gD f0 i3).At) < (-1 : Int))))) = true → 0 ≤ i3 ∧ i3 < (lN f0)), (((!((decide (((gD f0 i3).At) < (-1 : Int))) || (decide ((1125899906842624 : Int) ≤ ((gD f0 i3).At)))))) = true → 0 ≤ i3 ∧ i3 < (lN f0)), (((!(((decide (((gD f0 i3).At) < (-1 : Int))) || (decide ((1125899906842624 : Int) ≤ ((gD f0 i3).At)))) || (decide (((gD f0 i3).Net) = (0 : Int)))))) = true → 0 ≤ i3 ∧ i3 < (lN f0)), (((!((((decide (((gD f0 i3).At) < (-1 : Int))) || (decide ((1125899906842624 : Int) ≤ ((gD f0 i3).At)))) || (decide (((gD f0 i3).Net) = (0 : Int)))) || (decide ((1048576 : Int) < ((gD f0 i3).Net)))))) = true → 0 ≤ i3 ∧ i3 < (lN f0))] ⟨c3, c4, c5, c6, c7, trivial⟩ ?_
    refine bN [] [(50, (aK (((((decide (((gD f0 i3).At) < (-1 : Int))) || (decide ((1125899906842624 : Int) ≤ ((gD f0 i3).At)))) || (decide (((gD f0 i3).Net) = (0 : Int)))) || (decide ((1048576 : Int) < ((gD f0 i3).Net)))) || (decide (((gD f0 i3).Net) < (-1048576 : Int))))))] ?_
    refine bE h1 (fun h1 => ?_) (fun h1 => ?_)
    · refine bO aF 1 [(2, (aK false))] ?_
      refine bG ?_
      obtain rfl := oI h1
      obtain rfl : _ = rr0 := ho0
      replace h0 : some false = some r := h0
      obtain rfl := oI h0
      exact aI (aP (bL (aP (aP (bL (aP (Q_r hO)))))))
    refine bF ?_
    refine bD [(0, (eL aD f0)), (3, (eI i3))] ?_
    refine aM ?_
    obtain ⟨c9, h1⟩ := bA h1
    obtain ⟨c10, h1⟩ := bA h1
    refine fG (fF [58, 64]) aF 16 ?_
    refine xU (K := fun T H => Has (lift T) [(0, (eL aD f0)), (3, (eI i3)), (66, (aK ((decide ((0 : Int) < i3)) && (decide (((gD f0 i3).At) ≤ ((gD f0 (wR (i3 - (1 : Int)))).At))))))] ∧ aL ⟨H0, [], []⟩ H []) ?_ ?_
    · refine sQ 3 ?_
      refine sF (t := 53) (e := decide ((0 : Int) < i3)) (by kernel_rfl) (fun hg11 => ?_) (fun hg11 => ?_)
      · refine BY (Ds := [0 ≤ i3 ∧ i3 < (lN f0), 0 ≤ (wR (i3 - (1 : Int))) ∧ (wR (i3 - (1 : Int))) < (lN f0)]) (by kernel_rfl) ⟨(c9 hg11), (c10 hg11), trivial⟩ ?_
        exact ⟨⟨[(0, (eL aD f0)), (3, (eI i3)), (66, (aK (decide (((gD f0 i3).At) ≤ ((gD f0 (wR (i3 - (1 : Int)))).At)))))], by kernel_rfl, rfl, ⟨aU.refl _, aU.refl _, aU.eq (congrArg aK (rZ hg11 rfl).symm), trivial⟩⟩, hO⟩
      refine jU ?_
      exact ⟨⟨[(0, (eL aD f0)), (3, (eI i3)), (66, (aK false))], by kernel_rfl, rfl, ⟨aU.refl _, aU.refl _, aU.eq (congrArg aK (rZ hg11 rfl).symm), trivial⟩⟩, hO⟩
    · rintro T H ⟨hT, hO⟩
      refine cB hT ?_
      clear hT
      refine aI (aG ?_)
      refine bE h1 (fun h1 => ?_) (fun h1 => ?_)
      · refine bO aF 1 [(2, (aK false))] ?_
        refine bG ?_
        obtain rfl := oI h1
        obtain rfl : _ = rr0 := ho0
        replace h0 : some false = some r := h0
        obtain rfl := oI h0
        exact aI (bL (aP (aP (bL (aP (Q_r hO))))))
      refine bF ?_
      refine cR [(0, (eL aD f0)), (3, (eI i3))] ?_
      refine aI (aX (aG (?_)))
      refine aS aF 3 ?_
      refine aZ ?_
      exact aI (aG (⟨rfl, _, (oI h1).symm, .eq (by kernel_rfl), hO⟩))
  refine cQ 0 ?_
  obtain rfl := oI h1
  obtain rfl : _ = rr0 := ho0
  replace h0 : wD  = some r := h0
  exact aI (aR (aR (bH (aG (⟨rfl, .eq (by kernel_rfl), hO, h0⟩)))))

theorem NY (a0 : aH) (b1 : aH) (r : Int) (h0 : rN a0 b1 = some r) : bR Tryz.prog 84 [(aJ a0), (aJ b1)] (eI r) := by
  intro H0
  refine cA Tryz.func84 ?_
  have hO := aL.start H0
  unfold rN at h0
  refine aM ?_
  refine aS aF 3 ?_
  refine jF 3 (aJ a0) (by kernel_rfl) (by kernel_rfl) ?_
  refine jF 3 (aJ b1) (by kernel_rfl) (by kernel_rfl) ?_
  refine aZ ?_
  refine bD [(2, (.rp (aJ a0))), (3, (.rp (aJ b1)))] ?_
  refine aM ?_
  refine aM ?_
  refine aS aF 8 ?_
  refine bK 1 ?_
  obtain ⟨x1, hx2, h0⟩ := aV h0
  refine bW (FK a0 _ hx2) hO ?_
  intro H hO
  refine bK 5 ?_
  obtain ⟨x4, hx5, h0⟩ := aV h0
  refine jQ [(9, false)] 83 [(aJ b1)] (aK x4) (!(!x1)) (by kernel_rfl) (by kernel_rfl) (by kernel_rfl) (fun hb6 => (FK b1 _ (jI hx5 hb6))) hO ?_
  intro H hO
  refine aZ ?_
  refine bN [] [(13, (aK ((!x1) || (!x4))))] ?_
  refine bE h0 (fun h0 => ?_) (fun h0 => ?_)
  · refine bO aF 1 [(4, (eI (0 : Int)))] ?_
    refine bG ?_
    obtain rfl := oI h0
    exact aI (aP (Q_r hO))
  refine bF ?_
  refine bD [(2, (.rp (aJ a0))), (3, (.rp (aJ b1)))] ?_
  refine aM ?_
  refine aT aF 5 [] [(18, (aK (!decide (a0.Kind = b1.Kind))))] ?_
  refine bE h0 (fun h0 => ?_) (fun h0 => ?_)
  · refine aM ?_
    refine bO aF 3 [(21, (aK (decide (a0.Kind = (1 : Int)))))] ?_
    refine bE h0 (fun h0 => ?_) (fun h0 => ?_)
    · refine bO aF 1 [(4, (eI (-1 : Int)))] ?_
      refine bG ?_
      obtain rfl := oI h0
      exact aI (aP (aP (Q_r hO)))
    refine bF ?_
    refine bD [] ?_
    refine bO aF 1 [(4, (eI (1 : Int)))] ?_
    refine bG ?_
    obtain rfl := oI h0
    exact aI (aP (Q_r hO))
  refine bF ?_
  refine bD [(2, (.rp (aJ a0))), (3, (.rp (aJ b1)))] ?_
  refine aM ?_
  refine aT aF 5 [] [(26, (aK (!decide (a0.Num = b1.Num))))] ?_
  refine bE h0 (fun h0 => ?_) (fun h0 => ?_)
  · refine aM ?_
    refine bO aF 5 [(31, (aK (decide (a0.Num < b1.Num))))] ?_
    refine bE h0 (fun h0 => ?_) (fun h0 => ?_)
    · refine bO aF 1 [(4, (eI (-1 : Int)))] ?_
      refine bG ?_
      obtain rfl := oI h0
      exact aI (aP (aP (Q_r hO)))
    refine bF ?_
    refine bD [] ?_
    refine bO aF 1 [(4, (eI (1 : Int)))] ?_
    refine bG ?_
    obtain rfl := oI h0
    exact aI (aP (Q_r hO))
  refine bF ?_
  refine bD [(2, (.rp (aJ a0))), (3, (.rp (aJ b1)))] ?_
  refine cC (fun T H => ∃ a2 : aH, ∃ b3 : aH, Has T [(2, (.rp (aJ a2))), (3, (.rp (aJ b3)))] ∧ aL ⟨H0, [], []⟩ H [] ∧ qM a2 b3 = some r) ?_ ?_
  · clear hO h0
    rintro T H ⟨a2, b3, hT, hO, h0⟩
    refine aY hT ?_
    clear hT
    unfold qM at h0
    refine aM ?_
    refine aT aF 7 [] [(70, (aK (!decide (((ByteArray.size a2.Text : Nat) : Int) = ((ByteArray.size b3.Text : Nat) : Int)))))] ?_
    refine bE h0 (fun h0 => ?_) (fun h0 => ?_)
    · refine aM ?_
      refine bO aF 7 [(77, (aK (decide (((ByteArray.size a2.Text : Nat) : Int) < ((ByteArray.size b3.Text : Nat) : Int)))))] ?_
      refine bE h0 (fun h0 => ?_) (fun h0 => ?_)
      · refine bO aF 1 [(4, (eI (-1 : Int)))] ?_
        refine bG ?_
        obtain rfl := oI h0
        exact aI (aP (aP (Q_r hO)))
      refine bF ?_
      refine bD [] ?_
      refine bO aF 1 [(4, (eI (1 : Int)))] ?_
      refine bG ?_
      obtain rfl := oI h0
      exact aI (aP (Q_r hO))
    refine bF ?_
    refine bD [] ?_
    refine bO aF 1 [(4, (eI (0 : Int)))] ?_
    refine bG ?_
    obtain rfl := oI h0
    exact aI (Q_r hO)
  refine aT aF 1 [] [(5, (eI (0 : Int)))] ?_
  refine bP 0 ?_
  refine cP [(2, (.rp (aJ a0))), (3, (.rp (aJ b1))), (5, (eI (0 : Int)))] ?_
  refine cE (fun T H => ∃ a2 : aH, ∃ b3 : aH, ∃ i5 : Int, Has T [(2, (.rp (aJ a2))), (3, (.rp (aJ b3))), (5, (eI i5))] ∧ aL ⟨H0, [], []⟩ H [] ∧ tF a2 b3 i5 = some r) ?_ ⟨a0, b1, (0 : Int), .eq (by kernel_rfl), hO, h0⟩
  clear hO h0
  rintro T H ⟨a2, b3, i5, hT, hO, h0⟩
  refine aY hT ?_
  clear hT
  unfold tF at h0
  obtain ⟨rr0, hl0, h0⟩ := aV h0
  refine bU (by kernel_rfl) (fun (s : Int) T H => Has T [(2, (.rp (aJ a2))), (3, (.rp (aJ b3))), (5, (eI s))] ∧ aL ⟨H0, [], []⟩ H []) hl0 ⟨.eq (by kernel_rfl), hO⟩ ?_
  clear hO
  rintro k0 s out1 T H ⟨hT, hO⟩ h1 ho0
  obtain ⟨i5, rfl⟩ : ∃ x, x = s := ⟨_, rfl⟩
  replace h1 : fZ a2 b3 i5 = some out1 := h1
  refine aY hT ?_
  clear hT
  unfold fZ at h1
  refine aM ?_
  refine aT aF 12 [] [(43, (aK ((decide (i5 < ((ByteArray.size a2.Text : Nat) : Int))) && (decide (i5 < ((ByteArray.size b3.Text : Nat) : Int))))))] ?_
  refine bE h1 (fun h1 => ?_) (fun h1 => ?_)
  · refine bF ?_
    refine bD [(2, (.rp (aJ a2))), (3, (.rp (aJ b3))), (5, (eI i5))] ?_
    refine aM ?_
    refine bP 1 ?_
    refine aM ?_
    refine fG (fF [47, 51]) aF 9 ?_
    obtain ⟨c15, h1⟩ := bA h1
    obtain ⟨c16, h1⟩ := bA h1
    refine BY (Ds := [0 ≤ i5 ∧ i5 < ((ByteArray.size a2.Text : Nat) : Int), 0 ≤ i5 ∧ i5 < ((ByteArray.size b3.Text : Nat) : Int)]) (by kernel_rfl) ⟨c15, c16, trivial⟩ ?_
    refine bN [] [(54, (aK (!decide ((bt a2.Text i5) = (bt b3.Text i5)))))] ?_
    refine bE h1 (fun h1 => ?_) (fun h1 => ?_)
    · refine aM ?_
      refine aM ?_
      refine fG (fF [56, 60]) aF 9 ?_
      obtain ⟨c18, h1⟩ := bA h1
      obtain ⟨c19, h1⟩ := bA h1
      refine BY (Ds := [0 ≤ i5 ∧ i5 < ((ByteArray.size a2.Text : Nat) : Int), 0 ≤ i5 ∧ i5 < ((ByteArray.size b3.Text : Nat) : Int)]) (by kernel_rfl) ⟨c18, c19, trivial⟩ ?_
      refine bD [(63, (aK (decide ((bt a2.Text i5) < (bt b3.Text i5)))))] ?_
      refine bE h1 (fun h1 => ?_) (fun h1 => ?_)
      · refine bO aF 1 [(4, (eI (-1 : Int)))] ?_
        refine bG ?_
        obtain rfl := oI h1
        obtain rfl : _ = rr0 := ho0
        replace h0 : some (-1 : Int) = some r := h0
        obtain rfl := oI h0
        exact aI (aP (bL (aP (aP (bL (aP (Q_r hO)))))))
      refine bF ?_
      refine bD [] ?_
      refine bO aF 1 [(4, (eI (1 : Int)))] ?_
      refine bG ?_
      obtain rfl := oI h1
      obtain rfl : _ = rr0 := ho0
      replace h0 : some (1 : Int) = some r := h0
      obtain rfl := oI h0
      exact aI (bL (aP (aP (bL (aP (Q_r hO))))))
    refine bF ?_
    refine cR [(2, (.rp (aJ a2))), (3, (.rp (aJ b3))), (5, (eI i5))] ?_
    refine aI (aX (aG (?_)))
    refine aS aF 3 ?_
    refine aZ ?_
    exact aI (aG (⟨rfl, _, (oI h1).symm, .eq (by kernel_rfl), hO⟩))
  refine cQ 0 ?_
  obtain rfl := oI h1
  obtain rfl : _ = rr0 := ho0
  replace h0 : qM a2 b3 = some r := h0
  exact aI (aR (aR (bH (aG (⟨rfl, _, _, .eq (by kernel_rfl), hO, h0⟩)))))

theorem EP (a0 : (List aH)) (b1 : (List aH)) (r : Int) (h0 : oU a0 b1 = some r) : bR Tryz.prog 54 [(eL aJ a0), (eL aJ b1)] (eI r) := by
  intro H0
  refine cA Tryz.func54 ?_
  have hO := aL.start H0
  unfold oU at h0
  refine aT aF 1 [] [] ?_
  refine aM ?_
  refine aM ?_
  refine aS aF 8 ?_
  refine bK 1 ?_
  obtain ⟨x1, hx2, h0⟩ := aV h0
  refine bW (BT a0 _ hx2) hO ?_
  intro H hO
  refine bK 5 ?_
  obtain ⟨x4, hx5, h0⟩ := aV h0
  refine jQ [(10, false)] 52 [(eL aJ b1)] (aK x4) (!(!x1)) (by kernel_rfl) (by kernel_rfl) (by kernel_rfl) (fun hb6 => (BT b1 _ (jI hx5 hb6))) hO ?_
  intro H hO
  refine aZ ?_
  refine bN [] [(14, (aK ((!x1) || (!x4))))] ?_
  refine bE h0 (fun h0 => ?_) (fun h0 => ?_)
  · refine bO aF 1 [(4, (eI (0 : Int)))] ?_
    refine bG ?_
    obtain rfl := oI h0
    exact aI (aP (Q_r hO))
  refine bF ?_
  refine bD [(0, (eL aJ a0)), (1, (eL aJ b1))] ?_
  refine cC (fun T H => Has T [(0, (eL aJ a0)), (1, (eL aJ b1))] ∧ aL ⟨H0, [], []⟩ H [] ∧ qE a0 b1 = some r) ?_ ?_
  · clear hO h0
    rintro T H ⟨hT, hO, h0⟩
    refine aY hT ?_
    clear hT
    unfold qE at h0
    refine aM ?_
    refine aT aF 5 [] [(43, (aK (decide ((lN a0) < (lN b1)))))] ?_
    refine bE h0 (fun h0 => ?_) (fun h0 => ?_)
    · refine bO aF 1 [(4, (eI (-1 : Int)))] ?_
      refine bG ?_
      obtain rfl := oI h0
      exact aI (aP (Q_r hO))
    refine bF ?_
    refine bD [(0, (eL aJ a0)), (1, (eL aJ b1))] ?_
    refine aM ?_
    refine bO aF 5 [(48, (aK (decide ((lN b1) < (lN a0)))))] ?_
    refine bE h0 (fun h0 => ?_) (fun h0 => ?_)
    · refine bO aF 1 [(4, (eI (1 : Int)))] ?_
      refine bG ?_
      obtain rfl := oI h0
      exact aI (aP (Q_r hO))
    refine bF ?_
    refine bD [] ?_
    refine bO aF 1 [(4, (eI (0 : Int)))] ?_
    refine bG ?_
    obtain rfl := oI h0
    exact aI (Q_r hO)
  refine aT aF 1 [] [(5, (eI (0 : Int)))] ?_
  refine bP 0 ?_
  refine cP [(0, (eL aJ a0)), (1, (eL aJ b1)), (5, (eI (0 : Int)))] ?_
  refine cE (fun T H => ∃ i5 : Int, Has T [(0, (eL aJ a0)), (1, (eL aJ b1)), (5, (eI i5))] ∧ aL ⟨H0, [], []⟩ H [] ∧ tG a0 b1 i5 = some r) ?_ ⟨(0 : Int), .eq (by kernel_rfl), hO, h0⟩
  clear hO h0
  rintro T H ⟨i5, hT, hO, h0⟩
  refine aY hT ?_
  clear hT
  unfold tG at h0
  obtain ⟨rr0, hl0, h0⟩ := aV h0
  refine bU (by kernel_rfl) (fun (s : Int) T H => Has T [(0, (eL aJ a0)), (1, (eL aJ b1)), (5, (eI s))] ∧ aL ⟨H0, [], []⟩ H []) hl0 ⟨.eq (by kernel_rfl), hO⟩ ?_
  clear hO
  rintro k0 s out1 T H ⟨hT, hO⟩ h1 ho0
  obtain ⟨i5, rfl⟩ : ∃ x, x = s := ⟨_, rfl⟩
  replace h1 : fY a0 b1 i5 = some out1 := h1
  refine aY hT ?_
  clear hT
  unfold fY at h1
  refine aM ?_
  refine aT aF 10 [] [(24, (aK ((decide (i5 < (lN a0))) && (decide (i5 < (lN b1))))))] ?_
  refine bE h1 (fun h1 => ?_) (fun h1 => ?_)
  · refine bF ?_
    refine bD [(0, (eL aJ a0)), (1, (eL aJ b1)), (5, (eI i5))] ?_
    refine aM ?_
    refine bP 1 ?_
    refine aM ?_
    refine fG (fF [30, 34]) aF 10 ?_
    obtain ⟨c11, h1⟩ := bA h1
    obtain ⟨c12, h1⟩ := bA h1
    refine cU 8 [0 ≤ i5 ∧ i5 < (lN a0), 0 ≤ i5 ∧ i5 < (lN b1)] ⟨c11, c12, trivial⟩ ?_
    obtain ⟨x13, hx14, h1⟩ := aV h1
    refine BC (NY (gD a0 i5) (gD b1 i5) _ hx14) hO ?_
    intro H hO
    refine jU ?_
    refine bN [] [(6, (eI x13))] ?_
    refine aT aF 2 [] [(37, (aK (!decide (x13 = (0 : Int)))))] ?_
    refine bE h1 (fun h1 => ?_) (fun h1 => ?_)
    · refine bO aF 2 [(4, (eI x13))] ?_
      refine bG ?_
      obtain rfl := oI h1
      obtain rfl : _ = rr0 := ho0
      replace h0 : some x13 = some r := h0
      obtain rfl := oI h0
      exact aI (bL (aP (aP (bL (aP (Q_r hO))))))
    refine bF ?_
    refine cR [(0, (eL aJ a0)), (1, (eL aJ b1)), (5, (eI i5))] ?_
    refine aI (aX (aG (?_)))
    refine aS aF 3 ?_
    refine aZ ?_
    exact aI (aG (⟨rfl, _, (oI h1).symm, .eq (by kernel_rfl), hO⟩))
  refine cQ 0 ?_
  obtain rfl := oI h1
  obtain rfl : _ = rr0 := ho0
  replace h0 : qE a0 b1 = some r := h0
  exact aI (aR (aR (bH (aG (⟨rfl, .eq (by kernel_rfl), hO, h0⟩)))))

theorem EF (a0 : (List aH)) (b1 : (List aH)) (r : Bool) (h0 : qL a0 b1 = some r) : bR Tryz.prog 20 [(eL aJ a0), (eL aJ b1)] (aK r) := by
  intro H0
  refine cA Tryz.func20 ?_
  have hO := aL.start H0
  unfold qL at h0
  refine aT aF 1 [] [] ?_
  refine aM ?_
  refine aT aF 5 [] [(10, (aK (!decide ((lN a0) = (lN b1)))))] ?_
  refine bE h0 (fun h0 => ?_) (fun h0 => ?_)
  · refine bO aF 1 [(4, (aK false))] ?_
    refine bG ?_
    obtain rfl := oI h0
    exact aI (aP (Q_r hO))
  refine bF ?_
  refine bD [(0, (eL aJ a0)), (1, (eL aJ b1))] ?_
  refine cC (fun T H => Has T [] ∧ aL ⟨H0, [], []⟩ H [] ∧ tO  = some r) ?_ ?_
  · clear hO h0
    rintro T H ⟨hT, hO, h0⟩
    refine aY hT ?_
    clear hT
    unfold tO at h0
    refine bO aF 1 [(4, (aK true))] ?_
    refine bG ?_
    obtain rfl := oI h0
    exact aI (Q_r hO)
  refine aT aF 1 [] [(5, (eI (0 : Int)))] ?_
  refine bP 0 ?_
  refine cP [(0, (eL aJ a0)), (1, (eL aJ b1)), (5, (eI (0 : Int)))] ?_
  refine cE (fun T H => ∃ i5 : Int, Has T [(0, (eL aJ a0)), (1, (eL aJ b1)), (5, (eI i5))] ∧ aL ⟨H0, [], []⟩ H [] ∧ yG a0 b1 i5 = some r) ?_ ⟨(0 : Int), .eq (by kernel_rfl), hO, h0⟩
  clear hO h0
  rintro T H ⟨i5, hT, hO, h0⟩
  refine aY hT ?_
  clear hT
  unfold yG at h0
  obtain ⟨rr0, hl0, h0⟩ := aV h0
  refine bU (by kernel_rfl) (fun (s : Int) T H => Has T [(0, (eL aJ a0)), (1, (eL aJ b1)), (5, (eI s))] ∧ aL ⟨H0, [], []⟩ H []) hl0 ⟨.eq (by kernel_rfl), hO⟩ ?_
  clear hO
  rintro k0 s out1 T H ⟨hT, hO⟩ h1 ho0
  obtain ⟨i5, rfl⟩ : ∃ x, x = s := ⟨_, rfl⟩
  replace h1 : rD a0 b1 i5 = some out1 := h1
  refine aY hT ?_
  clear hT
  unfold rD at h1
  refine aM ?_
  refine aT aF 4 [] [(14, (aK (decide (i5 < (lN a0)))))] ?_
  refine bE h1 (fun h1 => ?_) (fun h1 => ?_)
  · refine bF ?_
    refine bD [(0, (eL aJ a0)), (1, (eL aJ b1)), (5, (eI i5))] ?_
    refine aM ?_
    refine bP 1 ?_
    refine aM ?_
    refine fG (fF [20, 24]) aF 9 ?_
    obtain ⟨c3, h1⟩ := bA h1
    obtain ⟨c4, h1⟩ := bA h1
    refine BY (Ds := [0 ≤ i5 ∧ i5 < (lN a0), 0 ≤ i5 ∧ i5 < (lN b1)]) (by kernel_rfl) ⟨c3, c4, trivial⟩ ?_
    refine bN [] [(25, (aK (!((decide (((gD a0 i5).Kind) = ((gD b1 i5).Kind))) && ((decide (((gD a0 i5).Num) = ((gD b1 i5).Num))) && ((oJ ((gD a0 i5).Text) ((gD b1 i5).Text)) && true))))))] ?_
    refine bE h1 (fun h1 => ?_) (fun h1 => ?_)
    · refine bO aF 1 [(4, (aK false))] ?_
      refine bG ?_
      obtain rfl := oI h1
      obtain rfl : _ = rr0 := ho0
      replace h0 : some false = some r := h0
      obtain rfl := oI h0
      exact aI (bL (aP (aP (bL (aP (Q_r hO))))))
    refine bF ?_
    refine cR [(0, (eL aJ a0)), (1, (eL aJ b1)), (5, (eI i5))] ?_
    refine aI (aX (aG (?_)))
    refine aS aF 3 ?_
    refine aZ ?_
    exact aI (aG (⟨rfl, _, (oI h1).symm, .eq (by kernel_rfl), hO⟩))
  refine cQ 0 ?_
  obtain rfl := oI h1
  obtain rfl : _ = rr0 := ho0
  replace h0 : tO  = some r := h0
  exact aI (aR (aR (bH (aG (⟨rfl, .eq (by kernel_rfl), hO, h0⟩)))))

theorem DS (l0 : (List aC)) (r : (List (List aH))) (h0 : qJ l0 = some r) : bR Tryz.prog 23 [(eL aE l0)] (eL (eL aJ) r) := by
  intro H0
  refine cA Tryz.func23 ?_
  have hO := aL.start H0
  unfold qJ at h0
  refine aT aF 1 [] [] ?_
  refine aM ?_
  refine aS aF 2 ?_
  refine fE (xs := []) (k := 1) (by kernel_rfl) (by kernel_rfl) ?_
  refine aZ ?_
  refine bN [] [(3, (.sl true 0 (fun _ => .bad)))] ?_
  refine cC (fun T H => ∃ bQ : List (List aH), ∃ lo1 : Nat, Has T [(3, (.msl 1 lo1 0 (List.length bQ)))] ∧ aL ⟨H0, [], []⟩ H [(lo1, 1, List.map (eL aJ) bQ)] ∧ yT bQ = some r) ?_ ?_
  · clear hO h0
    rintro T H ⟨bQ, lo1, hT, hO, h0⟩
    refine aY hT ?_
    clear hT
    unfold yT at h0
    refine bO aF 2 [(2, (.msl 1 lo1 0 (List.length bQ)))] ?_
    refine bG ?_
    refine cR [(2, (.msl 1 lo1 0 (List.length bQ)))] ?_
    refine pR (en := (eL aJ)) bQ 0 0 2 1 lo1 (List.length bQ) hO (by kernel_rfl) (by kernel_rfl) (by kernel_rfl) (L' := []) (by kernel_rfl) ?_
    intro H2 hO
    obtain rfl := oI h0
    exact aI (Q_r hO)
  refine aT aF 1 [] [(4, (eI (0 : Int)))] ?_
  refine bP 0 ?_
  refine cP [(0, (eL aE l0)), (3, (.sl true 0 (fun _ => .bad))), (4, (eI (0 : Int)))] ?_
  refine rP (el := (fun _ => .bad)) 1 3 1 hO (by kernel_rfl) ?_
  intro lo31 H32 hO
  refine cE (fun T H => ∃ bQ : List (List aH), ∃ i4 : Int, ∃ lo4 : Nat, Has T [(0, (eL aE l0)), (3, (.msl 1 lo4 0 (List.length bQ))), (4, (eI i4))] ∧ aL ⟨H0, [], []⟩ H [(lo4, 1, List.map (eL aJ) bQ)] ∧ yA l0 bQ i4 = some r) ?_ ⟨([] : List (List aH)), (0 : Int), lo31, .eq (by kernel_rfl), hO, h0⟩
  clear hO h0
  rintro T H ⟨bQ, i4, lo4, hT, hO, h0⟩
  refine aY hT ?_
  clear hT
  unfold yA at h0
  obtain ⟨rr0, hl0, h0⟩ := aV h0
  refine bU (by kernel_rfl) (fun (s : List (List aH) × Int) T H => ∃ lo4 : Nat, Has T [(0, (eL aE l0)), (3, (.msl 1 lo4 0 (List.length s.1))), (4, (eI s.2))] ∧ aL ⟨H0, [], []⟩ H [(lo4, 1, List.map (eL aJ) s.1)]) hl0 ⟨lo4, .eq (by kernel_rfl), hO⟩ ?_
  clear hO
  rintro k0 s out1 T H ⟨lo4, hT, hO⟩ h1 ho0
  obtain ⟨bQ, i4⟩ := s
  replace h1 : nK l0 bQ i4 = some out1 := h1
  dsimp only at hT
  refine aY hT ?_
  clear hT
  unfold nK at h1
  refine aM ?_
  refine aT aF 4 [] [(11, (aK (decide (i4 < (lN l0)))))] ?_
  refine bE h1 (fun h1 => ?_) (fun h1 => ?_)
  · refine bF ?_
    refine bD [(0, (eL aE l0)), (3, (.msl 1 lo4 0 (List.length bQ))), (4, (eI i4))] ?_
    refine cC (fun T H => ∃ bQ : List (List aH), ∃ lo6 : Nat, Has T [(0, (eL aE l0)), (3, (.msl 1 lo6 0 (List.length bQ))), (4, (eI i4))] ∧ aL ⟨H0, [], []⟩ H [(lo6, 1, List.map (eL aJ) bQ)] ∧ uC l0 bQ i4 = some out1) ?_ ?_
    · clear hO h1
      rintro T H ⟨bQ, lo6, hT, hO, h1⟩
      refine aY hT ?_
      clear hT
      unfold uC at h1
      refine aS aF 3 ?_
      refine aZ ?_
      exact aI (aG (⟨rfl, _, (oI h1).symm, _, .eq (by kernel_rfl), hO⟩))
    refine bP 1 ?_
    refine aT aF 1 [] [(5, (eI (0 : Int)))] ?_
    refine cC (fun T H => ∃ bQ : List (List aH), ∃ at5 : Int, ∃ lo7 : Nat, Has T [(0, (eL aE l0)), (3, (.msl 1 lo7 0 (List.length bQ))), (4, (eI i4)), (5, (eI at5))] ∧ aL ⟨H0, [], []⟩ H [(lo7, 1, List.map (eL aJ) bQ)] ∧ uN l0 bQ i4 at5 = some out1) ?_ ?_
    · clear hO h1
      rintro T H ⟨bQ, at5, lo7, hT, hO, h1⟩
      refine aY hT ?_
      clear hT
      unfold uN at h1
      refine aM ?_
      refine aM ?_
      obtain ⟨c8, h1⟩ := bA h1
      obtain ⟨c9, h1⟩ := bA h1
      obtain ⟨x10, hx11, h1⟩ := aV h1
      refine fG (fF [46]) aF 16 ?_
      refine xU (K := fun T H => Has (lift T) [(0, (eL aE l0)), (3, (.msl 1 lo7 0 (List.length bQ))), (4, (eI i4)), (5, (eI at5)), (48, (aK ((decide (at5 < (lN bQ))) && x10)))] ∧ aL ⟨H0, [], []⟩ H [(lo7, 1, List.map (eL aJ) bQ)]) ?_ ?_
      · refine sQ 5 ?_
        refine sF (t := 37) (e := decide (at5 < (lN bQ))) (by kernel_rfl) (fun hg12 => ?_) (fun hg12 => ?_)
        · refine cU 8 [0 ≤ at5 ∧ at5 < (lN bQ)] ⟨(c8 hg12), trivial⟩ ?_
          refine zF 0 lo7 1 (0 + Int.toNat at5) (eL aJ (gD bQ at5)) (eL aJ (gD bQ at5)) (List.map (eL aJ) bQ) (by kernel_rfl) (by kernel_rfl) (by kernel_rfl) hO (by kernel_rfl) (cS (c8 hg12)) ?_
          refine cU 14 [0 ≤ i4 ∧ i4 < (lN l0)] ⟨(c9 hg12), trivial⟩ ?_
          refine BK 20 [(eL aJ (gD bQ at5)), (eL aJ ((gD l0 i4).Row))] (aK x10) (by kernel_rfl) (by kernel_rfl) (EF (gD bQ at5) ((gD l0 i4).Row) _ (jI hx11 hg12)) hO ?_
          intro H hO
          refine jU ?_
          exact ⟨⟨[(0, (eL aE l0)), (3, (.msl 1 lo7 0 (List.length bQ))), (4, (eI i4)), (5, (eI at5)), (48, (aK x10))], by kernel_rfl, rfl, ⟨aU.refl _, aU.refl _, aU.refl _, aU.refl _, aU.eq (congrArg aK (rZ hg12 rfl).symm), trivial⟩⟩, hO⟩
        refine jU ?_
        exact ⟨⟨[(0, (eL aE l0)), (3, (.msl 1 lo7 0 (List.length bQ))), (4, (eI i4)), (5, (eI at5)), (48, (aK false))], by kernel_rfl, rfl, ⟨aU.refl _, aU.refl _, aU.refl _, aU.refl _, aU.eq (congrArg aK (rZ hg12 rfl).symm), trivial⟩⟩, hO⟩
      · rintro T H ⟨hT, hO⟩
        refine cB hT ?_
        clear hT
        refine aI (aG ?_)
        refine bE h1 (fun h1 => ?_) (fun h1 => ?_)
        · refine cQ 1 ?_
          exact aI (aR (bH (aG (⟨rfl, _, _, .eq (by kernel_rfl), hO, h1⟩))))
        refine bF ?_
        refine bD [(0, (eL aE l0)), (3, (.msl 1 lo7 0 (List.length bQ))), (4, (eI i4)), (5, (eI at5))] ?_
        refine aM ?_
        refine aS aF 6 ?_
        refine fE (xs := []) (k := 1) (by kernel_rfl) (by kernel_rfl) ?_
        obtain ⟨c14, h1⟩ := bA h1
        refine mP 4 [0 ≤ at5 ∧ at5 ≤ (lN bQ)] ⟨c14, trivial⟩ ?_
        obtain ⟨c16, h1⟩ := bA h1
        refine GQ (e := (eL aJ)) (List.take (Int.toNat at5) bQ) (fun _ => .bad) 1 24 (.msl 1 lo7 0 (Int.toNat at5)) (fun lo15 => [(lo7, 1, List.map (eL aJ) bQ), (lo15, 1, List.map (eL aJ) (List.take (Int.toNat at5) bQ))]) (by kernel_rfl) (by kernel_rfl) hO (SK hO 0 (by kernel_rfl) (Int.toNat_le.2 (And.right c14))) c16 (fun _ => by kernel_rfl) ?_
        intro lo15 H hO
        refine aZ ?_
        refine bN [] [(6, (.msl 1 lo15 0 (List.length (List.take (Int.toNat at5) bQ))))] ?_
        refine aM ?_
        refine aS aF 9 ?_
        obtain ⟨c17, h1⟩ := bA h1
        refine mP 6 [0 ≤ i4 ∧ i4 < (lN l0)] ⟨c17, trivial⟩ ?_
        refine fE (xs := [(eL aJ ((gD l0 i4).Row))]) (k := 1) (by kernel_rfl) (by kernel_rfl) ?_
        obtain ⟨c19, h1⟩ := bA h1
        refine nB (e := (eL aJ)) (List.take (Int.toNat at5) bQ) ([(gD l0 i4).Row]) 1 lo15 1 24 (dL [(eL aJ ((gD l0 i4).Row))]) (fun lo18 => [(lo7, 1, List.map (eL aJ) bQ), (lo18, 1, List.map (eL aJ) ((List.take (Int.toNat at5) bQ) ++ ([(gD l0 i4).Row])))]) (by kernel_rfl) (by kernel_rfl) hO (by kernel_rfl) (by kernel_rfl) c19 (fun _ => by kernel_rfl) ?_
        intro lo18 H hO
        refine aZ ?_
        refine bN [6] [(6, (.msl 1 lo18 0 (List.length ((List.take (Int.toNat at5) bQ) ++ ([(gD l0 i4).Row])))))] ?_
        refine aS aF 6 ?_
        obtain ⟨c20, h1⟩ := bA h1
        refine mP 4 [0 ≤ at5 ∧ at5 ≤ (lN bQ)] ⟨c20, trivial⟩ ?_
        obtain ⟨c22, h1⟩ := bA h1
        refine nB (e := (eL aJ)) ((List.take (Int.toNat at5) bQ) ++ ([(gD l0 i4).Row])) (List.drop (Int.toNat at5) bQ) 1 lo18 1 24 (.msl 1 lo7 (0 + Int.toNat at5) (List.length bQ - Int.toNat at5)) (fun lo21 => [(lo7, 1, List.map (eL aJ) bQ), (lo21, 1, List.map (eL aJ) (((List.take (Int.toNat at5) bQ) ++ ([(gD l0 i4).Row])) ++ (List.drop (Int.toNat at5) bQ)))]) (by kernel_rfl) (by kernel_rfl) hO (by kernel_rfl) (UJ hO 0 (by kernel_rfl) rfl (Int.toNat_le.2 (And.right c20))) c22 (fun _ => by kernel_rfl) ?_
        intro lo21 H hO
        refine aZ ?_
        replace hO := hO.pick (L' := [(lo21, 1, List.map (eL aJ) (((List.take (Int.toNat at5) bQ) ++ ([(gD l0 i4).Row])) ++ (List.drop (Int.toNat at5) bQ)))]) [1] (by decide) (by kernel_rfl)
        exact aI (aX (aG (⟨rfl, _, _, .eq (by kernel_rfl), hO, h1⟩)))
    refine bP 2 ?_
    refine cP [(0, (eL aE l0)), (3, (.msl 1 lo4 0 (List.length bQ))), (4, (eI i4)), (5, (eI (0 : Int)))] ?_
    refine cE (fun T H => ∃ bQ : List (List aH), ∃ at5 : Int, ∃ lo24 : Nat, Has T [(0, (eL aE l0)), (3, (.msl 1 lo24 0 (List.length bQ))), (4, (eI i4)), (5, (eI at5))] ∧ aL ⟨H0, [], []⟩ H [(lo24, 1, List.map (eL aJ) bQ)] ∧ yD l0 bQ i4 at5 = some out1) ?_ ⟨bQ, (0 : Int), lo4, .eq (by kernel_rfl), hO, h1⟩
    clear hO h1
    rintro T H ⟨bQ, at5, lo24, hT, hO, h1⟩
    refine aY hT ?_
    clear hT
    unfold yD at h1
    obtain ⟨rr1, hl1, h1⟩ := aV h1
    refine bU (by kernel_rfl) (fun (s : List (List aH) × Int) T H => ∃ lo24 : Nat, Has T [(0, (eL aE l0)), (3, (.msl 1 lo24 0 (List.length s.1))), (4, (eI i4)), (5, (eI s.2))] ∧ aL ⟨H0, [], []⟩ H [(lo24, 1, List.map (eL aJ) s.1)]) hl1 ⟨lo24, .eq (by kernel_rfl), hO⟩ ?_
    clear hO
    rintro k1 s out2 T H ⟨lo24, hT, hO⟩ h2 ho1
    obtain ⟨bQ, at5⟩ := s
    replace h2 : lZ l0 i4 bQ at5 = some out2 := h2
    dsimp only at hT
    refine aY hT ?_
    clear hT
    unfold lZ at h2
    refine aM ?_
    refine aM ?_
    obtain ⟨c25, h2⟩ := bA h2
    obtain ⟨c26, h2⟩ := bA h2
    obtain ⟨x27, hx28, h2⟩ := aV h2
    refine fG (fF [27]) aF 17 ?_
    refine xU (K := fun T H => Has (lift T) [(0, (eL aE l0)), (3, (.msl 1 lo24 0 (List.length bQ))), (4, (eI i4)), (5, (eI at5)), (30, (aK ((decide (at5 < (lN bQ))) && (decide (x27 < (0 : Int))))))] ∧ aL ⟨H0, [], []⟩ H [(lo24, 1, List.map (eL aJ) bQ)]) ?_ ?_
    · refine sQ 5 ?_
      refine sF (t := 18) (e := decide (at5 < (lN bQ))) (by kernel_rfl) (fun hg29 => ?_) (fun hg29 => ?_)
      · refine cU 8 [0 ≤ at5 ∧ at5 < (lN bQ)] ⟨(c25 hg29), trivial⟩ ?_
        refine zF 0 lo24 1 (0 + Int.toNat at5) (eL aJ (gD bQ at5)) (eL aJ (gD bQ at5)) (List.map (eL aJ) bQ) (by kernel_rfl) (by kernel_rfl) (by kernel_rfl) hO (by kernel_rfl) (cS (c25 hg29)) ?_
        refine cU 14 [0 ≤ i4 ∧ i4 < (lN l0)] ⟨(c26 hg29), trivial⟩ ?_
        refine BK 54 [(eL aJ (gD bQ at5)), (eL aJ ((gD l0 i4).Row))] (eI x27) (by kernel_rfl) (by kernel_rfl) (EP (gD bQ at5) ((gD l0 i4).Row) _ (jI hx28 hg29)) hO ?_
        intro H hO
        refine jU ?_
        exact ⟨⟨[(0, (eL aE l0)), (3, (.msl 1 lo24 0 (List.length bQ))), (4, (eI i4)), (5, (eI at5)), (30, (aK (decide (x27 < (0 : Int)))))], by kernel_rfl, rfl, ⟨aU.refl _, aU.refl _, aU.refl _, aU.refl _, aU.eq (congrArg aK (rZ hg29 rfl).symm), trivial⟩⟩, hO⟩
      refine jU ?_
      exact ⟨⟨[(0, (eL aE l0)), (3, (.msl 1 lo24 0 (List.length bQ))), (4, (eI i4)), (5, (eI at5)), (30, (aK false))], by kernel_rfl, rfl, ⟨aU.refl _, aU.refl _, aU.refl _, aU.refl _, aU.eq (congrArg aK (rZ hg29 rfl).symm), trivial⟩⟩, hO⟩
    · rintro T H ⟨hT, hO⟩
      refine cB hT ?_
      clear hT
      refine aI (aG ?_)
      refine bE h2 (fun h2 => ?_) (fun h2 => ?_)
      · refine bF ?_
        refine bD [(0, (eL aE l0)), (3, (.msl 1 lo24 0 (List.length bQ))), (4, (eI i4)), (5, (eI at5))] ?_
        refine bP 3 ?_
        refine aS aF 3 ?_
        refine aZ ?_
        exact aI (aX (aG (⟨rfl, _, (oI h2).symm, _, .eq (by kernel_rfl), hO⟩)))
      refine cQ 2 ?_
      obtain rfl := oI h2
      obtain rfl : _ = rr1 := ho1
      replace h1 : uN l0 bQ i4 at5 = some out1 := h1
      exact aI (aR (aR (bH (aG (⟨rfl, _, _, _, .eq (by kernel_rfl), hO, h1⟩)))))
  refine cQ 0 ?_
  obtain rfl := oI h1
  obtain rfl : _ = rr0 := ho0
  replace h0 : yT bQ = some r := h0
  exact aI (aR (aR (bH (aG (⟨rfl, _, _, .eq (by kernel_rfl), hO, h0⟩)))))

theorem CT (l0 : (List aC)) (r1 : (List aH)) (r : (List aA)) (h0 : pE l0 r1 = some r) : bR Tryz.prog 24 [(eL aE l0), (eL aJ r1)] (eL aD r) := by
  intro H0
  refine cA Tryz.func24 ?_
  have hO := aL.start H0
  unfold pE at h0
  refine aT aF 1 [] [] ?_
  refine aM ?_
  refine aS aF 2 ?_
  refine fE (xs := []) (k := 2) (by kernel_rfl) (by kernel_rfl) ?_
  refine aZ ?_
  refine bN [] [(5, (.sl true 0 (fun _ => .bad)))] ?_
  refine cC (fun T H => ∃ f5 : List aA, ∃ lo1 : Nat, Has T [(5, (.msl 2 lo1 0 (List.length f5)))] ∧ aL ⟨H0, [], []⟩ H [(lo1, 2, List.map aD f5)] ∧ wV f5 = some r) ?_ ?_
  · clear hO h0
    rintro T H ⟨f5, lo1, hT, hO, h0⟩
    refine aY hT ?_
    clear hT
    unfold wV at h0
    refine bO aF 2 [(4, (.msl 2 lo1 0 (List.length f5)))] ?_
    refine bG ?_
    refine cR [(4, (.msl 2 lo1 0 (List.length f5)))] ?_
    refine pR (en := aD) f5 0 0 4 2 lo1 (List.length f5) hO (by kernel_rfl) (by kernel_rfl) (by kernel_rfl) (L' := []) (by kernel_rfl) ?_
    intro H2 hO
    obtain rfl := oI h0
    exact aI (Q_r hO)
  refine aT aF 1 [] [(6, (eI (0 : Int)))] ?_
  refine bP 0 ?_
  refine cP [(0, (eL aE l0)), (1, (eL aJ r1)), (5, (.sl true 0 (fun _ => .bad))), (6, (eI (0 : Int)))] ?_
  refine rP (el := (fun _ => .bad)) 2 5 2 hO (by kernel_rfl) ?_
  intro lo16 H17 hO
  refine cE (fun T H => ∃ f5 : List aA, ∃ i6 : Int, ∃ lo4 : Nat, Has T [(0, (eL aE l0)), (1, (eL aJ r1)), (5, (.msl 2 lo4 0 (List.length f5))), (6, (eI i6))] ∧ aL ⟨H0, [], []⟩ H [(lo4, 2, List.map aD f5)] ∧ wT l0 r1 f5 i6 = some r) ?_ ⟨([] : List aA), (0 : Int), lo16, .eq (by kernel_rfl), hO, h0⟩
  clear hO h0
  rintro T H ⟨f5, i6, lo4, hT, hO, h0⟩
  refine aY hT ?_
  clear hT
  unfold wT at h0
  obtain ⟨rr0, hl0, h0⟩ := aV h0
  refine bU (by kernel_rfl) (fun (s : List aA × Int) T H => ∃ lo4 : Nat, Has T [(0, (eL aE l0)), (1, (eL aJ r1)), (5, (.msl 2 lo4 0 (List.length s.1))), (6, (eI s.2))] ∧ aL ⟨H0, [], []⟩ H [(lo4, 2, List.map aD s.1)]) hl0 ⟨lo4, .eq (by kernel_rfl), hO⟩ ?_
  clear hO
  rintro k0 s out1 T H ⟨lo4, hT, hO⟩ h1 ho0
  obtain ⟨f5, i6⟩ := s
  replace h1 : mM l0 r1 f5 i6 = some out1 := h1
  dsimp only at hT
  refine aY hT ?_
  clear hT
  unfold mM at h1
  refine aM ?_
  refine aT aF 4 [] [(11, (aK (decide (i6 < (lN l0)))))] ?_
  refine bE h1 (fun h1 => ?_) (fun h1 => ?_)
  · refine bF ?_
    refine bD [(0, (eL aE l0)), (1, (eL aJ r1)), (5, (.msl 2 lo4 0 (List.length f5))), (6, (eI i6))] ?_
    refine cC (fun T H => ∃ f5 : List aA, ∃ lo6 : Nat, Has T [(0, (eL aE l0)), (1, (eL aJ r1)), (5, (.msl 2 lo6 0 (List.length f5))), (6, (eI i6))] ∧ aL ⟨H0, [], []⟩ H [(lo6, 2, List.map aD f5)] ∧ sK l0 r1 f5 i6 = some out1) ?_ ?_
    · clear hO h1
      rintro T H ⟨f5, lo6, hT, hO, h1⟩
      refine aY hT ?_
      clear hT
      unfold sK at h1
      refine aS aF 3 ?_
      refine aZ ?_
      exact aI (aG (⟨rfl, _, (oI h1).symm, _, .eq (by kernel_rfl), hO⟩))
    refine bP 1 ?_
    refine aM ?_
    refine aS aF 7 ?_
    obtain ⟨c7, h1⟩ := bA h1
    refine mP 6 [0 ≤ i6 ∧ i6 < (lN l0)] ⟨c7, trivial⟩ ?_
    obtain ⟨x8, hx9, h1⟩ := aV h1
    refine bW (EF ((gD l0 i6).Row) r1 _ hx9) hO ?_
    intro H hO
    refine dO ?_
    refine bN [] [(20, (aK x8))] ?_
    refine bE h1 (fun h1 => ?_) (fun h1 => ?_)
    · refine fG (fF [26, 31]) aF 15 ?_
      obtain ⟨c12, h1⟩ := bA h1
      obtain ⟨c13, h1⟩ := bA h1
      refine cU 12 [0 ≤ i6 ∧ i6 < (lN l0), 0 ≤ i6 ∧ i6 < (lN l0)] ⟨c12, c13, trivial⟩ ?_
      refine ET (xs := [(aD (aA.mk ((gD l0 i6).At) ((gD l0 i6).Net)))]) (k := 2) (by kernel_rfl) (by kernel_rfl) ?_
      obtain ⟨c15, h1⟩ := bA h1
      refine DN (e := aD) f5 ([aA.mk ((gD l0 i6).At) ((gD l0 i6).Net)]) 0 lo4 2 16 (dL [(aD (aA.mk ((gD l0 i6).At) ((gD l0 i6).Net)))]) (fun lo14 => [(lo14, 2, List.map aD (f5 ++ ([aA.mk ((gD l0 i6).At) ((gD l0 i6).Net)])))]) (by kernel_rfl) (by kernel_rfl) hO (by kernel_rfl) (by kernel_rfl) c15 (fun _ => by kernel_rfl) ?_
      intro lo14 H hO
      refine jU ?_
      exact aI (aX (aG (⟨rfl, _, _, .eq (by kernel_rfl), hO, h1⟩)))
    refine bF ?_
    exact aI (aX (aG (⟨rfl, _, _, .eq (by kernel_rfl), hO, h1⟩)))
  refine cQ 0 ?_
  obtain rfl := oI h1
  obtain rfl : _ = rr0 := ho0
  replace h0 : wV f5 = some r := h0
  exact aI (aR (aR (bH (aG (⟨rfl, _, _, .eq (by kernel_rfl), hO, h0⟩)))))

theorem FI (l0 : (List aC)) (r : Bool) (h0 : rX l0 = some r) : bR Tryz.prog 18 [(eL aE l0)] (aK r) := by
  intro H0
  refine cA Tryz.func18 ?_
  have hO := aL.start H0
  unfold rX at h0
  refine aT aF 1 [] [] ?_
  refine aM ?_
  refine aT aF 3 [] [(9, (aK (decide ((4096 : Int) < (lN l0)))))] ?_
  refine bE h0 (fun h0 => ?_) (fun h0 => ?_)
  · refine bO aF 1 [(2, (aK false))] ?_
    refine bG ?_
    obtain rfl := oI h0
    exact aI (aP (Q_r hO))
  refine bF ?_
  refine bD [(0, (eL aE l0))] ?_
  refine cC (fun T H => Has T [(0, (eL aE l0))] ∧ aL ⟨H0, [], []⟩ H [] ∧ vR l0 = some r) ?_ ?_
  · clear hO h0
    rintro T H ⟨hT, hO, h0⟩
    refine aY hT ?_
    clear hT
    unfold vR at h0
    refine aM ?_
    refine aS aF 3 ?_
    refine bK 1 ?_
    obtain ⟨x2, hx3, h0⟩ := aV h0
    refine bW (DS l0 _ hx3) hO ?_
    intro H hO
    refine aZ ?_
    refine bN [] [(5, (eL (eL aJ) x2))] ?_
    refine cC (fun T H => Has T [] ∧ aL ⟨H0, [], []⟩ H [] ∧ AR  = some r) ?_ ?_
    · clear hO h0
      rintro T H ⟨hT, hO, h0⟩
      refine aY hT ?_
      clear hT
      unfold AR at h0
      refine bO aF 1 [(2, (aK true))] ?_
      refine bG ?_
      obtain rfl := oI h0
      exact aI (Q_r hO)
    refine aT aF 1 [] [(6, (eI (0 : Int)))] ?_
    refine bP 2 ?_
    refine cP [(0, (eL aE l0)), (5, (eL (eL aJ) x2)), (6, (eI (0 : Int)))] ?_
    refine cE (fun T H => ∃ sC : (List (List aH)), ∃ i6 : Int, Has T [(0, (eL aE l0)), (5, (eL (eL aJ) sC)), (6, (eI i6))] ∧ aL ⟨H0, [], []⟩ H [] ∧ AP l0 sC i6 = some r) ?_ ⟨x2, (0 : Int), .eq (by kernel_rfl), hO, h0⟩
    clear hO h0
    rintro T H ⟨sC, i6, hT, hO, h0⟩
    refine aY hT ?_
    clear hT
    unfold AP at h0
    obtain ⟨rr0, hl0, h0⟩ := aV h0
    refine bU (by kernel_rfl) (fun (s : Int) T H => Has T [(0, (eL aE l0)), (5, (eL (eL aJ) sC)), (6, (eI s))] ∧ aL ⟨H0, [], []⟩ H []) hl0 ⟨.eq (by kernel_rfl), hO⟩ ?_
    clear hO
    rintro k0 s out1 T H ⟨hT, hO⟩ h1 ho0
    obtain ⟨i6, rfl⟩ : ∃ x, x = s := ⟨_, rfl⟩
    replace h1 : qD l0 sC i6 = some out1 := h1
    refine aY hT ?_
    clear hT
    unfold qD at h1
    refine aM ?_
    refine aT aF 4 [] [(78, (aK (decide (i6 < (lN sC)))))] ?_
    refine bE h1 (fun h1 => ?_) (fun h1 => ?_)
    · refine bF ?_
      refine bD [(0, (eL aE l0)), (5, (eL (eL aJ) sC)), (6, (eI i6))] ?_
      refine aM ?_
      refine bP 3 ?_
      refine aM ?_
      refine aS aF 8 ?_
      obtain ⟨c6, h1⟩ := bA h1
      refine mP 5 [0 ≤ i6 ∧ i6 < (lN sC)] ⟨c6, trivial⟩ ?_
      obtain ⟨x7, hx8, h1⟩ := aV h1
      refine bW (CT l0 (gD sC i6) _ hx8) hO ?_
      intro H hO
      refine aZ ?_
      refine bN [] [(88, (aK (decide ((1024 : Int) < (lN x7)))))] ?_
      refine bE h1 (fun h1 => ?_) (fun h1 => ?_)
      · refine bO aF 1 [(2, (aK false))] ?_
        refine bG ?_
        obtain rfl := oI h1
        obtain rfl : _ = rr0 := ho0
        replace h0 : some false = some r := h0
        obtain rfl := oI h0
        exact aI (bL (aP (aP (bL (aP (Q_r hO))))))
      refine bF ?_
      refine cR [(0, (eL aE l0)), (5, (eL (eL aJ) sC)), (6, (eI i6))] ?_
      refine aI (aX (aG (?_)))
      refine aS aF 3 ?_
      refine aZ ?_
      exact aI (aG (⟨rfl, _, (oI h1).symm, .eq (by kernel_rfl), hO⟩))
    refine cQ 2 ?_
    obtain rfl := oI h1
    obtain rfl : _ = rr0 := ho0
    replace h0 : AR  = some r := h0
    exact aI (aR (aR (bH (aG (⟨rfl, .eq (by kernel_rfl), hO, h0⟩)))))
  refine aT aF 1 [] [(3, (eI (0 : Int)))] ?_
  refine bP 0 ?_
  refine cP [(0, (eL aE l0)), (3, (eI (0 : Int)))] ?_
  refine cE (fun T H => ∃ i3 : Int, Has T [(0, (eL aE l0)), (3, (eI i3))] ∧ aL ⟨H0, [], []⟩ H [] ∧ zX l0 i3 = some r) ?_ ⟨(0 : Int), .eq (by kernel_rfl), hO, h0⟩
  clear hO h0
  rintro T H ⟨i3, hT, hO, h0⟩
  refine aY hT ?_
  clear hT
  unfold zX at h0
  obtain ⟨rr0, hl0, h0⟩ := aV h0
  refine bU (by kernel_rfl) (fun (s : Int) T H => Has T [(0, (eL aE l0)), (3, (eI s))] ∧ aL ⟨H0, [], []⟩ H []) hl0 ⟨.eq (by kernel_rfl), hO⟩ ?_
  clear hO
  rintro k0 s out1 T H ⟨hT, hO⟩ h1 ho0
  obtain ⟨i3, rfl⟩ : ∃ x, x = s := ⟨_, rfl⟩
  replace h1 : oM l0 i3 = some out1 := h1
  refine aY hT ?_
  clear hT
  unfold oM at h1
  refine aM ?_
  refine aT aF 4 [] [(13, (aK (decide (i3 < (lN l0)))))] ?_
  refine bE h1 (fun h1 => ?_) (fun h1 => ?_)
  · refine bF ?_
    refine bD [(0, (eL aE l0)), (3, (eI i3))] ?_
    refine cC (fun T H => Has T [(0, (eL aE l0)), (3, (eI i3))] ∧ aL ⟨H0, [], []⟩ H [] ∧ sR l0 i3 = some out1) ?_ ?_
    · clear hO h1
      rintro T H ⟨hT, hO, h1⟩
      refine aY hT ?_
      clear hT
      unfold sR at h1
      refine aS aF 3 ?_
      refine aZ ?_
      exact aI (aG (⟨rfl, _, (oI h1).symm, .eq (by kernel_rfl), hO⟩))
    refine bP 1 ?_
    refine aM ?_
    refine aM ?_
    obtain ⟨c12, h1⟩ := bA h1
    obtain ⟨x13, hx14, h1⟩ := aV h1
    obtain ⟨c15, h1⟩ := bA h1
    obtain ⟨c16, h1⟩ := bA h1
    obtain ⟨x17, hx18, h1⟩ := aV h1
    refine fG (fF [20, 28, 33]) aF 23 ?_
    refine xU (K := fun T H => Has (lift T) [(0, (eL aE l0)), (3, (eI i3)), (38, (aK ((!x13) || (!x17))))] ∧ aL ⟨H0, [], []⟩ H []) ?_ ?_
    · refine cU 5 [0 ≤ i3 ∧ i3 < (lN l0)] ⟨c12, trivial⟩ ?_
      refine BK 52 [(eL aJ ((gD l0 i3).Row))] (aK x13) (by kernel_rfl) (by kernel_rfl) (BT ((gD l0 i3).Row) _ hx14) hO ?_
      intro H hO
      refine sQ 8 ?_
      refine sF (t := 23) (e := !x13) (by kernel_rfl) (fun hg19 => ?_) (fun hg19 => ?_)
      · refine jU ?_
        exact ⟨⟨[(0, (eL aE l0)), (3, (eI i3)), (38, (aK true))], by kernel_rfl, rfl, ⟨aU.refl _, aU.refl _, aU.eq (by first | (simp only [aK, hg19, Bool.not_true, Bool.not_false, Bool.true_and, Bool.and_true, Bool.false_and, Bool.and_false, Bool.or_true, Bool.true_or, Bool.or_false, Bool.false_or, cond_true, cond_false]; done) | simp [aK, hg19]), trivial⟩⟩, hO⟩
      refine cU 19 [0 ≤ i3 ∧ i3 < (lN l0), 0 ≤ i3 ∧ i3 < (lN l0)] ⟨(c15 (CC hg19)), (c16 (CC hg19)), trivial⟩ ?_
      refine aDn (xs := [(aD (aA.mk ((gD l0 i3).At) ((gD l0 i3).Net)))]) (by kernel_rfl) (by kernel_rfl) ?_
      refine BK 53 [(dL [(aD (aA.mk ((gD l0 i3).At) ((gD l0 i3).Net)))])] (aK x17) (by kernel_rfl) (by kernel_rfl) (bR.sub (xS ([aA.mk ((gD l0 i3).At) ((gD l0 i3).Net)]) _ (jI hx18 (CC hg19))) ⟨JD (l := [aA.mk ((gD l0 i3).At) ((gD l0 i3).Net)]), trivial⟩) hO ?_
      intro H hO
      refine jU ?_
      exact ⟨⟨[(0, (eL aE l0)), (3, (eI i3)), (38, (aK (!x17)))], by kernel_rfl, rfl, ⟨aU.refl _, aU.refl _, aU.eq (by first | (simp only [aK, hg19, Bool.not_true, Bool.not_false, Bool.true_and, Bool.and_true, Bool.false_and, Bool.and_false, Bool.or_true, Bool.true_or, Bool.or_false, Bool.false_or, cond_true, cond_false]; done) | simp [aK, hg19]), trivial⟩⟩, hO⟩
    · rintro T H ⟨hT, hO⟩
      refine cB hT ?_
      clear hT
      refine aI (aG ?_)
      refine bE h1 (fun h1 => ?_) (fun h1 => ?_)
      · refine bO aF 1 [(2, (aK false))] ?_
        refine bG ?_
        obtain rfl := oI h1
        obtain rfl : _ = rr0 := ho0
        replace h0 : some false = some r := h0
        obtain rfl := oI h0
        exact aI (aP (bL (aP (aP (bL (aP (Q_r hO)))))))
      refine bF ?_
      refine bD [(0, (eL aE l0)), (3, (eI i3))] ?_
      refine aM ?_
      refine aT aF 2 [] [(40, (aK (decide (i3 = (0 : Int)))))] ?_
      refine bE h1 (fun h1 => ?_) (fun h1 => ?_)
      · refine cQ 1 ?_
        exact aI (aR (bH (aG (⟨rfl, .eq (by kernel_rfl), hO, h1⟩))))
      refine bF ?_
      refine bD [(0, (eL aE l0)), (3, (eI i3))] ?_
      refine aM ?_
      refine fG (fF [46, 51]) aF 13 ?_
      obtain ⟨c22, h1⟩ := bA h1
      obtain ⟨c23, h1⟩ := bA h1
      refine cU 11 [0 ≤ (wR (i3 - (1 : Int))) ∧ (wR (i3 - (1 : Int))) < (lN l0), 0 ≤ i3 ∧ i3 < (lN l0)] ⟨c22, c23, trivial⟩ ?_
      obtain ⟨x24, hx25, h1⟩ := aV h1
      refine BC (EP ((gD l0 (wR (i3 - (1 : Int)))).Row) ((gD l0 i3).Row) _ hx25) hO ?_
      intro H hO
      refine jU ?_
      refine bN [] [(4, (eI x24))] ?_
      refine aM ?_
      obtain ⟨c27, h1⟩ := bA h1
      obtain ⟨c28, h1⟩ := bA h1
      refine fG (fF [64, 69]) aF 20 ?_
      refine xU (K := fun T H => Has (lift T) [(0, (eL aE l0)), (3, (eI i3)), (72, (aK ((decide ((0 : Int) < x24)) || ((decide (x24 = (0 : Int))) && (decide (((gD l0 i3).At) ≤ ((gD l0 (wR (i3 - (1 : Int)))).At)))))))] ∧ aL ⟨H0, [], []⟩ H []) ?_ ?_
      · refine sQ 3 ?_
        refine sF (t := 55) (e := decide ((0 : Int) < x24)) (by kernel_rfl) (fun hg29 => ?_) (fun hg29 => ?_)
        · refine jU ?_
          exact ⟨⟨[(0, (eL aE l0)), (3, (eI i3)), (72, (aK true))], by kernel_rfl, rfl, ⟨aU.refl _, aU.refl _, aU.eq (by first | (simp only [aK, hg29, Bool.not_true, Bool.not_false, Bool.true_and, Bool.and_true, Bool.false_and, Bool.and_false, Bool.or_true, Bool.true_or, Bool.or_false, Bool.false_or, cond_true, cond_false]; done) | simp [aK, hg29]), trivial⟩⟩, hO⟩
        refine sQ 6 ?_
        refine sF (t := 58) (e := decide (x24 = (0 : Int))) (by kernel_rfl) (fun hg30 => ?_) (fun hg30 => ?_)
        · refine BY (Ds := [0 ≤ (wR (i3 - (1 : Int))) ∧ (wR (i3 - (1 : Int))) < (lN l0), 0 ≤ i3 ∧ i3 < (lN l0)]) (by kernel_rfl) ⟨(c27 (rZ hg30 (CC hg29))), (c28 (rZ hg30 (CC hg29))), trivial⟩ ?_
          exact ⟨⟨[(0, (eL aE l0)), (3, (eI i3)), (72, (aK (decide (((gD l0 i3).At) ≤ ((gD l0 (wR (i3 - (1 : Int)))).At)))))], by kernel_rfl, rfl, ⟨aU.refl _, aU.refl _, aU.eq (congrArg aK (SP hg29 (rZ hg30 rfl)).symm), trivial⟩⟩, hO⟩
        refine jU ?_
        exact ⟨⟨[(0, (eL aE l0)), (3, (eI i3)), (72, (aK false))], by kernel_rfl, rfl, ⟨aU.refl _, aU.refl _, aU.eq (congrArg aK (SP hg29 (rZ hg30 rfl)).symm), trivial⟩⟩, hO⟩
      · rintro T H ⟨hT, hO⟩
        refine cB hT ?_
        clear hT
        refine aI (aG ?_)
        refine bE h1 (fun h1 => ?_) (fun h1 => ?_)
        · refine bO aF 1 [(2, (aK false))] ?_
          refine bG ?_
          obtain rfl := oI h1
          obtain rfl : _ = rr0 := ho0
          replace h0 : some false = some r := h0
          obtain rfl := oI h0
          exact aI (bL (aP (aP (bL (aP (Q_r hO))))))
        refine bF ?_
        exact aI (aX (aG (⟨rfl, .eq (by kernel_rfl), hO, h1⟩)))
  refine cQ 0 ?_
  obtain rfl := oI h1
  obtain rfl : _ = rr0 := ho0
  replace h0 : vR l0 = some r := h0
  exact aI (aR (aR (bH (aG (⟨rfl, .eq (by kernel_rfl), hO, h0⟩)))))

theorem vW (l0 : (List Int)) (t1 : Int) (r : (List Int)) (h0 : hU l0 t1 = some r) : bR Tryz.prog 59 [(eL (eI) l0), (eI t1)] (eL (eI) r) := by
  intro H0
  refine cA Tryz.func59 ?_
  have hO := aL.start H0
  unfold hU at h0
  refine aT aF 1 [] [] ?_
  refine aM ?_
  refine aS aF 2 ?_
  refine fE (xs := []) (k := 1) (by kernel_rfl) (by kernel_rfl) ?_
  refine aZ ?_
  refine bN [] [(5, (.sl true 0 (fun _ => .bad)))] ?_
  refine aT aF 1 [] [(6, (aK false))] ?_
  refine cC (fun T H => ∃ out5 : List Int, ∃ put6 : Bool, ∃ lo1 : Nat, Has T [(1, (eI t1)), (5, (.msl 1 lo1 0 (List.length out5))), (6, (aK put6))] ∧ aL ⟨H0, [], []⟩ H [(lo1, 1, List.map (eI) out5)] ∧ rF t1 out5 put6 = some r) ?_ ?_
  · clear hO h0
    rintro T H ⟨out5, put6, lo1, hT, hO, h0⟩
    refine aY hT ?_
    clear hT
    unfold rF at h0
    refine cC (fun T H => ∃ out5 : List Int, ∃ lo2 : Nat, Has T [(5, (.msl 1 lo2 0 (List.length out5)))] ∧ aL ⟨H0, [], []⟩ H [(lo2, 1, List.map (eI) out5)] ∧ rE out5 = some r) ?_ ?_
    · clear hO h0
      rintro T H ⟨out5, lo2, hT, hO, h0⟩
      refine aY hT ?_
      clear hT
      unfold rE at h0
      refine bO aF 2 [(4, (.msl 1 lo2 0 (List.length out5)))] ?_
      refine bG ?_
      refine cR [(4, (.msl 1 lo2 0 (List.length out5)))] ?_
      refine pR (en := (eI)) out5 0 0 4 1 lo2 (List.length out5) hO (by kernel_rfl) (by kernel_rfl) (by kernel_rfl) (L' := []) (by kernel_rfl) ?_
      intro H3 hO
      obtain rfl := oI h0
      exact aI (Q_r hO)
    refine aT aF 2 [6] [(44, (aK (!put6)))] ?_
    refine bE h0 (fun h0 => ?_) (fun h0 => ?_)
    · refine aS aF 5 ?_
      refine bK 2 ?_
      refine fE (xs := [(eI t1)]) (k := 1) (by kernel_rfl) (by kernel_rfl) ?_
      obtain ⟨c6, h0⟩ := bA h0
      refine nB (e := (eI)) out5 ([t1]) 0 lo1 1 8 (dL [(eI t1)]) (fun lo5 => [(lo5, 1, List.map (eI) (out5 ++ ([t1])))]) (by kernel_rfl) (by kernel_rfl) hO (by kernel_rfl) (by kernel_rfl) c6 (fun _ => by kernel_rfl) ?_
      intro lo5 H hO
      refine aZ ?_
      exact aI (aG (⟨rfl, _, _, .eq (by kernel_rfl), hO, h0⟩))
    refine bF ?_
    exact aI (aG (⟨rfl, _, _, .eq (by kernel_rfl), hO, h0⟩))
  refine aT aF 1 [] [(7, (eI (0 : Int)))] ?_
  refine bP 0 ?_
  refine cP [(0, (eL (eI) l0)), (1, (eI t1)), (5, (.sl true 0 (fun _ => .bad))), (6, (aK false)), (7, (eI (0 : Int)))] ?_
  refine rP (el := (fun _ => .bad)) 2 5 1 hO (by kernel_rfl) ?_
  intro lo20 H21 hO
  refine cE (fun T H => ∃ out5 : List Int, ∃ put6 : Bool, ∃ i7 : Int, ∃ lo8 : Nat, Has T [(0, (eL (eI) l0)), (1, (eI t1)), (5, (.msl 1 lo8 0 (List.length out5))), (6, (aK put6)), (7, (eI i7))] ∧ aL ⟨H0, [], []⟩ H [(lo8, 1, List.map (eI) out5)] ∧ yN l0 t1 out5 put6 i7 = some r) ?_ ⟨([] : List Int), false, (0 : Int), lo20, .eq (by kernel_rfl), hO, h0⟩
  clear hO h0
  rintro T H ⟨out5, put6, i7, lo8, hT, hO, h0⟩
  refine aY hT ?_
  clear hT
  unfold yN at h0
  obtain ⟨rr0, hl0, h0⟩ := aV h0
  refine bU (by kernel_rfl) (fun (s : List Int × Bool × Int) T H => ∃ lo8 : Nat, Has T [(0, (eL (eI) l0)), (1, (eI t1)), (5, (.msl 1 lo8 0 (List.length s.1))), (6, (aK s.2.1)), (7, (eI s.2.2))] ∧ aL ⟨H0, [], []⟩ H [(lo8, 1, List.map (eI) s.1)]) hl0 ⟨lo8, .eq (by kernel_rfl), hO⟩ ?_
  clear hO
  rintro k0 s out1 T H ⟨lo8, hT, hO⟩ h1 ho0
  obtain ⟨out5, put6, i7⟩ := s
  replace h1 : gZ l0 t1 out5 put6 i7 = some out1 := h1
  dsimp only at hT
  refine aY hT ?_
  clear hT
  unfold gZ at h1
  refine aM ?_
  refine aT aF 4 [] [(12, (aK (decide (i7 < (lN l0)))))] ?_
  refine bE h1 (fun h1 => ?_) (fun h1 => ?_)
  · refine bF ?_
    refine bD [(0, (eL (eI) l0)), (1, (eI t1)), (5, (.msl 1 lo8 0 (List.length out5))), (6, (aK put6)), (7, (eI i7))] ?_
    refine aM ?_
    refine bP 1 ?_
    refine aM ?_
    refine aM ?_
    refine aS aF 6 ?_
    obtain ⟨c10, h1⟩ := bA h1
    refine kB [0 ≤ i7 ∧ i7 < (lN l0)] ⟨c10, trivial⟩ ?_
    refine bN [] [(20, (aK (decide ((gD l0 i7) = t1))))] ?_
    refine bE h1 (fun h1 => ?_) (fun h1 => ?_)
    · refine aM ?_
      refine aS aF 2 ?_
      refine aZ ?_
      refine cR [(4, (eL (eI) l0))] ?_
      replace hO := hO.pick (L' := []) [] (by decide) (by kernel_rfl)
      refine aI (aG (?_))
      refine bG ?_
      obtain rfl := oI h1
      obtain rfl : _ = rr0 := ho0
      replace h0 : some l0 = some r := h0
      obtain rfl := oI h0
      exact aI (aP (bL (aP (aP (bL (aP (Q_r hO)))))))
    refine bF ?_
    refine bD [(0, (eL (eI) l0)), (1, (eI t1)), (5, (.msl 1 lo8 0 (List.length out5))), (6, (aK put6)), (7, (eI i7))] ?_
    refine cC (fun T H => ∃ out5 : List Int, ∃ put6 : Bool, ∃ lo12 : Nat, Has T [(0, (eL (eI) l0)), (1, (eI t1)), (5, (.msl 1 lo12 0 (List.length out5))), (6, (aK put6)), (7, (eI i7))] ∧ aL ⟨H0, [], []⟩ H [(lo12, 1, List.map (eI) out5)] ∧ uL l0 t1 out5 put6 i7 = some out1) ?_ ?_
    · clear hO h1
      rintro T H ⟨out5, put6, lo12, hT, hO, h1⟩
      refine aY hT ?_
      clear hT
      unfold uL at h1
      refine aS aF 8 ?_
      obtain ⟨c13, h1⟩ := bA h1
      refine mP 5 [0 ≤ i7 ∧ i7 < (lN l0)] ⟨c13, trivial⟩ ?_
      refine fE (xs := [(eI (gD l0 i7))]) (k := 1) (by kernel_rfl) (by kernel_rfl) ?_
      obtain ⟨c15, h1⟩ := bA h1
      refine nB (e := (eI)) out5 ([gD l0 i7]) 0 lo12 1 8 (dL [(eI (gD l0 i7))]) (fun lo14 => [(lo14, 1, List.map (eI) (out5 ++ ([gD l0 i7])))]) (by kernel_rfl) (by kernel_rfl) hO (by kernel_rfl) (by kernel_rfl) c15 (fun _ => by kernel_rfl) ?_
      intro lo14 H hO
      refine aZ ?_
      refine cR [(0, (eL (eI) l0)), (1, (eI t1)), (5, (.msl 1 lo14 0 (List.length (out5 ++ ([gD l0 i7]))))), (6, (aK put6)), (7, (eI i7))] ?_
      refine aI (aX (aG (?_)))
      refine aS aF 3 ?_
      refine aZ ?_
      exact aI (aG (⟨rfl, _, (oI h1).symm, _, .eq (by kernel_rfl), hO⟩))
    refine aM ?_
    refine aS aF 10 ?_
    obtain ⟨c16, h1⟩ := bA h1
    refine kB [0 ≤ i7 ∧ i7 < (lN l0)] ⟨c16, trivial⟩ ?_
    refine bN [] [(31, (aK ((decide (t1 < (gD l0 i7))) && (!put6))))] ?_
    refine bE h1 (fun h1 => ?_) (fun h1 => ?_)
    · refine aM ?_
      refine aS aF 5 ?_
      refine bK 2 ?_
      refine fE (xs := [(eI t1)]) (k := 1) (by kernel_rfl) (by kernel_rfl) ?_
      obtain ⟨c19, h1⟩ := bA h1
      refine nB (e := (eI)) out5 ([t1]) 0 lo8 1 8 (dL [(eI t1)]) (fun lo18 => [(lo18, 1, List.map (eI) (out5 ++ ([t1])))]) (by kernel_rfl) (by kernel_rfl) hO (by kernel_rfl) (by kernel_rfl) c19 (fun _ => by kernel_rfl) ?_
      intro lo18 H hO
      refine aZ ?_
      refine bN [5, 6, 31] [(5, (.msl 1 lo18 0 (List.length (out5 ++ ([t1])))))] ?_
      refine aS aF 1 ?_
      refine aZ ?_
      exact aI (aG (⟨rfl, _, _, _, .eq (by kernel_rfl), hO, h1⟩))
    refine bF ?_
    exact aI (aG (⟨rfl, _, _, _, .eq (by kernel_rfl), hO, h1⟩))
  refine cQ 0 ?_
  obtain rfl := oI h1
  obtain rfl : _ = rr0 := ho0
  replace h0 : rF t1 out5 put6 = some r := h0
  exact aI (aR (aR (bH (aG (⟨rfl, _, _, _, .eq (by kernel_rfl), hO, h0⟩)))))

theorem CP (f0 : (List aA)) (t1 : Int) (r : Int) (h0 : nQ f0 t1 = some r) : bR Tryz.prog 60 [(eL aD f0), (eI t1)] (eI r) := by
  intro H0
  refine cA Tryz.func60 ?_
  have hO := aL.start H0
  unfold nQ at h0
  refine aT aF 1 [] [] ?_
  refine aT aF 1 [] [(5, (eI (0 : Int)))] ?_
  refine cC (fun T H => ∃ v5 : Int, Has T [(5, (eI v5))] ∧ aL ⟨H0, [], []⟩ H [] ∧ sI v5 = some r) ?_ ?_
  · clear hO h0
    rintro T H ⟨v5, hT, hO, h0⟩
    refine aY hT ?_
    clear hT
    unfold sI at h0
    refine bO aF 2 [(4, (eI v5))] ?_
    refine bG ?_
    obtain rfl := oI h0
    exact aI (Q_r hO)
  refine aT aF 1 [] [(6, (eI (0 : Int)))] ?_
  refine bP 0 ?_
  refine cP [(0, (eL aD f0)), (1, (eI t1)), (5, (eI (0 : Int))), (6, (eI (0 : Int)))] ?_
  refine cE (fun T H => ∃ v5 : Int, ∃ i6 : Int, Has T [(0, (eL aD f0)), (1, (eI t1)), (5, (eI v5)), (6, (eI i6))] ∧ aL ⟨H0, [], []⟩ H [] ∧ wY f0 t1 v5 i6 = some r) ?_ ⟨(0 : Int), (0 : Int), .eq (by kernel_rfl), hO, h0⟩
  clear hO h0
  rintro T H ⟨v5, i6, hT, hO, h0⟩
  refine aY hT ?_
  clear hT
  unfold wY at h0
  obtain ⟨rr0, hl0, h0⟩ := aV h0
  refine bU (by kernel_rfl) (fun (s : Int × Int) T H => Has T [(0, (eL aD f0)), (1, (eI t1)), (5, (eI s.1)), (6, (eI s.2))] ∧ aL ⟨H0, [], []⟩ H []) hl0 ⟨.eq (by kernel_rfl), hO⟩ ?_
  clear hO
  rintro k0 s out1 T H ⟨hT, hO⟩ h1 ho0
  obtain ⟨v5, i6⟩ := s
  replace h1 : jO f0 t1 v5 i6 = some out1 := h1
  dsimp only at hT
  refine aY hT ?_
  clear hT
  unfold jO at h1
  refine aM ?_
  refine aT aF 4 [] [(10, (aK (decide (i6 < (lN f0)))))] ?_
  refine bE h1 (fun h1 => ?_) (fun h1 => ?_)
  · refine bF ?_
    refine bD [(0, (eL aD f0)), (1, (eI t1)), (5, (eI v5)), (6, (eI i6))] ?_
    refine cC (fun T H => ∃ v5 : Int, Has T [(0, (eL aD f0)), (1, (eI t1)), (5, (eI v5)), (6, (eI i6))] ∧ aL ⟨H0, [], []⟩ H [] ∧ qB f0 t1 v5 i6 = some out1) ?_ ?_
    · clear hO h1
      rintro T H ⟨v5, hT, hO, h1⟩
      refine aY hT ?_
      clear hT
      unfold qB at h1
      refine aS aF 3 ?_
      refine aZ ?_
      exact aI (aG (⟨rfl, _, (oI h1).symm, .eq (by kernel_rfl), hO⟩))
    refine bP 1 ?_
    refine aM ?_
    refine aS aF 7 ?_
    obtain ⟨c2, h1⟩ := bA h1
    refine kB [0 ≤ i6 ∧ i6 < (lN f0)] ⟨c2, trivial⟩ ?_
    refine bN [] [(19, (aK (decide (((gD f0 i6).At) ≤ t1))))] ?_
    refine bE h1 (fun h1 => ?_) (fun h1 => ?_)
    · refine aS aF 8 ?_
      obtain ⟨c4, h1⟩ := bA h1
      refine kB [0 ≤ i6 ∧ i6 < (lN f0)] ⟨c4, trivial⟩ ?_
      exact aI (aX (aG (⟨rfl, _, .eq (by kernel_rfl), hO, h1⟩)))
    refine bF ?_
    exact aI (aX (aG (⟨rfl, _, .eq (by kernel_rfl), hO, h1⟩)))
  refine cQ 0 ?_
  obtain rfl := oI h1
  obtain rfl : _ = rr0 := ho0
  replace h0 : sI v5 = some r := h0
  exact aI (aR (aR (bH (aG (⟨rfl, _, .eq (by kernel_rfl), hO, h0⟩)))))

theorem EH (dX : (List Int)) (cZ : (List Int)) (r : ((List aA) × Int)) (h0 : qI dX cZ = some r) : bR Tryz.prog 61 [(eL (eI) dX), (eL (eI) cZ)] (.tup [(eL aD r.1), (eI r.2)]) := by
  intro H0
  refine cA Tryz.func61 ?_
  have hO := aL.start H0
  unfold qI at h0
  refine aT aF 2 [] [] ?_
  refine aM ?_
  refine aS aF 2 ?_
  refine fE (xs := []) (k := 2) (by kernel_rfl) (by kernel_rfl) ?_
  refine aZ ?_
  refine bN [] [(6, (.sl true 0 (fun _ => .bad)))] ?_
  refine aT aF 1 [] [(7, (eI (0 : Int)))] ?_
  refine cC (fun T H => ∃ f6 : List aA, ∃ lo1 : Nat, Has T [(6, (.msl 2 lo1 0 (List.length f6)))] ∧ aL ⟨H0, [], []⟩ H [(lo1, 2, List.map aD f6)] ∧ tP f6 = some r) ?_ ?_
  · clear hO h0
    rintro T H ⟨f6, lo1, hT, hO, h0⟩
    refine aY hT ?_
    clear hT
    unfold tP at h0
    refine aM ?_
    refine aM ?_
    refine aS aF 3 ?_
    refine oR (e := aD) f6 0 6 2 lo1 (List.length f6) [] (by kernel_rfl) hO (by kernel_rfl) (by kernel_rfl) (by kernel_rfl) (by kernel_rfl) ?_
    intro H hO
    refine bK 1 ?_
    obtain ⟨x2, hx3, h0⟩ := aV h0
    refine bW (xS f6 _ hx3) hO ?_
    intro H hO
    refine aZ ?_
    refine bD [(6, (eL aD f6)), (42, (aK (!x2)))] ?_
    refine bE h0 (fun h0 => ?_) (fun h0 => ?_)
    · refine bO aF 2 [(4, (.sl true 0 (fun _ => .bad))), (5, (eI (7 : Int)))] ?_
      refine bG ?_
      refine cB (l := [(4, (eL aD ([]))), (5, (eI (7 : Int)))]) ⟨[(4, (.sl true 0 (fun _ => .bad))), (5, (eI (7 : Int)))], by kernel_rfl, rfl, ⟨cT, aU.refl _, trivial⟩⟩ ?_
      obtain rfl := oI h0
      exact aI (aP (Q_r hO))
    refine bF ?_
    refine bD [(6, (eL aD f6))] ?_
    refine bO aF 3 [(4, (eL aD f6)), (5, (eI (0 : Int)))] ?_
    refine bG ?_
    obtain rfl := oI h0
    exact aI (Q_r hO)
  refine aT aF 1 [] [(8, (eI (0 : Int)))] ?_
  refine bP 0 ?_
  refine cP [(0, (eL (eI) dX)), (1, (eL (eI) cZ)), (6, (.sl true 0 (fun _ => .bad))), (7, (eI (0 : Int))), (8, (eI (0 : Int)))] ?_
  refine rP (el := (fun _ => .bad)) 2 6 2 hO (by kernel_rfl) ?_
  intro lo17 H18 hO
  refine cE (fun T H => ∃ f6 : List aA, ∃ was7 : Int, ∃ i8 : Int, ∃ lo7 : Nat, Has T [(0, (eL (eI) dX)), (1, (eL (eI) cZ)), (6, (.msl 2 lo7 0 (List.length f6))), (7, (eI was7)), (8, (eI i8))] ∧ aL ⟨H0, [], []⟩ H [(lo7, 2, List.map aD f6)] ∧ yV dX cZ f6 was7 i8 = some r) ?_ ⟨([] : List aA), (0 : Int), (0 : Int), lo17, .eq (by kernel_rfl), hO, h0⟩
  clear hO h0
  rintro T H ⟨f6, was7, i8, lo7, hT, hO, h0⟩
  refine aY hT ?_
  clear hT
  unfold yV at h0
  obtain ⟨rr0, hl0, h0⟩ := aV h0
  refine bU (by kernel_rfl) (fun (s : List aA × Int × Int) T H => ∃ lo7 : Nat, Has T [(0, (eL (eI) dX)), (1, (eL (eI) cZ)), (6, (.msl 2 lo7 0 (List.length s.1))), (7, (eI s.2.1)), (8, (eI s.2.2))] ∧ aL ⟨H0, [], []⟩ H [(lo7, 2, List.map aD s.1)]) hl0 ⟨lo7, .eq (by kernel_rfl), hO⟩ ?_
  clear hO
  rintro k0 s out1 T H ⟨lo7, hT, hO⟩ h1 ho0
  obtain ⟨f6, was7, i8⟩ := s
  replace h1 : nL dX cZ f6 was7 i8 = some out1 := h1
  dsimp only at hT
  refine aY hT ?_
  clear hT
  unfold nL at h1
  refine aM ?_
  refine aT aF 4 [] [(13, (aK (decide (i8 < (lN dX)))))] ?_
  refine bE h1 (fun h1 => ?_) (fun h1 => ?_)
  · refine bF ?_
    refine bD [(0, (eL (eI) dX)), (1, (eL (eI) cZ)), (6, (.msl 2 lo7 0 (List.length f6))), (7, (eI was7)), (8, (eI i8))] ?_
    refine aM ?_
    refine bP 1 ?_
    refine cC (fun T H => ∃ f6 : List aA, ∃ lo9 : Nat, Has T [(0, (eL (eI) dX)), (1, (eL (eI) cZ)), (6, (.msl 2 lo9 0 (List.length f6))), (8, (eI i8))] ∧ aL ⟨H0, [], []⟩ H [(lo9, 2, List.map aD f6)] ∧ uD dX cZ f6 i8 = some out1) ?_ ?_
    · clear hO h1
      rintro T H ⟨f6, lo9, hT, hO, h1⟩
      refine aY hT ?_
      clear hT
      unfold uD at h1
      refine aS aF 5 ?_
      obtain ⟨c10, h1⟩ := bA h1
      refine kB [0 ≤ i8 ∧ i8 < (lN cZ)] ⟨c10, trivial⟩ ?_
      refine cR [(0, (eL (eI) dX)), (1, (eL (eI) cZ)), (6, (.msl 2 lo9 0 (List.length f6))), (7, (eI (gD cZ i8))), (8, (eI i8))] ?_
      refine aI (aX (aG (?_)))
      refine aS aF 3 ?_
      refine aZ ?_
      exact aI (aG (⟨rfl, _, (oI h1).symm, _, .eq (by kernel_rfl), hO⟩))
    refine aM ?_
    refine aS aF 6 ?_
    obtain ⟨c11, h1⟩ := bA h1
    refine kB [0 ≤ i8 ∧ i8 < (lN cZ)] ⟨c11, trivial⟩ ?_
    refine bN [] [(21, (aK (!decide ((gD cZ i8) = was7))))] ?_
    refine bE h1 (fun h1 => ?_) (fun h1 => ?_)
    · refine fG (fF [26, 30]) aF 15 ?_
      obtain ⟨c13, h1⟩ := bA h1
      obtain ⟨c14, h1⟩ := bA h1
      refine cU 12 [0 ≤ i8 ∧ i8 < (lN dX), 0 ≤ i8 ∧ i8 < (lN cZ)] ⟨c13, c14, trivial⟩ ?_
      refine ET (xs := [(aD (aA.mk (gD dX i8) (wR ((gD cZ i8) - was7))))]) (k := 2) (by kernel_rfl) (by kernel_rfl) ?_
      obtain ⟨c16, h1⟩ := bA h1
      refine DN (e := aD) f6 ([aA.mk (gD dX i8) (wR ((gD cZ i8) - was7))]) 0 lo7 2 16 (dL [(aD (aA.mk (gD dX i8) (wR ((gD cZ i8) - was7))))]) (fun lo15 => [(lo15, 2, List.map aD (f6 ++ ([aA.mk (gD dX i8) (wR ((gD cZ i8) - was7))])))]) (by kernel_rfl) (by kernel_rfl) hO (by kernel_rfl) (by kernel_rfl) c16 (fun _ => by kernel_rfl) ?_
      intro lo15 H hO
      refine jU ?_
      exact aI (aG (⟨rfl, _, _, .eq (by kernel_rfl), hO, h1⟩))
    refine bF ?_
    exact aI (aG (⟨rfl, _, _, .eq (by kernel_rfl), hO, h1⟩))
  refine cQ 0 ?_
  obtain rfl := oI h1
  obtain rfl : _ = rr0 := ho0
  replace h0 : tP f6 = some r := h0
  exact aI (aR (aR (bH (aG (⟨rfl, _, _, .eq (by kernel_rfl), hO, h0⟩)))))

theorem UX (l0 : (List aA)) (r : ((List aA) × Int)) (h0 : vP l0 = some r) : bR Tryz.prog 55 [(eL aD l0)] (.tup [(eL aD r.1), (eI r.2)]) := by
  intro H0
  refine cA Tryz.func55 ?_
  have hO := aL.start H0
  unfold vP at h0
  refine aT aF 2 [] [] ?_
  refine cC (fun T H => Has T [(0, (eL aD l0))] ∧ aL ⟨H0, [], []⟩ H [] ∧ uB l0 = some r) ?_ ?_
  · clear hO h0
    rintro T H ⟨hT, hO, h0⟩
    refine aY hT ?_
    clear hT
    unfold uB at h0
    refine aM ?_
    refine aS aF 2 ?_
    refine fE (xs := []) (k := 1) (by kernel_rfl) (by kernel_rfl) ?_
    refine aZ ?_
    refine bN [] [(5, (.sl true 0 (fun _ => .bad)))] ?_
    refine cC (fun T H => ∃ cF : (List Int), Has T [(0, (eL aD l0)), (5, (eL (eI) cF))] ∧ aL ⟨H0, [], []⟩ H [] ∧ uH l0 cF = some r) ?_ ?_
    · clear hO h0
      rintro T H ⟨cF, hT, hO, h0⟩
      refine aY hT ?_
      clear hT
      unfold uH at h0
      refine aM ?_
      refine aS aF 2 ?_
      refine fE (xs := []) (k := 1) (by kernel_rfl) (by kernel_rfl) ?_
      refine aZ ?_
      refine bN [] [(7, (.sl true 0 (fun _ => .bad)))] ?_
      refine cC (fun T H => ∃ bI : List Int, ∃ lo1 : Nat, Has T [(5, (eL (eI) cF)), (7, (.msl 1 lo1 0 (List.length bI)))] ∧ aL ⟨H0, [], []⟩ H [(lo1, 1, List.map (eI) bI)] ∧ uI cF bI = some r) ?_ ?_
      · clear hO h0
        rintro T H ⟨bI, lo1, hT, hO, h0⟩
        refine aY hT ?_
        clear hT
        unfold uI at h0
        refine aM ?_
        refine aS aF 7 ?_
        refine oR (e := (eI)) bI 0 7 1 lo1 (List.length bI) [] (by kernel_rfl) hO (by kernel_rfl) (by kernel_rfl) (by kernel_rfl) (by kernel_rfl) ?_
        intro H hO
        refine bK 2 ?_
        obtain ⟨x2, hx3, h0⟩ := aV h0
        refine bW (EH cF bI _ hx3) hO ?_
        intro H hO
        refine aZ ?_
        refine bD [(2, (eL aD x2.1)), (3, (eI x2.2))] ?_
        refine bG ?_
        obtain rfl := oI h0
        exact aI (Q_r hO)
      refine aT aF 1 [] [(8, (eI (0 : Int)))] ?_
      refine bP 4 ?_
      refine cP [(0, (eL aD l0)), (5, (eL (eI) cF)), (7, (.sl true 0 (fun _ => .bad))), (8, (eI (0 : Int)))] ?_
      refine rP (el := (fun _ => .bad)) 2 7 1 hO (by kernel_rfl) ?_
      intro lo14 H15 hO
      refine cE (fun T H => ∃ bI : List Int, ∃ i8 : Int, ∃ lo6 : Nat, Has T [(0, (eL aD l0)), (5, (eL (eI) cF)), (7, (.msl 1 lo6 0 (List.length bI))), (8, (eI i8))] ∧ aL ⟨H0, [], []⟩ H [(lo6, 1, List.map (eI) bI)] ∧ yM l0 cF bI i8 = some r) ?_ ⟨([] : List Int), (0 : Int), lo14, .eq (by kernel_rfl), hO, h0⟩
      clear hO h0
      rintro T H ⟨bI, i8, lo6, hT, hO, h0⟩
      refine aY hT ?_
      clear hT
      unfold yM at h0
      obtain ⟨rr0, hl0, h0⟩ := aV h0
      refine bU (by kernel_rfl) (fun (s : List Int × Int) T H => ∃ lo6 : Nat, Has T [(0, (eL aD l0)), (5, (eL (eI) cF)), (7, (.msl 1 lo6 0 (List.length s.1))), (8, (eI s.2))] ∧ aL ⟨H0, [], []⟩ H [(lo6, 1, List.map (eI) s.1)]) hl0 ⟨lo6, .eq (by kernel_rfl), hO⟩ ?_
      clear hO
      rintro k0 s out1 T H ⟨lo6, hT, hO⟩ h1 ho0
      obtain ⟨bI, i8⟩ := s
      replace h1 : nG l0 cF bI i8 = some out1 := h1
      dsimp only at hT
      refine aY hT ?_
      clear hT
      unfold nG at h1
      refine aM ?_
      refine aT aF 4 [] [(67, (aK (decide (i8 < (lN cF)))))] ?_
      refine bE h1 (fun h1 => ?_) (fun h1 => ?_)
      · refine bF ?_
        refine bD [(0, (eL aD l0)), (5, (eL (eI) cF)), (7, (.msl 1 lo6 0 (List.length bI))), (8, (eI i8))] ?_
        refine aM ?_
        refine bP 5 ?_
        refine aS aF 10 ?_
        obtain ⟨c8, h1⟩ := bA h1
        refine mP 6 [0 ≤ i8 ∧ i8 < (lN cF)] ⟨c8, trivial⟩ ?_
        obtain ⟨x9, hx10, h1⟩ := aV h1
        refine bW (CP l0 (gD cF i8) _ hx10) hO ?_
        intro H hO
        refine fE (xs := [(eI x9)]) (k := 1) (by kernel_rfl) (by kernel_rfl) ?_
        obtain ⟨c13, h1⟩ := bA h1
        refine nB (e := (eI)) bI ([x9]) 0 lo6 1 8 (dL [(eI x9)]) (fun lo12 => [(lo12, 1, List.map (eI) (bI ++ ([x9])))]) (by kernel_rfl) (by kernel_rfl) hO (by kernel_rfl) (by kernel_rfl) c13 (fun _ => by kernel_rfl) ?_
        intro lo12 H hO
        refine aZ ?_
        refine cR [(0, (eL aD l0)), (5, (eL (eI) cF)), (7, (.msl 1 lo12 0 (List.length (bI ++ ([x9]))))), (8, (eI i8))] ?_
        refine aI (aX (aG (?_)))
        refine aS aF 3 ?_
        refine aZ ?_
        exact aI (aG (⟨rfl, _, (oI h1).symm, _, .eq (by kernel_rfl), hO⟩))
      refine cQ 4 ?_
      obtain rfl := oI h1
      obtain rfl : _ = rr0 := ho0
      replace h0 : uI cF bI = some r := h0
      exact aI (aR (aR (bH (aG (⟨rfl, _, _, .eq (by kernel_rfl), hO, h0⟩)))))
    refine aT aF 1 [] [(6, (eI (0 : Int)))] ?_
    refine bP 2 ?_
    refine aY (l := [(0, (eL aD l0)), (5, (eL (eI) ([]))), (6, (eI (0 : Int)))]) ⟨[(0, (eL aD l0)), (5, (.sl true 0 (fun _ => .bad))), (6, (eI (0 : Int)))], by kernel_rfl, rfl, ⟨aU.refl _, cT, aU.refl _, trivial⟩⟩ ?_
    refine cE (fun T H => ∃ cF : (List Int), ∃ i6 : Int, Has T [(0, (eL aD l0)), (5, (eL (eI) cF)), (6, (eI i6))] ∧ aL ⟨H0, [], []⟩ H [] ∧ yI l0 cF i6 = some r) ?_ ⟨[], (0 : Int), .eq (by kernel_rfl), hO, h0⟩
    clear hO h0
    rintro T H ⟨cF, i6, hT, hO, h0⟩
    refine aY hT ?_
    clear hT
    unfold yI at h0
    obtain ⟨rr0, hl0, h0⟩ := aV h0
    refine bU (by kernel_rfl) (fun (s : (List Int) × Int) T H => Has T [(0, (eL aD l0)), (5, (eL (eI) s.1)), (6, (eI s.2))] ∧ aL ⟨H0, [], []⟩ H []) hl0 ⟨.eq (by kernel_rfl), hO⟩ ?_
    clear hO
    rintro k0 s out1 T H ⟨hT, hO⟩ h1 ho0
    obtain ⟨cF, i6⟩ := s
    replace h1 : jG l0 cF i6 = some out1 := h1
    dsimp only at hT
    refine aY hT ?_
    clear hT
    unfold jG at h1
    refine aM ?_
    refine aT aF 4 [] [(33, (aK (decide (i6 < (lN l0)))))] ?_
    refine bE h1 (fun h1 => ?_) (fun h1 => ?_)
    · refine bF ?_
      refine bD [(0, (eL aD l0)), (5, (eL (eI) cF)), (6, (eI i6))] ?_
      refine cC (fun T H => ∃ cF : (List Int), Has T [(0, (eL aD l0)), (5, (eL (eI) cF)), (6, (eI i6))] ∧ aL ⟨H0, [], []⟩ H [] ∧ tX l0 cF i6 = some out1) ?_ ?_
      · clear hO h1
        rintro T H ⟨cF, hT, hO, h1⟩
        refine aY hT ?_
        clear hT
        unfold tX at h1
        refine aS aF 3 ?_
        refine aZ ?_
        exact aI (aG (⟨rfl, _, (oI h1).symm, .eq (by kernel_rfl), hO⟩))
      refine bP 3 ?_
      refine aM ?_
      refine aM ?_
      refine aS aF 14 ?_
      obtain ⟨c18, h1⟩ := bA h1
      obtain ⟨c19, h1⟩ := bA h1
      refine kB [0 ≤ i6 ∧ i6 < (lN l0), (((!(decide (((gD l0 i6).At) < (-1 : Int))))) = true → 0 ≤ i6 ∧ i6 < (lN l0))] ⟨c18, c19, trivial⟩ ?_
      refine bN [] [(49, (aK ((decide (((gD l0 i6).At) < (-1 : Int))) || (decide ((1125899906842624 : Int) < ((gD l0 i6).At))))))] ?_
      refine bE h1 (fun h1 => ?_) (fun h1 => ?_)
      · refine bO aF 2 [(2, (.sl true 0 (fun _ => .bad))), (3, (eI (13 : Int)))] ?_
        refine bG ?_
        refine cB (l := [(2, (eL aD ([]))), (3, (eI (13 : Int)))]) ⟨[(2, (.sl true 0 (fun _ => .bad))), (3, (eI (13 : Int)))], by kernel_rfl, rfl, ⟨cT, aU.refl _, trivial⟩⟩ ?_
        obtain rfl := oI h1
        obtain rfl : _ = rr0 := ho0
        replace h0 : some ([], (13 : Int)) = some r := h0
        obtain rfl := oI h0
        exact aI (aP (bL (aP (aP (bL (aP (Q_r hO)))))))
      refine bF ?_
      refine bD [(0, (eL aD l0)), (5, (eL (eI) cF)), (6, (eI i6))] ?_
      refine aM ?_
      refine aS aF 6 ?_
      obtain ⟨c21, h1⟩ := bA h1
      refine kB [0 ≤ i6 ∧ i6 < (lN l0)] ⟨c21, trivial⟩ ?_
      refine bN [] [(55, (aK (decide (((gD l0 i6).At) < (1125899906842624 : Int)))))] ?_
      refine bE h1 (fun h1 => ?_) (fun h1 => ?_)
      · refine aS aF 8 ?_
        obtain ⟨c23, h1⟩ := bA h1
        refine mP 6 [0 ≤ i6 ∧ i6 < (lN l0)] ⟨c23, trivial⟩ ?_
        obtain ⟨x24, hx25, h1⟩ := aV h1
        refine bW (vW cF ((gD l0 i6).At) _ hx25) hO ?_
        intro H hO
        refine aZ ?_
        exact aI (aX (aG (⟨rfl, _, .eq (by kernel_rfl), hO, h1⟩)))
      refine bF ?_
      exact aI (aX (aG (⟨rfl, _, .eq (by kernel_rfl), hO, h1⟩)))
    refine cQ 2 ?_
    obtain rfl := oI h1
    obtain rfl : _ = rr0 := ho0
    replace h0 : uH l0 cF = some r := h0
    exact aI (aR (aR (bH (aG (⟨rfl, _, .eq (by kernel_rfl), hO, h0⟩)))))
  refine aT aF 1 [] [(4, (eI (0 : Int)))] ?_
  refine bP 0 ?_
  refine cP [(0, (eL aD l0)), (4, (eI (0 : Int)))] ?_
  refine cE (fun T H => ∃ i4 : Int, Has T [(0, (eL aD l0)), (4, (eI i4))] ∧ aL ⟨H0, [], []⟩ H [] ∧ yR l0 i4 = some r) ?_ ⟨(0 : Int), .eq (by kernel_rfl), hO, h0⟩
  clear hO h0
  rintro T H ⟨i4, hT, hO, h0⟩
  refine aY hT ?_
  clear hT
  unfold yR at h0
  obtain ⟨rr0, hl0, h0⟩ := aV h0
  refine bU (by kernel_rfl) (fun (s : Int) T H => Has T [(0, (eL aD l0)), (4, (eI s))] ∧ aL ⟨H0, [], []⟩ H []) hl0 ⟨.eq (by kernel_rfl), hO⟩ ?_
  clear hO
  rintro k0 s out1 T H ⟨hT, hO⟩ h1 ho0
  obtain ⟨i4, rfl⟩ : ∃ x, x = s := ⟨_, rfl⟩
  replace h1 : pH l0 i4 = some out1 := h1
  refine aY hT ?_
  clear hT
  unfold pH at h1
  refine aM ?_
  refine aT aF 4 [] [(12, (aK (decide (i4 < (lN l0)))))] ?_
  refine bE h1 (fun h1 => ?_) (fun h1 => ?_)
  · refine bF ?_
    refine bD [(0, (eL aD l0)), (4, (eI i4))] ?_
    refine aM ?_
    refine bP 1 ?_
    refine aM ?_
    refine aS aF 14 ?_
    obtain ⟨c28, h1⟩ := bA h1
    obtain ⟨c29, h1⟩ := bA h1
    refine kB [0 ≤ i4 ∧ i4 < (lN l0), (((!(decide ((1048576 : Int) < ((gD l0 i4).Net))))) = true → 0 ≤ i4 ∧ i4 < (lN l0))] ⟨c28, c29, trivial⟩ ?_
    refine bN [] [(28, (aK ((decide ((1048576 : Int) < ((gD l0 i4).Net))) || (decide (((gD l0 i4).Net) < (-1048576 : Int))))))] ?_
    refine bE h1 (fun h1 => ?_) (fun h1 => ?_)
    · refine bO aF 2 [(2, (.sl true 0 (fun _ => .bad))), (3, (eI (2 : Int)))] ?_
      refine bG ?_
      refine cB (l := [(2, (eL aD ([]))), (3, (eI (2 : Int)))]) ⟨[(2, (.sl true 0 (fun _ => .bad))), (3, (eI (2 : Int)))], by kernel_rfl, rfl, ⟨cT, aU.refl _, trivial⟩⟩ ?_
      obtain rfl := oI h1
      obtain rfl : _ = rr0 := ho0
      replace h0 : some ([], (2 : Int)) = some r := h0
      obtain rfl := oI h0
      exact aI (bL (aP (aP (bL (aP (Q_r hO))))))
    refine bF ?_
    refine cR [(0, (eL aD l0)), (4, (eI i4))] ?_
    refine aI (aX (aG (?_)))
    refine aS aF 3 ?_
    refine aZ ?_
    exact aI (aG (⟨rfl, _, (oI h1).symm, .eq (by kernel_rfl), hO⟩))
  refine cQ 0 ?_
  obtain rfl := oI h1
  obtain rfl : _ = rr0 := ho0
  replace h0 : uB l0 = some r := h0
  exact aI (aR (aR (bH (aG (⟨rfl, .eq (by kernel_rfl), hO, h0⟩)))))

theorem KZ (lo0p : Nat) (l0 : (List aC)) (r1 : (List aH)) (f2 : (List aA)) (r : (List aC)) (h0 : uO l0 r1 f2 = some r) : FF Tryz.prog 28 lo0p 3 (List.map aE l0) [(.msl 3 lo0p 0 (List.length l0)), (eL aJ r1), (eL aD f2)] (fun lo => .msl 3 lo 0 (List.length r)) (List.map aE r) := by
  intro H0 hl0
  refine cA Tryz.func28 ?_
  have hO := aL.qF hl0
  clear hl0
  unfold uO at h0
  refine aT aF 1 [] [] ?_
  refine cC (fun T H => ∃ l0 : List aC, ∃ lo1 : Nat, Has T [(0, (.msl 3 lo1 0 (List.length l0)))] ∧ aL ⟨H0, [lo0p], []⟩ H [(lo1, 3, List.map aE l0)] ∧ AJ l0 = some r) ?_ ?_
  · clear hO h0
    rintro T H ⟨l0, lo1, hT, hO, h0⟩
    refine aY hT ?_
    clear hT
    unfold AJ at h0
    refine bO aF 2 [(6, (.msl 3 lo1 0 (List.length l0)))] ?_
    refine bG ?_
    obtain rfl := oI h0
    exact aI (qQ (x := (.msl 3 lo1 0 (List.length l0))) (by kernel_rfl) (aU.refl _) ⟨lo1, rfl, hO⟩)
  refine aT aF 1 [] [(7, (eI (0 : Int)))] ?_
  refine bP 0 ?_
  refine cP [(0, (.msl 3 lo0p 0 (List.length l0))), (1, (eL aJ r1)), (2, (eL aD f2)), (7, (eI (0 : Int)))] ?_
  refine cE (fun T H => ∃ l0 : List aC, ∃ i7 : Int, ∃ lo3 : Nat, Has T [(0, (.msl 3 lo3 0 (List.length l0))), (1, (eL aJ r1)), (2, (eL aD f2)), (7, (eI i7))] ∧ aL ⟨H0, [lo0p], []⟩ H [(lo3, 3, List.map aE l0)] ∧ AV l0 r1 f2 i7 = some r) ?_ ⟨l0, (0 : Int), lo0p, .eq (by kernel_rfl), hO, h0⟩
  clear hO h0
  rintro T H ⟨l0, i7, lo3, hT, hO, h0⟩
  refine aY hT ?_
  clear hT
  unfold AV at h0
  obtain ⟨rr0, hl0, h0⟩ := aV h0
  refine bU (by kernel_rfl) (fun (s : List aC × Int) T H => ∃ lo3 : Nat, Has T [(0, (.msl 3 lo3 0 (List.length s.1))), (1, (eL aJ r1)), (2, (eL aD f2)), (7, (eI s.2))] ∧ aL ⟨H0, [lo0p], []⟩ H [(lo3, 3, List.map aE s.1)]) hl0 ⟨lo3, .eq (by kernel_rfl), hO⟩ ?_
  clear hO
  rintro k0 s out1 T H ⟨lo3, hT, hO⟩ h1 ho0
  obtain ⟨l0, i7⟩ := s
  replace h1 : oP r1 f2 l0 i7 = some out1 := h1
  dsimp only at hT
  refine aY hT ?_
  clear hT
  unfold oP at h1
  refine aM ?_
  refine aT aF 4 [] [(11, (aK (decide (i7 < (lN f2)))))] ?_
  refine bE h1 (fun h1 => ?_) (fun h1 => ?_)
  · refine bF ?_
    refine bD [(0, (.msl 3 lo3 0 (List.length l0))), (1, (eL aJ r1)), (2, (eL aD f2)), (7, (eI i7))] ?_
    refine aM ?_
    refine bP 1 ?_
    refine fG (fF [22, 27]) aF 18 ?_
    refine sQ 1 ?_
    refine ET (xs := []) (k := 3) (by kernel_rfl) (by kernel_rfl) ?_
    refine sQ 3 ?_
    obtain ⟨c10, h1⟩ := bA h1
    refine aC2 (e := aJ) r1 (fun _ => .bad) 3 32 (eL aJ r1) (by kernel_rfl) (by kernel_rfl) hO (BI (fun _ => by kernel_rfl)) c10 ?_
    intro H hO
    obtain ⟨c11, h1⟩ := bA h1
    obtain ⟨c12, h1⟩ := bA h1
    refine cU 15 [0 ≤ i7 ∧ i7 < (lN f2), 0 ≤ i7 ∧ i7 < (lN f2)] ⟨c11, c12, trivial⟩ ?_
    refine ET (xs := [(aE (aC.mk r1 ((gD f2 i7).At) ((gD f2 i7).Net)))]) (k := 3) (by kernel_rfl) (by kernel_rfl) ?_
    obtain ⟨c14, h1⟩ := bA h1
    refine DN (e := aE) l0 ([aC.mk r1 ((gD f2 i7).At) ((gD f2 i7).Net)]) 0 lo3 3 40 (dL [(aE (aC.mk r1 ((gD f2 i7).At) ((gD f2 i7).Net)))]) (fun lo13 => [(lo13, 3, List.map aE (l0 ++ ([aC.mk r1 ((gD f2 i7).At) ((gD f2 i7).Net)])))]) (by kernel_rfl) (by kernel_rfl) hO (by kernel_rfl) (by kernel_rfl) c14 (fun _ => by kernel_rfl) ?_
    intro lo13 H hO
    refine jU ?_
    refine cR [(0, (.msl 3 lo13 0 (List.length (l0 ++ ([aC.mk r1 ((gD f2 i7).At) ((gD f2 i7).Net)]))))), (1, (eL aJ r1)), (2, (eL aD f2)), (7, (eI i7))] ?_
    refine aI (aX (aG (?_)))
    refine aS aF 3 ?_
    refine aZ ?_
    exact aI (aG (⟨rfl, _, (oI h1).symm, _, .eq (by kernel_rfl), hO⟩))
  refine cQ 0 ?_
  obtain rfl := oI h1
  obtain rfl : _ = rr0 := ho0
  replace h0 : AJ l0 = some r := h0
  exact aI (aR (aR (bH (aG (⟨rfl, _, _, .eq (by kernel_rfl), hO, h0⟩)))))

theorem TP (l0 : (List aC)) (r : ((List aC) × Int)) (h0 : vM l0 = some r) : bR Tryz.prog 19 [(eL aE l0)] (.tup [(eL aE r.1), (eI r.2)]) := by
  intro H0
  refine cA Tryz.func19 ?_
  have hO := aL.start H0
  unfold vM at h0
  refine aT aF 2 [] [] ?_
  refine cC (fun T H => Has T [(0, (eL aE l0))] ∧ aL ⟨H0, [], []⟩ H [] ∧ uK l0 = some r) ?_ ?_
  · clear hO h0
    rintro T H ⟨hT, hO, h0⟩
    refine aY hT ?_
    clear hT
    unfold uK at h0
    refine cC (fun T H => Has T [(0, (eL aE l0))] ∧ aL ⟨H0, [], []⟩ H [] ∧ uF l0 = some r) ?_ ?_
    · clear hO h0
      rintro T H ⟨hT, hO, h0⟩
      refine aY hT ?_
      clear hT
      unfold uF at h0
      refine aM ?_
      refine aS aF 2 ?_
      refine fE (xs := []) (k := 3) (by kernel_rfl) (by kernel_rfl) ?_
      refine aZ ?_
      refine bN [] [(6, (.sl true 0 (fun _ => .bad)))] ?_
      refine aM ?_
      refine aS aF 3 ?_
      refine bK 1 ?_
      obtain ⟨x1, hx2, h0⟩ := aV h0
      refine bW (DS l0 _ hx2) hO ?_
      intro H hO
      refine aZ ?_
      refine bN [] [(7, (eL (eL aJ) x1))] ?_
      refine cC (fun T H => ∃ out6 : List aC, ∃ lo4 : Nat, Has T [(6, (.msl 3 lo4 0 (List.length out6)))] ∧ aL ⟨H0, [], []⟩ H [(lo4, 3, List.map aE out6)] ∧ rC out6 = some r) ?_ ?_
      · clear hO h0
        rintro T H ⟨out6, lo4, hT, hO, h0⟩
        refine aY hT ?_
        clear hT
        unfold rC at h0
        refine aM ?_
        refine aT aF 3 [] [(91, (aK (decide ((4096 : Int) < (lN out6)))))] ?_
        refine bE h0 (fun h0 => ?_) (fun h0 => ?_)
        · refine aM ?_
          refine aS aF 2 ?_
          refine aZ ?_
          refine cR [(2, (.sl true 0 (fun _ => .bad))), (3, (eI (7 : Int)))] ?_
          replace hO := hO.pick (L' := []) [] (by decide) (by kernel_rfl)
          refine aI (aG (?_))
          refine bG ?_
          refine cB (l := [(2, (eL aE ([]))), (3, (eI (7 : Int)))]) ⟨[(2, (.sl true 0 (fun _ => .bad))), (3, (eI (7 : Int)))], by kernel_rfl, rfl, ⟨cT, aU.refl _, trivial⟩⟩ ?_
          obtain rfl := oI h0
          exact aI (aP (Q_r hO))
        refine bF ?_
        refine bD [(6, (.msl 3 lo4 0 (List.length out6)))] ?_
        refine bO aF 3 [(2, (.msl 3 lo4 0 (List.length out6))), (3, (eI (0 : Int)))] ?_
        refine bG ?_
        refine cR [(2, (.msl 3 lo4 0 (List.length out6))), (3, (eI (0 : Int)))] ?_
        refine pR (en := aE) out6 0 0 2 3 lo4 (List.length out6) hO (by kernel_rfl) (by kernel_rfl) (by kernel_rfl) (L' := []) (by kernel_rfl) ?_
        intro H6 hO
        obtain rfl := oI h0
        exact aI (Q_r hO)
      refine aT aF 1 [] [(8, (eI (0 : Int)))] ?_
      refine bP 4 ?_
      refine cP [(0, (eL aE l0)), (6, (.sl true 0 (fun _ => .bad))), (7, (eL (eL aJ) x1)), (8, (eI (0 : Int)))] ?_
      refine rP (el := (fun _ => .bad)) 1 6 3 hO (by kernel_rfl) ?_
      intro lo22 H23 hO
      refine cE (fun T H => ∃ out6 : List aC, ∃ nV : (List (List aH)), ∃ i8 : Int, ∃ lo8 : Nat, Has T [(0, (eL aE l0)), (6, (.msl 3 lo8 0 (List.length out6))), (7, (eL (eL aJ) nV)), (8, (eI i8))] ∧ aL ⟨H0, [], []⟩ H [(lo8, 3, List.map aE out6)] ∧ yS l0 out6 nV i8 = some r) ?_ ⟨([] : List aC), x1, (0 : Int), lo22, .eq (by kernel_rfl), hO, h0⟩
      clear hO h0
      rintro T H ⟨out6, nV, i8, lo8, hT, hO, h0⟩
      refine aY hT ?_
      clear hT
      unfold yS at h0
      obtain ⟨rr0, hl0, h0⟩ := aV h0
      refine bU (by kernel_rfl) (fun (s : List aC × Int) T H => ∃ lo8 : Nat, Has T [(0, (eL aE l0)), (6, (.msl 3 lo8 0 (List.length s.1))), (7, (eL (eL aJ) nV)), (8, (eI s.2))] ∧ aL ⟨H0, [], []⟩ H [(lo8, 3, List.map aE s.1)]) hl0 ⟨lo8, .eq (by kernel_rfl), hO⟩ ?_
      clear hO
      rintro k0 s out1 T H ⟨lo8, hT, hO⟩ h1 ho0
      obtain ⟨out6, i8⟩ := s
      replace h1 : nH l0 nV out6 i8 = some out1 := h1
      dsimp only at hT
      refine aY hT ?_
      clear hT
      unfold nH at h1
      refine aM ?_
      refine aT aF 4 [] [(66, (aK (decide (i8 < (lN nV)))))] ?_
      refine bE h1 (fun h1 => ?_) (fun h1 => ?_)
      · refine bF ?_
        refine bD [(0, (eL aE l0)), (6, (.msl 3 lo8 0 (List.length out6))), (7, (eL (eL aJ) nV)), (8, (eI i8))] ?_
        refine aM ?_
        refine bP 5 ?_
        refine aM ?_
        refine aS aF 12 ?_
        obtain ⟨c10, h1⟩ := bA h1
        refine mP 5 [0 ≤ i8 ∧ i8 < (lN nV)] ⟨c10, trivial⟩ ?_
        obtain ⟨x11, hx12, h1⟩ := aV h1
        refine bW (CT l0 (gD nV i8) _ hx12) hO ?_
        intro H hO
        obtain ⟨x14, hx15, h1⟩ := aV h1
        refine bW (UX x11 _ hx15) hO ?_
        intro H hO
        refine aZ ?_
        refine bN [] [(9, (eL aD x14.1)), (10, (eI x14.2))] ?_
        refine aM ?_
        refine aT aF 2 [] [(80, (aK (!decide (x14.2 = (0 : Int)))))] ?_
        refine bE h1 (fun h1 => ?_) (fun h1 => ?_)
        · refine aM ?_
          refine aS aF 3 ?_
          refine aZ ?_
          refine cR [(2, (.sl true 0 (fun _ => .bad))), (3, (eI x14.2))] ?_
          replace hO := hO.pick (L' := []) [] (by decide) (by kernel_rfl)
          refine aI (aG (?_))
          refine bG ?_
          refine cB (l := [(2, (eL aE ([]))), (3, (eI x14.2))]) ⟨[(2, (.sl true 0 (fun _ => .bad))), (3, (eI x14.2))], by kernel_rfl, rfl, ⟨cT, aU.refl _, trivial⟩⟩ ?_
          obtain rfl := oI h1
          obtain rfl : _ = rr0 := ho0
          replace h0 : some ([], x14.2) = some r := h0
          obtain rfl := oI h0
          exact aI (aP (bL (aP (aP (bL (aP (Q_r hO)))))))
        refine bF ?_
        refine bD [(0, (eL aE l0)), (6, (.msl 3 lo8 0 (List.length out6))), (7, (eL (eL aJ) nV)), (8, (eI i8)), (9, (eL aD x14.1))] ?_
        refine aS aF 8 ?_
        obtain ⟨c18, h1⟩ := bA h1
        refine mP 6 [0 ≤ i8 ∧ i8 < (lN nV)] ⟨c18, trivial⟩ ?_
        obtain ⟨x19, hx20, h1⟩ := aV h1
        refine PK (L' := fun lo21 => [(lo21, 3, List.map aE x19)]) 0 lo8 3 (List.map aE out6) (List.map aE x19) 28 [(.msl 3 lo8 0 (List.length out6)), (eL aJ (gD nV i8)), (eL aD x14.1)] (fun lo21 => (.msl 3 lo21 0 (List.length x19))) (by kernel_rfl) (by kernel_rfl) (KZ lo8 out6 (gD nV i8) x14.1 _ hx20) hO (by kernel_rfl) (fun _ => by kernel_rfl) ?_
        intro lo21 H hO
        refine aZ ?_
        refine cR [(0, (eL aE l0)), (6, (.msl 3 lo21 0 (List.length x19))), (7, (eL (eL aJ) nV)), (8, (eI i8))] ?_
        refine aI (aX (aG (?_)))
        refine aS aF 3 ?_
        refine aZ ?_
        exact aI (aG (⟨rfl, _, (oI h1).symm, _, .eq (by kernel_rfl), hO⟩))
      refine cQ 4 ?_
      obtain rfl := oI h1
      obtain rfl : _ = rr0 := ho0
      replace h0 : rC out6 = some r := h0
      exact aI (aR (aR (bH (aG (⟨rfl, _, _, .eq (by kernel_rfl), hO, h0⟩)))))
    refine aT aF 1 [] [(5, (eI (0 : Int)))] ?_
    refine bP 2 ?_
    refine cP [(0, (eL aE l0)), (5, (eI (0 : Int)))] ?_
    refine cE (fun T H => ∃ i5 : Int, Has T [(0, (eL aE l0)), (5, (eI i5))] ∧ aL ⟨H0, [], []⟩ H [] ∧ yF l0 i5 = some r) ?_ ⟨(0 : Int), .eq (by kernel_rfl), hO, h0⟩
    clear hO h0
    rintro T H ⟨i5, hT, hO, h0⟩
    refine aY hT ?_
    clear hT
    unfold yF at h0
    obtain ⟨rr0, hl0, h0⟩ := aV h0
    refine bU (by kernel_rfl) (fun (s : Int) T H => Has T [(0, (eL aE l0)), (5, (eI s))] ∧ aL ⟨H0, [], []⟩ H []) hl0 ⟨.eq (by kernel_rfl), hO⟩ ?_
    clear hO
    rintro k0 s out1 T H ⟨hT, hO⟩ h1 ho0
    obtain ⟨i5, rfl⟩ : ∃ x, x = s := ⟨_, rfl⟩
    replace h1 : oY l0 i5 = some out1 := h1
    refine aY hT ?_
    clear hT
    unfold oY at h1
    refine aM ?_
    refine aT aF 4 [] [(43, (aK (decide (i5 < (lN l0)))))] ?_
    refine bE h1 (fun h1 => ?_) (fun h1 => ?_)
    · refine bF ?_
      refine bD [(0, (eL aE l0)), (5, (eI i5))] ?_
      refine aM ?_
      refine bP 3 ?_
      refine aM ?_
      refine aS aF 14 ?_
      obtain ⟨c25, h1⟩ := bA h1
      obtain ⟨c26, h1⟩ := bA h1
      refine kB [0 ≤ i5 ∧ i5 < (lN l0), (((!(decide (((gD l0 i5).At) < (-1 : Int))))) = true → 0 ≤ i5 ∧ i5 < (lN l0))] ⟨c25, c26, trivial⟩ ?_
      refine bN [] [(59, (aK ((decide (((gD l0 i5).At) < (-1 : Int))) || (decide ((1125899906842624 : Int) < ((gD l0 i5).At))))))] ?_
      refine bE h1 (fun h1 => ?_) (fun h1 => ?_)
      · refine bO aF 2 [(2, (.sl true 0 (fun _ => .bad))), (3, (eI (13 : Int)))] ?_
        refine bG ?_
        refine cB (l := [(2, (eL aE ([]))), (3, (eI (13 : Int)))]) ⟨[(2, (.sl true 0 (fun _ => .bad))), (3, (eI (13 : Int)))], by kernel_rfl, rfl, ⟨cT, aU.refl _, trivial⟩⟩ ?_
        obtain rfl := oI h1
        obtain rfl : _ = rr0 := ho0
        replace h0 : some ([], (13 : Int)) = some r := h0
        obtain rfl := oI h0
        exact aI (bL (aP (aP (bL (aP (Q_r hO))))))
      refine bF ?_
      refine cR [(0, (eL aE l0)), (5, (eI i5))] ?_
      refine aI (aX (aG (?_)))
      refine aS aF 3 ?_
      refine aZ ?_
      exact aI (aG (⟨rfl, _, (oI h1).symm, .eq (by kernel_rfl), hO⟩))
    refine cQ 2 ?_
    obtain rfl := oI h1
    obtain rfl : _ = rr0 := ho0
    replace h0 : uF l0 = some r := h0
    exact aI (aR (aR (bH (aG (⟨rfl, .eq (by kernel_rfl), hO, h0⟩)))))
  refine aT aF 1 [] [(4, (eI (0 : Int)))] ?_
  refine bP 0 ?_
  refine cP [(0, (eL aE l0)), (4, (eI (0 : Int)))] ?_
  refine cE (fun T H => ∃ i4 : Int, Has T [(0, (eL aE l0)), (4, (eI i4))] ∧ aL ⟨H0, [], []⟩ H [] ∧ yP l0 i4 = some r) ?_ ⟨(0 : Int), .eq (by kernel_rfl), hO, h0⟩
  clear hO h0
  rintro T H ⟨i4, hT, hO, h0⟩
  refine aY hT ?_
  clear hT
  unfold yP at h0
  obtain ⟨rr0, hl0, h0⟩ := aV h0
  refine bU (by kernel_rfl) (fun (s : Int) T H => Has T [(0, (eL aE l0)), (4, (eI s))] ∧ aL ⟨H0, [], []⟩ H []) hl0 ⟨.eq (by kernel_rfl), hO⟩ ?_
  clear hO
  rintro k0 s out1 T H ⟨hT, hO⟩ h1 ho0
  obtain ⟨i4, rfl⟩ : ∃ x, x = s := ⟨_, rfl⟩
  replace h1 : pI l0 i4 = some out1 := h1
  refine aY hT ?_
  clear hT
  unfold pI at h1
  refine aM ?_
  refine aT aF 4 [] [(14, (aK (decide (i4 < (lN l0)))))] ?_
  refine bE h1 (fun h1 => ?_) (fun h1 => ?_)
  · refine bF ?_
    refine bD [(0, (eL aE l0)), (4, (eI i4))] ?_
    refine aM ?_
    refine bP 1 ?_
    refine aM ?_
    refine aS aF 23 ?_
    obtain ⟨c29, h1⟩ := bA h1
    refine mP 5 [0 ≤ i4 ∧ i4 < (lN l0)] ⟨c29, trivial⟩ ?_
    obtain ⟨x30, hx31, h1⟩ := aV h1
    refine bW (BT ((gD l0 i4).Row) _ hx31) hO ?_
    intro H hO
    obtain ⟨c33, h1⟩ := bA h1
    obtain ⟨c34, h1⟩ := bA h1
    refine kB [(((!(!x30))) = true → 0 ≤ i4 ∧ i4 < (lN l0)), (((!((!x30) || (decide ((1048576 : Int) < ((gD l0 i4).Net)))))) = true → 0 ≤ i4 ∧ i4 < (lN l0))] ⟨c33, c34, trivial⟩ ?_
    refine bN [] [(39, (aK (((!x30) || (decide ((1048576 : Int) < ((gD l0 i4).Net)))) || (decide (((gD l0 i4).Net) < (-1048576 : Int))))))] ?_
    refine bE h1 (fun h1 => ?_) (fun h1 => ?_)
    · refine bO aF 2 [(2, (.sl true 0 (fun _ => .bad))), (3, (eI (2 : Int)))] ?_
      refine bG ?_
      refine cB (l := [(2, (eL aE ([]))), (3, (eI (2 : Int)))]) ⟨[(2, (.sl true 0 (fun _ => .bad))), (3, (eI (2 : Int)))], by kernel_rfl, rfl, ⟨cT, aU.refl _, trivial⟩⟩ ?_
      obtain rfl := oI h1
      obtain rfl : _ = rr0 := ho0
      replace h0 : some ([], (2 : Int)) = some r := h0
      obtain rfl := oI h0
      exact aI (bL (aP (aP (bL (aP (Q_r hO))))))
    refine bF ?_
    refine cR [(0, (eL aE l0)), (4, (eI i4))] ?_
    refine aI (aX (aG (?_)))
    refine aS aF 3 ?_
    refine aZ ?_
    exact aI (aG (⟨rfl, _, (oI h1).symm, .eq (by kernel_rfl), hO⟩))
  refine cQ 0 ?_
  obtain rfl := oI h1
  obtain rfl : _ = rr0 := ho0
  replace h0 : uK l0 = some r := h0
  exact aI (aR (aR (bH (aG (⟨rfl, .eq (by kernel_rfl), hO, h0⟩)))))

theorem XC (a0 : (List aC)) (b1 : (List aC)) (r : ((List aC) × Int)) (h0 : xZ a0 b1 = some r) : bR Tryz.prog 7 [(eL aE a0), (eL aE b1)] (.tup [(eL aE r.1), (eI r.2)]) := by
  intro H0
  refine cA Tryz.func7 ?_
  have hO := aL.start H0
  unfold xZ at h0
  refine aT aF 2 [] [] ?_
  refine aM ?_
  refine aM ?_
  refine aS aF 8 ?_
  refine bK 1 ?_
  obtain ⟨x1, hx2, h0⟩ := aV h0
  refine bW (FI a0 _ hx2) hO ?_
  intro H hO
  refine bK 5 ?_
  obtain ⟨x4, hx5, h0⟩ := aV h0
  refine jQ [(9, false)] 18 [(eL aE b1)] (aK x4) (!(!x1)) (by kernel_rfl) (by kernel_rfl) (by kernel_rfl) (fun hb6 => (FI b1 _ (jI hx5 hb6))) hO ?_
  intro H hO
  refine aZ ?_
  refine bN [] [(13, (aK ((!x1) || (!x4))))] ?_
  refine bE h0 (fun h0 => ?_) (fun h0 => ?_)
  · refine bO aF 2 [(4, (.sl true 0 (fun _ => .bad))), (5, (eI (2 : Int)))] ?_
    refine bG ?_
    refine cB (l := [(4, (eL aE ([]))), (5, (eI (2 : Int)))]) ⟨[(4, (.sl true 0 (fun _ => .bad))), (5, (eI (2 : Int)))], by kernel_rfl, rfl, ⟨cT, aU.refl _, trivial⟩⟩ ?_
    obtain rfl := oI h0
    exact aI (aP (Q_r hO))
  refine bF ?_
  refine bD [(0, (eL aE a0)), (1, (eL aE b1))] ?_
  refine aM ?_
  refine aS aF 10 ?_
  refine fE (xs := []) (k := 3) (by kernel_rfl) (by kernel_rfl) ?_
  refine bK 2 ?_
  obtain ⟨c13, h0⟩ := bA h0
  refine GQ (e := aE) a0 (fun _ => .bad) 3 40 (eL aE a0) (fun lo12 => [(lo12, 3, List.map aE a0)]) (by kernel_rfl) (by kernel_rfl) hO (BI (fun _ => by kernel_rfl)) c13 (fun _ => by kernel_rfl) ?_
  intro lo12 H hO
  refine bK 4 ?_
  obtain ⟨c15, h0⟩ := bA h0
  refine nB (e := aE) a0 b1 0 lo12 3 40 (eL aE b1) (fun lo14 => [(lo14, 3, List.map aE (a0 ++ b1))]) (by kernel_rfl) (by kernel_rfl) hO (by kernel_rfl) (BI (fun _ => by kernel_rfl)) c15 (fun _ => by kernel_rfl) ?_
  intro lo14 H hO
  refine oR (e := aE) (a0 ++ b1) 0 18 3 lo14 (List.length (a0 ++ b1)) [] (by kernel_rfl) hO (by kernel_rfl) (by kernel_rfl) (by kernel_rfl) (by kernel_rfl) ?_
  intro H hO
  obtain ⟨x16, hx17, h0⟩ := aV h0
  refine bW (TP (a0 ++ b1) _ hx17) hO ?_
  intro H hO
  refine aZ ?_
  refine bD [(4, (eL aE x16.1)), (5, (eI x16.2))] ?_
  refine bG ?_
  obtain rfl := oI h0
  exact aI (Q_r hO)

theorem AN (a0 : (List aC)) (b1 : (List aC)) (r : Bool) (h0 : oO a0 b1 = some r) : bR Tryz.prog 8 [(eL aE a0), (eL aE b1)] (aK r) := by
  intro H0
  refine cA Tryz.func8 ?_
  have hO := aL.start H0
  unfold oO at h0
  refine aT aF 1 [] [] ?_
  refine aM ?_
  refine aT aF 5 [] [(10, (aK (!decide ((lN a0) = (lN b1)))))] ?_
  refine bE h0 (fun h0 => ?_) (fun h0 => ?_)
  · refine bO aF 1 [(4, (aK false))] ?_
    refine bG ?_
    obtain rfl := oI h0
    exact aI (aP (Q_r hO))
  refine bF ?_
  refine bD [(0, (eL aE a0)), (1, (eL aE b1))] ?_
  refine cC (fun T H => Has T [] ∧ aL ⟨H0, [], []⟩ H [] ∧ uM  = some r) ?_ ?_
  · clear hO h0
    rintro T H ⟨hT, hO, h0⟩
    refine aY hT ?_
    clear hT
    unfold uM at h0
    refine bO aF 1 [(4, (aK true))] ?_
    refine bG ?_
    obtain rfl := oI h0
    exact aI (Q_r hO)
  refine aT aF 1 [] [(5, (eI (0 : Int)))] ?_
  refine bP 0 ?_
  refine cP [(0, (eL aE a0)), (1, (eL aE b1)), (5, (eI (0 : Int)))] ?_
  refine cE (fun T H => ∃ i5 : Int, Has T [(0, (eL aE a0)), (1, (eL aE b1)), (5, (eI i5))] ∧ aL ⟨H0, [], []⟩ H [] ∧ yL a0 b1 i5 = some r) ?_ ⟨(0 : Int), .eq (by kernel_rfl), hO, h0⟩
  clear hO h0
  rintro T H ⟨i5, hT, hO, h0⟩
  refine aY hT ?_
  clear hT
  unfold yL at h0
  obtain ⟨rr0, hl0, h0⟩ := aV h0
  refine bU (by kernel_rfl) (fun (s : Int) T H => Has T [(0, (eL aE a0)), (1, (eL aE b1)), (5, (eI s))] ∧ aL ⟨H0, [], []⟩ H []) hl0 ⟨.eq (by kernel_rfl), hO⟩ ?_
  clear hO
  rintro k0 s out1 T H ⟨hT, hO⟩ h1 ho0
  obtain ⟨i5, rfl⟩ : ∃ x, x = s := ⟨_, rfl⟩
  replace h1 : qZ a0 b1 i5 = some out1 := h1
  refine aY hT ?_
  clear hT
  unfold qZ at h1
  refine aM ?_
  refine aT aF 4 [] [(14, (aK (decide (i5 < (lN a0)))))] ?_
  refine bE h1 (fun h1 => ?_) (fun h1 => ?_)
  · refine bF ?_
    refine bD [(0, (eL aE a0)), (1, (eL aE b1)), (5, (eI i5))] ?_
    refine aM ?_
    refine bP 1 ?_
    refine aM ?_
    obtain ⟨c3, h1⟩ := bA h1
    obtain ⟨c4, h1⟩ := bA h1
    obtain ⟨c5, h1⟩ := bA h1
    obtain ⟨c6, h1⟩ := bA h1
    obtain ⟨c7, h1⟩ := bA h1
    obtain ⟨c8, h1⟩ := bA h1
    obtain ⟨x9, hx10, h1⟩ := aV h1
    refine fG (fF [21, 26, 33, 38, 46, 51]) aF 38 ?_
    refine xU (K := fun T H => Has (lift T) [(0, (eL aE a0)), (1, (eL aE b1)), (5, (eI i5)), (54, (aK (((!decide (((gD a0 i5).At) = ((gD b1 i5).At))) || (!decide (((gD a0 i5).Net) = ((gD b1 i5).Net)))) || (!x9))))] ∧ aL ⟨H0, [], []⟩ H []) ?_ ?_
    · refine cU 12 [0 ≤ i5 ∧ i5 < (lN a0), 0 ≤ i5 ∧ i5 < (lN b1)] ⟨c3, c4, trivial⟩ ?_
      refine sF (t := 28) (e := !decide (((gD a0 i5).At) = ((gD b1 i5).At))) (by kernel_rfl) (fun hg11 => ?_) (fun hg11 => ?_)
      · refine jU ?_
        exact ⟨⟨[(0, (eL aE a0)), (1, (eL aE b1)), (5, (eI i5)), (54, (aK true))], by kernel_rfl, rfl, ⟨aU.refl _, aU.refl _, aU.refl _, aU.eq (by first | (simp only [aK, hg11, Bool.not_true, Bool.not_false, Bool.true_and, Bool.and_true, Bool.false_and, Bool.and_false, Bool.or_true, Bool.true_or, Bool.or_false, Bool.false_or, cond_true, cond_false]; done) | simp [aK, hg11]), trivial⟩⟩, hO⟩
      refine cU 25 [0 ≤ i5 ∧ i5 < (lN a0), 0 ≤ i5 ∧ i5 < (lN b1)] ⟨(c5 (CC hg11)), (c6 (CC hg11)), trivial⟩ ?_
      refine sF (t := 41) (e := !decide (((gD a0 i5).Net) = ((gD b1 i5).Net))) (by kernel_rfl) (fun hg12 => ?_) (fun hg12 => ?_)
      · refine jU ?_
        exact ⟨⟨[(0, (eL aE a0)), (1, (eL aE b1)), (5, (eI i5)), (54, (aK true))], by kernel_rfl, rfl, ⟨aU.refl _, aU.refl _, aU.refl _, aU.eq (by first | (simp only [aK, hg11, hg12, Bool.not_true, Bool.not_false, Bool.true_and, Bool.and_true, Bool.false_and, Bool.and_false, Bool.or_true, Bool.true_or, Bool.or_false, Bool.false_or, cond_true, cond_false]; done) | simp [aK, hg11, hg12]), trivial⟩⟩, hO⟩
      refine cU 35 [0 ≤ i5 ∧ i5 < (lN a0), 0 ≤ i5 ∧ i5 < (lN b1)] ⟨(c7 (CC (SP hg11 hg12))), (c8 (CC (SP hg11 hg12))), trivial⟩ ?_
      refine BK 20 [(eL aJ ((gD a0 i5).Row)), (eL aJ ((gD b1 i5).Row))] (aK x9) (by kernel_rfl) (by kernel_rfl) (EF ((gD a0 i5).Row) ((gD b1 i5).Row) _ (jI hx10 (CC (SP hg11 hg12)))) hO ?_
      intro H hO
      refine jU ?_
      exact ⟨⟨[(0, (eL aE a0)), (1, (eL aE b1)), (5, (eI i5)), (54, (aK (!x9)))], by kernel_rfl, rfl, ⟨aU.refl _, aU.refl _, aU.refl _, aU.eq (by first | (simp only [aK, hg11, hg12, Bool.not_true, Bool.not_false, Bool.true_and, Bool.and_true, Bool.false_and, Bool.and_false, Bool.or_true, Bool.true_or, Bool.or_false, Bool.false_or, cond_true, cond_false]; done) | simp [aK, hg11, hg12]), trivial⟩⟩, hO⟩
    · rintro T H ⟨hT, hO⟩
      refine cB hT ?_
      clear hT
      refine aI (aG ?_)
      refine bE h1 (fun h1 => ?_) (fun h1 => ?_)
      · refine bO aF 1 [(4, (aK false))] ?_
        refine bG ?_
        obtain rfl := oI h1
        obtain rfl : _ = rr0 := ho0
        replace h0 : some false = some r := h0
        obtain rfl := oI h0
        exact aI (bL (aP (aP (bL (aP (Q_r hO))))))
      refine bF ?_
      refine cR [(0, (eL aE a0)), (1, (eL aE b1)), (5, (eI i5))] ?_
      refine aI (aX (aG (?_)))
      refine aS aF 3 ?_
      refine aZ ?_
      exact aI (aG (⟨rfl, _, (oI h1).symm, .eq (by kernel_rfl), hO⟩))
  refine cQ 0 ?_
  obtain rfl := oI h1
  obtain rfl : _ = rr0 := ho0
  replace h0 : uM  = some r := h0
  exact aI (aR (aR (bH (aG (⟨rfl, .eq (by kernel_rfl), hO, h0⟩)))))

theorem HL (l0 : (List aC)) (by1_f : Nat) (by1_a by1_c : List V) (by1 : (List aA) → Option ((List aA) × Int)) (by1_h : ∀ a0 r, by1 a0 = some r → bR Tryz.prog by1_f (by1_a ++ [(eL aD a0)] ++ by1_c) (.tup [(eL aD r.1), (eI r.2)])) (r : ((List aC) × Int)) (h0 : tE l0 by1 = some r) : bR Tryz.prog 21 [(eL aE l0), (.fn (.func by1_f) by1_a by1_c)] (.tup [(eL aE r.1), (eI r.2)]) := by
  intro H0
  refine cA Tryz.func21 ?_
  have hO := aL.start H0
  unfold tE at h0
  refine aT aF 2 [] [] ?_
  refine aM ?_
  refine aM ?_
  refine aS aF 3 ?_
  refine bK 1 ?_
  obtain ⟨x1, hx2, h0⟩ := aV h0
  refine bW (DG l0 _ hx2) hO ?_
  intro H hO
  refine aZ ?_
  refine bN [] [(8, (aK (!x1)))] ?_
  refine bE h0 (fun h0 => ?_) (fun h0 => ?_)
  · refine bO aF 2 [(4, (.sl true 0 (fun _ => .bad))), (5, (eI (2 : Int)))] ?_
    refine bG ?_
    refine cB (l := [(4, (eL aE ([]))), (5, (eI (2 : Int)))]) ⟨[(4, (.sl true 0 (fun _ => .bad))), (5, (eI (2 : Int)))], by kernel_rfl, rfl, ⟨cT, aU.refl _, trivial⟩⟩ ?_
    obtain rfl := oI h0
    exact aI (aP (Q_r hO))
  refine bF ?_
  refine bD [(0, (eL aE l0)), (1, (.fn (.func by1_f) by1_a by1_c))] ?_
  refine aM ?_
  refine aS aF 7 ?_
  refine bK 2 ?_
  obtain ⟨x5, hx6, h0⟩ := aV h0
  refine bW (IM l0 by1_f by1_a by1_c by1 by1_h _ hx6) hO ?_
  intro H hO
  refine aZ ?_
  refine bD [(4, (eL aE x5.1)), (5, (eI x5.2))] ?_
  refine bG ?_
  obtain rfl := oI h0
  exact aI (Q_r hO)

theorem XO (f0 : (List aA)) (g1 : (List aA)) (by2_f : Nat) (by2_a by2_c : List V) (by2 : Int → Int → Option Int) (by2_h : ∀ a0 a1 r, by2 a0 a1 = some r → bR Tryz.prog by2_f (by2_a ++ [(eI a0), (eI a1)] ++ by2_c) (eI r)) (r : ((List aA) × Int)) (h0 : xN f0 g1 by2 = some r) : bR Tryz.prog 56 [(eL aD f0), (eL aD g1), (.fn (.func by2_f) by2_a by2_c)] (.tup [(eL aD r.1), (eI r.2)]) := by
  intro H0
  refine cA Tryz.func56 ?_
  have hO := aL.start H0
  unfold xN at h0
  refine aT aF 2 [] [] ?_
  refine aM ?_
  refine aM ?_
  refine aS aF 8 ?_
  refine bK 1 ?_
  obtain ⟨x1, hx2, h0⟩ := aV h0
  refine bW (rO f0 _ hx2) hO ?_
  intro H hO
  refine bK 5 ?_
  obtain ⟨x4, hx5, h0⟩ := aV h0
  refine jQ [(17, false)] 37 [(eL aD g1)] (aK x4) (!(!x1)) (by kernel_rfl) (by kernel_rfl) (by kernel_rfl) (fun hb6 => (rO g1 _ (jI hx5 hb6))) hO ?_
  intro H hO
  refine aZ ?_
  refine bN [] [(21, (aK ((!x1) || (!x4))))] ?_
  refine bE h0 (fun h0 => ?_) (fun h0 => ?_)
  · refine bO aF 2 [(6, (.sl true 0 (fun _ => .bad))), (7, (eI (2 : Int)))] ?_
    refine bG ?_
    refine cB (l := [(6, (eL aD ([]))), (7, (eI (2 : Int)))]) ⟨[(6, (.sl true 0 (fun _ => .bad))), (7, (eI (2 : Int)))], by kernel_rfl, rfl, ⟨cT, aU.refl _, trivial⟩⟩ ?_
    obtain rfl := oI h0
    exact aI (aP (Q_r hO))
  refine bF ?_
  refine bD [(0, (eL aD f0)), (1, (eL aD g1)), (2, (.fn (.func by2_f) by2_a by2_c))] ?_
  refine aM ?_
  refine aS aF 2 ?_
  refine fE (xs := []) (k := 2) (by kernel_rfl) (by kernel_rfl) ?_
  refine aZ ?_
  refine bN [] [(8, (.sl true 0 (fun _ => .bad)))] ?_
  refine aT aF 3 [] [(9, (eI (0 : Int))), (10, (eI (0 : Int))), (11, (eI (0 : Int)))] ?_
  refine cC (fun T H => ∃ out8 : List aA, ∃ lo8 : Nat, Has T [(8, (.msl 2 lo8 0 (List.length out8)))] ∧ aL ⟨H0, [], []⟩ H [(lo8, 2, List.map aD out8)] ∧ wE by2 out8 = some r) ?_ ?_
  · clear hO h0
    rintro T H ⟨out8, lo8, hT, hO, h0⟩
    refine aY hT ?_
    clear hT
    unfold wE at h0
    refine aM ?_
    refine aS aF 6 ?_
    refine oR (e := aD) out8 0 8 2 lo8 (List.length out8) [] (by kernel_rfl) hO (by kernel_rfl) (by kernel_rfl) (by kernel_rfl) (by kernel_rfl) ?_
    intro H hO
    refine bK 1 ?_
    obtain ⟨x9, hx10, h0⟩ := aV h0
    refine bW (BR out8 _ hx10) hO ?_
    intro H hO
    refine aZ ?_
    refine bD [(6, (eL aD x9.1)), (7, (eI x9.2))] ?_
    refine bG ?_
    obtain rfl := oI h0
    exact aI (Q_r hO)
  refine bP 0 ?_
  refine cP [(0, (eL aD f0)), (1, (eL aD g1)), (2, (.fn (.func by2_f) by2_a by2_c)), (8, (.sl true 0 (fun _ => .bad))), (9, (eI (0 : Int))), (10, (eI (0 : Int))), (11, (eI (0 : Int)))] ?_
  refine rP (el := (fun _ => .bad)) 3 8 2 hO (by kernel_rfl) ?_
  intro lo37 H38 hO
  refine cE (fun T H => ∃ f0 : (List aA), ∃ g1 : (List aA), ∃ out8 : List aA, ∃ a9 : Int, ∃ b10 : Int, ∃ dS : Int, ∃ lo13 : Nat, Has T [(0, (eL aD f0)), (1, (eL aD g1)), (2, (.fn (.func by2_f) by2_a by2_c)), (8, (.msl 2 lo13 0 (List.length out8))), (9, (eI a9)), (10, (eI b10)), (11, (eI dS))] ∧ aL ⟨H0, [], []⟩ H [(lo13, 2, List.map aD out8)] ∧ AQ by2 f0 g1 out8 a9 b10 dS = some r) ?_ ⟨f0, g1, ([] : List aA), (0 : Int), (0 : Int), (0 : Int), lo37, .eq (by kernel_rfl), hO, h0⟩
  clear hO h0
  rintro T H ⟨f0, g1, out8, a9, b10, dS, lo13, hT, hO, h0⟩
  refine aY hT ?_
  clear hT
  unfold AQ at h0
  obtain ⟨rr0, hl0, h0⟩ := aV h0
  refine bU (by kernel_rfl) (fun (s : (List aA) × (List aA) × List aA × Int × Int × Int) T H => ∃ lo13 : Nat, Has T [(0, (eL aD s.1)), (1, (eL aD s.2.1)), (2, (.fn (.func by2_f) by2_a by2_c)), (8, (.msl 2 lo13 0 (List.length s.2.2.1))), (9, (eI s.2.2.2.1)), (10, (eI s.2.2.2.2.1)), (11, (eI s.2.2.2.2.2))] ∧ aL ⟨H0, [], []⟩ H [(lo13, 2, List.map aD s.2.2.1)]) hl0 ⟨lo13, .eq (by kernel_rfl), hO⟩ ?_
  clear hO
  rintro k0 s out1 T H ⟨lo13, hT, hO⟩ h1 ho0
  obtain ⟨f0, g1, out8, a9, b10, dS⟩ := s
  replace h1 : eY by2 f0 g1 out8 a9 b10 dS = some out1 := h1
  dsimp only at hT
  refine aY hT ?_
  clear hT
  unfold eY at h1
  refine aM ?_
  refine aT aF 8 [] [(30, (aK ((decide ((0 : Int) < (lN f0))) || (decide ((0 : Int) < (lN g1))))))] ?_
  refine bE h1 (fun h1 => ?_) (fun h1 => ?_)
  · refine bF ?_
    refine bD [(0, (eL aD f0)), (1, (eL aD g1)), (2, (.fn (.func by2_f) by2_a by2_c)), (8, (.msl 2 lo13 0 (List.length out8))), (9, (eI a9)), (10, (eI b10)), (11, (eI dS))] ?_
    refine bP 1 ?_
    refine aT aF 1 [] [(12, (eI (1125899906842624 : Int)))] ?_
    refine cC (fun T H => ∃ out8 : List aA, ∃ at12 : Int, ∃ lo15 : Nat, Has T [(0, (eL aD f0)), (1, (eL aD g1)), (2, (.fn (.func by2_f) by2_a by2_c)), (8, (.msl 2 lo15 0 (List.length out8))), (9, (eI a9)), (10, (eI b10)), (11, (eI dS)), (12, (eI at12))] ∧ aL ⟨H0, [], []⟩ H [(lo15, 2, List.map aD out8)] ∧ lV by2 f0 g1 out8 a9 b10 dS at12 = some out1) ?_ ?_
    · clear hO h1
      rintro T H ⟨out8, at12, lo15, hT, hO, h1⟩
      refine aY hT ?_
      clear hT
      unfold lV at h1
      refine cC (fun T H => ∃ out8 : List aA, ∃ at12 : Int, ∃ lo16 : Nat, Has T [(0, (eL aD f0)), (1, (eL aD g1)), (2, (.fn (.func by2_f) by2_a by2_c)), (8, (.msl 2 lo16 0 (List.length out8))), (9, (eI a9)), (10, (eI b10)), (11, (eI dS)), (12, (eI at12))] ∧ aL ⟨H0, [], []⟩ H [(lo16, 2, List.map aD out8)] ∧ jB by2 f0 g1 out8 a9 b10 dS at12 = some out1) ?_ ?_
      · clear hO h1
        rintro T H ⟨out8, at12, lo16, hT, hO, h1⟩
        refine aY hT ?_
        clear hT
        unfold jB at h1
        refine cC (fun T H => ∃ f0 : (List aA), ∃ out8 : List aA, ∃ a9 : Int, ∃ lo17 : Nat, Has T [(0, (eL aD f0)), (1, (eL aD g1)), (2, (.fn (.func by2_f) by2_a by2_c)), (8, (.msl 2 lo17 0 (List.length out8))), (9, (eI a9)), (10, (eI b10)), (11, (eI dS)), (12, (eI at12))] ∧ aL ⟨H0, [], []⟩ H [(lo17, 2, List.map aD out8)] ∧ iA by2 f0 g1 out8 a9 b10 dS at12 = some out1) ?_ ?_
        · clear hO h1
          rintro T H ⟨f0, out8, a9, lo17, hT, hO, h1⟩
          refine aY hT ?_
          clear hT
          unfold iA at h1
          refine cC (fun T H => ∃ g1 : (List aA), ∃ out8 : List aA, ∃ b10 : Int, ∃ lo18 : Nat, Has T [(0, (eL aD f0)), (1, (eL aD g1)), (2, (.fn (.func by2_f) by2_a by2_c)), (8, (.msl 2 lo18 0 (List.length out8))), (9, (eI a9)), (10, (eI b10)), (11, (eI dS)), (12, (eI at12))] ∧ aL ⟨H0, [], []⟩ H [(lo18, 2, List.map aD out8)] ∧ lY by2 f0 g1 out8 a9 b10 dS at12 = some out1) ?_ ?_
          · clear hO h1
            rintro T H ⟨g1, out8, b10, lo18, hT, hO, h1⟩
            refine aY hT ?_
            clear hT
            unfold lY at h1
            refine aM ?_
            refine aS aF 5 ?_
            refine bK 3 ?_
            obtain ⟨x19, hx20, h1⟩ := aV h1
            refine bW (by2_h a9 b10 _ hx20) hO ?_
            intro H hO
            refine aZ ?_
            refine bN [] [(13, (eI x19))] ?_
            refine aT aF 3 [] [(91, (aK (!decide (x19 = dS))))] ?_
            refine bE h1 (fun h1 => ?_) (fun h1 => ?_)
            · refine aM ?_
              refine aS aF 9 ?_
              refine bK 6 ?_
              refine fE (xs := [(aD (aA.mk at12 (wR (x19 - dS))))]) (k := 2) (by kernel_rfl) (by kernel_rfl) ?_
              obtain ⟨c24, h1⟩ := bA h1
              refine nB (e := aD) out8 ([aA.mk at12 (wR (x19 - dS))]) 0 lo18 2 16 (dL [(aD (aA.mk at12 (wR (x19 - dS))))]) (fun lo23 => [(lo23, 2, List.map aD (out8 ++ ([aA.mk at12 (wR (x19 - dS))])))]) (by kernel_rfl) (by kernel_rfl) hO (by kernel_rfl) (by kernel_rfl) c24 (fun _ => by kernel_rfl) ?_
              intro lo23 H hO
              refine aZ ?_
              refine bN [8, 11, 12, 91] [(8, (.msl 2 lo23 0 (List.length (out8 ++ ([aA.mk at12 (wR (x19 - dS))])))))] ?_
              refine aS aF 2 ?_
              refine aZ ?_
              exact aI (aX (aG (⟨rfl, _, (oI h1).symm, _, .eq (by kernel_rfl), hO⟩)))
            refine bF ?_
            exact aI (aX (aG (⟨rfl, _, (oI h1).symm, _, .eq (by kernel_rfl), hO⟩)))
          refine aM ?_
          refine aS aF 11 ?_
          obtain ⟨c25, h1⟩ := bA h1
          refine kB [(((decide ((0 : Int) < (lN g1)))) = true → 0 ≤ (0 : Int) ∧ (0 : Int) < (lN g1))] ⟨c25, trivial⟩ ?_
          refine bN [] [(76, (aK ((decide ((0 : Int) < (lN g1))) && (decide (((gD g1 (0 : Int)).At) = at12)))))] ?_
          refine bE h1 (fun h1 => ?_) (fun h1 => ?_)
          · refine fG (fF [81]) aF 10 ?_
            obtain ⟨c27, h1⟩ := bA h1
            obtain ⟨c28, h1⟩ := bA h1
            refine BY (Ds := [0 ≤ (0 : Int) ∧ (0 : Int) < (lN g1), 0 ≤ (1 : Int) ∧ (1 : Int) ≤ (lN g1)]) (by kernel_rfl) ⟨c27, c28, trivial⟩ ?_
            refine cB (l := [(0, (eL aD f0)), (1, (eL aD (List.drop (Int.toNat (1 : Int)) g1))), (2, (.fn (.func by2_f) by2_a by2_c)), (8, (.msl 2 lo17 0 (List.length out8))), (9, (eI a9)), (10, (eI (wR (b10 + ((gD g1 (0 : Int)).Net))))), (11, (eI dS)), (12, (eI at12))]) ⟨[(0, (eL aD f0)), (1, (.sl false (List.length g1 - Int.toNat (1 : Int)) (fun i => aD (List.getD g1 (Int.toNat (1 : Int) + i) default)))), (2, (.fn (.func by2_f) by2_a by2_c)), (8, (.msl 2 lo17 0 (List.length out8))), (9, (eI a9)), (10, (eI (wR (b10 + ((gD g1 (0 : Int)).Net))))), (11, (eI dS)), (12, (eI at12))], by kernel_rfl, rfl, ⟨aU.refl _, YD, aU.refl _, aU.refl _, aU.refl _, aU.refl _, aU.refl _, aU.refl _, trivial⟩⟩ ?_
            exact aI (aG (⟨rfl, _, _, _, _, .eq (by kernel_rfl), hO, h1⟩))
          refine bF ?_
          exact aI (aG (⟨rfl, _, _, _, _, .eq (by kernel_rfl), hO, h1⟩))
        refine aM ?_
        refine aS aF 11 ?_
        obtain ⟨c29, h1⟩ := bA h1
        refine kB [(((decide ((0 : Int) < (lN f0)))) = true → 0 ≤ (0 : Int) ∧ (0 : Int) < (lN f0))] ⟨c29, trivial⟩ ?_
        refine bN [] [(57, (aK ((decide ((0 : Int) < (lN f0))) && (decide (((gD f0 (0 : Int)).At) = at12)))))] ?_
        refine bE h1 (fun h1 => ?_) (fun h1 => ?_)
        · refine fG (fF [62]) aF 10 ?_
          obtain ⟨c31, h1⟩ := bA h1
          obtain ⟨c32, h1⟩ := bA h1
          refine BY (Ds := [0 ≤ (0 : Int) ∧ (0 : Int) < (lN f0), 0 ≤ (1 : Int) ∧ (1 : Int) ≤ (lN f0)]) (by kernel_rfl) ⟨c31, c32, trivial⟩ ?_
          refine cB (l := [(0, (eL aD (List.drop (Int.toNat (1 : Int)) f0))), (1, (eL aD g1)), (2, (.fn (.func by2_f) by2_a by2_c)), (8, (.msl 2 lo16 0 (List.length out8))), (9, (eI (wR (a9 + ((gD f0 (0 : Int)).Net))))), (10, (eI b10)), (11, (eI dS)), (12, (eI at12))]) ⟨[(0, (.sl false (List.length f0 - Int.toNat (1 : Int)) (fun i => aD (List.getD f0 (Int.toNat (1 : Int) + i) default)))), (1, (eL aD g1)), (2, (.fn (.func by2_f) by2_a by2_c)), (8, (.msl 2 lo16 0 (List.length out8))), (9, (eI (wR (a9 + ((gD f0 (0 : Int)).Net))))), (10, (eI b10)), (11, (eI dS)), (12, (eI at12))], by kernel_rfl, rfl, ⟨YD, aU.refl _, aU.refl _, aU.refl _, aU.refl _, aU.refl _, aU.refl _, aU.refl _, trivial⟩⟩ ?_
          exact aI (aG (⟨rfl, _, _, _, _, .eq (by kernel_rfl), hO, h1⟩))
        refine bF ?_
        exact aI (aG (⟨rfl, _, _, _, _, .eq (by kernel_rfl), hO, h1⟩))
      refine aT aF 3 [] [(40, (aK (decide ((0 : Int) < (lN g1)))))] ?_
      refine bE h1 (fun h1 => ?_) (fun h1 => ?_)
      · refine aS aF 7 ?_
        obtain ⟨c34, h1⟩ := bA h1
        refine kB [0 ≤ (0 : Int) ∧ (0 : Int) < (lN g1)] ⟨c34, trivial⟩ ?_
        exact aI (aG (⟨rfl, _, _, _, .eq (by kernel_rfl), hO, h1⟩))
      refine bF ?_
      exact aI (aG (⟨rfl, _, _, _, .eq (by kernel_rfl), hO, h1⟩))
    refine aT aF 3 [] [(33, (aK (decide ((0 : Int) < (lN f0)))))] ?_
    refine bE h1 (fun h1 => ?_) (fun h1 => ?_)
    · refine aS aF 5 ?_
      obtain ⟨c36, h1⟩ := bA h1
      refine kB [0 ≤ (0 : Int) ∧ (0 : Int) < (lN f0)] ⟨c36, trivial⟩ ?_
      exact aI (aG (⟨rfl, _, _, _, .eq (by kernel_rfl), hO, h1⟩))
    refine bF ?_
    exact aI (aG (⟨rfl, _, _, _, .eq (by kernel_rfl), hO, h1⟩))
  refine cQ 0 ?_
  obtain rfl := oI h1
  obtain rfl : _ = rr0 := ho0
  replace h0 : wE by2 out8 = some r := h0
  exact aI (aR (aR (bH (aG (⟨rfl, _, _, .eq (by kernel_rfl), hO, h0⟩)))))

theorem UZ (a0 : Int) (t1 : Int) (r : Int) (h0 : sU a0 t1 = some r) : bR Tryz.prog 57 [(eI a0), (eI t1)] (eI r) := by
  intro H0
  refine cA Tryz.func57 ?_
  have hO := aL.start H0
  unfold sU at h0
  refine bO aF 1 [(0, (eI a0))] ?_
  refine bO aF 3 [(4, (eI (wR (0 - a0))))] ?_
  refine bG ?_
  obtain rfl := oI h0
  exact aI (Q_r hO)

theorem ZR (f0 : (List aA)) (r : ((List aA) × Int)) (h0 : rJ f0 = some r) : bR Tryz.prog 22 [(eL aD f0)] (.tup [(eL aD r.1), (eI r.2)]) := by
  intro H0
  refine cA Tryz.func22 ?_
  have hO := aL.start H0
  unfold rJ at h0
  refine aT aF 2 [] [] ?_
  refine aM ?_
  refine aS aF 6 ?_
  refine bK 1 ?_
  obtain ⟨x1, hx2, h0⟩ := aV h0
  refine UD 56 [(eL aD f0), (.sl true 0 (fun _ => .bad)), (.fn (.func 57) [] [])] (.tup [(eL aD x1.1), (eI x1.2)]) (bR.sub (XO f0 ([]) 57 [] [] (fun y0 y1 => sU y0 y1) (fun y0 y1 r h => UZ y0 y1 r h) _ hx2) ⟨aU.refl _, cT, aU.refl _, trivial⟩) hO ?_
  intro H hO
  refine aZ ?_
  refine bD [(2, (eL aD x1.1)), (3, (eI x1.2))] ?_
  refine bG ?_
  obtain rfl := oI h0
  exact aI (Q_r hO)

theorem ZA (l0 : (List aC)) (r : ((List aC) × Int)) (h0 : AK l0 = some r) : bR Tryz.prog 9 [(eL aE l0)] (.tup [(eL aE r.1), (eI r.2)]) := by
  intro H0
  refine cA Tryz.func9 ?_
  have hO := aL.start H0
  unfold AK at h0
  refine aT aF 2 [] [] ?_
  refine aM ?_
  refine aS aF 6 ?_
  refine bK 1 ?_
  obtain ⟨x1, hx2, h0⟩ := aV h0
  refine bW (HL l0 22 [] [] (fun y0 => rJ y0) (fun y0 r h => ZR y0 r h) _ hx2) hO ?_
  intro H hO
  refine aZ ?_
  refine bD [(2, (eL aE x1.1)), (3, (eI x1.2))] ?_
  refine bG ?_
  obtain rfl := oI h0
  exact aI (Q_r hO)

theorem XP (f0 : (List aA)) (r : ((List aA) × Int)) (h0 : xK f0 = some r) : bR Tryz.prog 25 [(eL aD f0)] (.tup [(eL aD r.1), (eI r.2)]) := by
  intro H0
  refine cA Tryz.func25 ?_
  have hO := aL.start H0
  unfold xK at h0
  refine aT aF 2 [] [] ?_
  refine aM ?_
  refine aM ?_
  refine aS aF 3 ?_
  refine bK 1 ?_
  obtain ⟨x1, hx2, h0⟩ := aV h0
  refine bW (xS f0 _ hx2) hO ?_
  intro H hO
  refine aZ ?_
  refine bN [] [(8, (aK (!x1)))] ?_
  refine bE h0 (fun h0 => ?_) (fun h0 => ?_)
  · refine bO aF 2 [(2, (.sl true 0 (fun _ => .bad))), (3, (eI (2 : Int)))] ?_
    refine bG ?_
    refine cB (l := [(2, (eL aD ([]))), (3, (eI (2 : Int)))]) ⟨[(2, (.sl true 0 (fun _ => .bad))), (3, (eI (2 : Int)))], by kernel_rfl, rfl, ⟨cT, aU.refl _, trivial⟩⟩ ?_
    obtain rfl := oI h0
    exact aI (aP (Q_r hO))
  refine bF ?_
  refine bD [(0, (eL aD f0))] ?_
  refine aM ?_
  refine aS aF 2 ?_
  refine fE (xs := []) (k := 2) (by kernel_rfl) (by kernel_rfl) ?_
  refine aZ ?_
  refine bN [] [(4, (.sl true 0 (fun _ => .bad)))] ?_
  refine cC (fun T H => ∃ g4 : List aA, ∃ lo5 : Nat, Has T [(4, (.msl 2 lo5 0 (List.length g4)))] ∧ aL ⟨H0, [], []⟩ H [(lo5, 2, List.map aD g4)] ∧ wJ g4 = some r) ?_ ?_
  · clear hO h0
    rintro T H ⟨g4, lo5, hT, hO, h0⟩
    refine aY hT ?_
    clear hT
    unfold wJ at h0
    refine bO aF 3 [(2, (.msl 2 lo5 0 (List.length g4))), (3, (eI (0 : Int)))] ?_
    refine bG ?_
    refine cR [(2, (.msl 2 lo5 0 (List.length g4))), (3, (eI (0 : Int)))] ?_
    refine pR (en := aD) g4 0 0 2 2 lo5 (List.length g4) hO (by kernel_rfl) (by kernel_rfl) (by kernel_rfl) (L' := []) (by kernel_rfl) ?_
    intro H6 hO
    obtain rfl := oI h0
    exact aI (Q_r hO)
  refine aT aF 1 [] [(5, (eI (0 : Int)))] ?_
  refine bP 0 ?_
  refine cP [(0, (eL aD f0)), (4, (.sl true 0 (fun _ => .bad))), (5, (eI (0 : Int)))] ?_
  refine rP (el := (fun _ => .bad)) 1 4 2 hO (by kernel_rfl) ?_
  intro lo14 H15 hO
  refine cE (fun T H => ∃ g4 : List aA, ∃ i5 : Int, ∃ lo8 : Nat, Has T [(0, (eL aD f0)), (4, (.msl 2 lo8 0 (List.length g4))), (5, (eI i5))] ∧ aL ⟨H0, [], []⟩ H [(lo8, 2, List.map aD g4)] ∧ AA f0 g4 i5 = some r) ?_ ⟨([] : List aA), (0 : Int), lo14, .eq (by kernel_rfl), hO, h0⟩
  clear hO h0
  rintro T H ⟨g4, i5, lo8, hT, hO, h0⟩
  refine aY hT ?_
  clear hT
  unfold AA at h0
  obtain ⟨rr0, hl0, h0⟩ := aV h0
  refine bU (by kernel_rfl) (fun (s : List aA × Int) T H => ∃ lo8 : Nat, Has T [(0, (eL aD f0)), (4, (.msl 2 lo8 0 (List.length s.1))), (5, (eI s.2))] ∧ aL ⟨H0, [], []⟩ H [(lo8, 2, List.map aD s.1)]) hl0 ⟨lo8, .eq (by kernel_rfl), hO⟩ ?_
  clear hO
  rintro k0 s out1 T H ⟨lo8, hT, hO⟩ h1 ho0
  obtain ⟨g4, i5⟩ := s
  replace h1 : oT f0 g4 i5 = some out1 := h1
  dsimp only at hT
  refine aY hT ?_
  clear hT
  unfold oT at h1
  refine aM ?_
  refine aT aF 4 [] [(13, (aK (decide (i5 < (lN f0)))))] ?_
  refine bE h1 (fun h1 => ?_) (fun h1 => ?_)
  · refine bF ?_
    refine bD [(0, (eL aD f0)), (4, (.msl 2 lo8 0 (List.length g4))), (5, (eI i5))] ?_
    refine aM ?_
    refine bP 1 ?_
    refine fG (fF [21, 26]) aF 16 ?_
    obtain ⟨c10, h1⟩ := bA h1
    obtain ⟨c11, h1⟩ := bA h1
    refine cU 13 [0 ≤ i5 ∧ i5 < (lN f0), 0 ≤ i5 ∧ i5 < (lN f0)] ⟨c10, c11, trivial⟩ ?_
    refine ET (xs := [(aD (aA.mk ((gD f0 i5).At) (wR (0 - ((gD f0 i5).Net)))))]) (k := 2) (by kernel_rfl) (by kernel_rfl) ?_
    obtain ⟨c13, h1⟩ := bA h1
    refine DN (e := aD) g4 ([aA.mk ((gD f0 i5).At) (wR (0 - ((gD f0 i5).Net)))]) 0 lo8 2 16 (dL [(aD (aA.mk ((gD f0 i5).At) (wR (0 - ((gD f0 i5).Net)))))]) (fun lo12 => [(lo12, 2, List.map aD (g4 ++ ([aA.mk ((gD f0 i5).At) (wR (0 - ((gD f0 i5).Net)))])))]) (by kernel_rfl) (by kernel_rfl) hO (by kernel_rfl) (by kernel_rfl) c13 (fun _ => by kernel_rfl) ?_
    intro lo12 H hO
    refine jU ?_
    refine cR [(0, (eL aD f0)), (4, (.msl 2 lo12 0 (List.length (g4 ++ ([aA.mk ((gD f0 i5).At) (wR (0 - ((gD f0 i5).Net)))]))))), (5, (eI i5))] ?_
    refine aI (aX (aG (?_)))
    refine aS aF 3 ?_
    refine aZ ?_
    exact aI (aG (⟨rfl, _, (oI h1).symm, _, .eq (by kernel_rfl), hO⟩))
  refine cQ 0 ?_
  obtain rfl := oI h1
  obtain rfl : _ = rr0 := ho0
  replace h0 : wJ g4 = some r := h0
  exact aI (aR (aR (bH (aG (⟨rfl, _, _, .eq (by kernel_rfl), hO, h0⟩)))))

theorem GG (f0 : (List aA)) (g1 : (List aA)) (r : (List Int)) (h0 : pY f0 g1 = some r) : bR Tryz.prog 58 [(eL aD f0), (eL aD g1)] (eL (eI) r) := by
  intro H0
  refine cA Tryz.func58 ?_
  have hO := aL.start H0
  unfold pY at h0
  refine aT aF 1 [] [] ?_
  refine aM ?_
  refine aS aF 2 ?_
  refine fE (xs := []) (k := 1) (by kernel_rfl) (by kernel_rfl) ?_
  refine aZ ?_
  refine bN [] [(5, (.sl true 0 (fun _ => .bad)))] ?_
  refine cC (fun T H => ∃ l5 : (List Int), Has T [(1, (eL aD g1)), (5, (eL (eI) l5))] ∧ aL ⟨H0, [], []⟩ H [] ∧ rK g1 l5 = some r) ?_ ?_
  · clear hO h0
    rintro T H ⟨l5, hT, hO, h0⟩
    refine aY hT ?_
    clear hT
    unfold rK at h0
    refine cC (fun T H => ∃ l5 : (List Int), Has T [(5, (eL (eI) l5))] ∧ aL ⟨H0, [], []⟩ H [] ∧ vA l5 = some r) ?_ ?_
    · clear hO h0
      rintro T H ⟨l5, hT, hO, h0⟩
      refine aY hT ?_
      clear hT
      unfold vA at h0
      refine bO aF 2 [(4, (eL (eI) l5))] ?_
      refine bG ?_
      obtain rfl := oI h0
      exact aI (Q_r hO)
    refine aT aF 1 [] [(7, (eI (0 : Int)))] ?_
    refine bP 2 ?_
    refine cP [(1, (eL aD g1)), (5, (eL (eI) l5)), (7, (eI (0 : Int)))] ?_
    refine cE (fun T H => ∃ l5 : (List Int), ∃ i7 : Int, Has T [(1, (eL aD g1)), (5, (eL (eI) l5)), (7, (eI i7))] ∧ aL ⟨H0, [], []⟩ H [] ∧ uZ g1 l5 i7 = some r) ?_ ⟨l5, (0 : Int), .eq (by kernel_rfl), hO, h0⟩
    clear hO h0
    rintro T H ⟨l5, i7, hT, hO, h0⟩
    refine aY hT ?_
    clear hT
    unfold uZ at h0
    obtain ⟨rr0, hl0, h0⟩ := aV h0
    refine bU (by kernel_rfl) (fun (s : (List Int) × Int) T H => Has T [(1, (eL aD g1)), (5, (eL (eI) s.1)), (7, (eI s.2))] ∧ aL ⟨H0, [], []⟩ H []) hl0 ⟨.eq (by kernel_rfl), hO⟩ ?_
    clear hO
    rintro k0 s out1 T H ⟨hT, hO⟩ h1 ho0
    obtain ⟨l5, i7⟩ := s
    replace h1 : lR g1 l5 i7 = some out1 := h1
    dsimp only at hT
    refine aY hT ?_
    clear hT
    unfold lR at h1
    refine aM ?_
    refine aT aF 4 [] [(25, (aK (decide (i7 < (lN g1)))))] ?_
    refine bE h1 (fun h1 => ?_) (fun h1 => ?_)
    · refine bF ?_
      refine bD [(1, (eL aD g1)), (5, (eL (eI) l5)), (7, (eI i7))] ?_
      refine aM ?_
      refine bP 3 ?_
      refine aS aF 8 ?_
      obtain ⟨c2, h1⟩ := bA h1
      refine mP 6 [0 ≤ i7 ∧ i7 < (lN g1)] ⟨c2, trivial⟩ ?_
      obtain ⟨x3, hx4, h1⟩ := aV h1
      refine bW (vW l5 ((gD g1 i7).At) _ hx4) hO ?_
      intro H hO
      refine aZ ?_
      refine cR [(1, (eL aD g1)), (5, (eL (eI) x3)), (7, (eI i7))] ?_
      refine aI (aX (aG (?_)))
      refine aS aF 3 ?_
      refine aZ ?_
      exact aI (aG (⟨rfl, _, (oI h1).symm, .eq (by kernel_rfl), hO⟩))
    refine cQ 2 ?_
    obtain rfl := oI h1
    obtain rfl : _ = rr0 := ho0
    replace h0 : vA l5 = some r := h0
    exact aI (aR (aR (bH (aG (⟨rfl, _, .eq (by kernel_rfl), hO, h0⟩)))))
  refine aT aF 1 [] [(6, (eI (0 : Int)))] ?_
  refine bP 0 ?_
  refine aY (l := [(0, (eL aD f0)), (1, (eL aD g1)), (5, (eL (eI) ([]))), (6, (eI (0 : Int)))]) ⟨[(0, (eL aD f0)), (1, (eL aD g1)), (5, (.sl true 0 (fun _ => .bad))), (6, (eI (0 : Int)))], by kernel_rfl, rfl, ⟨aU.refl _, aU.refl _, cT, aU.refl _, trivial⟩⟩ ?_
  refine cE (fun T H => ∃ l5 : (List Int), ∃ i6 : Int, Has T [(0, (eL aD f0)), (1, (eL aD g1)), (5, (eL (eI) l5)), (6, (eI i6))] ∧ aL ⟨H0, [], []⟩ H [] ∧ vD f0 g1 l5 i6 = some r) ?_ ⟨[], (0 : Int), .eq (by kernel_rfl), hO, h0⟩
  clear hO h0
  rintro T H ⟨l5, i6, hT, hO, h0⟩
  refine aY hT ?_
  clear hT
  unfold vD at h0
  obtain ⟨rr0, hl0, h0⟩ := aV h0
  refine bU (by kernel_rfl) (fun (s : (List Int) × Int) T H => Has T [(0, (eL aD f0)), (1, (eL aD g1)), (5, (eL (eI) s.1)), (6, (eI s.2))] ∧ aL ⟨H0, [], []⟩ H []) hl0 ⟨.eq (by kernel_rfl), hO⟩ ?_
  clear hO
  rintro k0 s out1 T H ⟨hT, hO⟩ h1 ho0
  obtain ⟨l5, i6⟩ := s
  replace h1 : lT f0 g1 l5 i6 = some out1 := h1
  dsimp only at hT
  refine aY hT ?_
  clear hT
  unfold lT at h1
  refine aM ?_
  refine aT aF 4 [] [(12, (aK (decide (i6 < (lN f0)))))] ?_
  refine bE h1 (fun h1 => ?_) (fun h1 => ?_)
  · refine bF ?_
    refine bD [(0, (eL aD f0)), (1, (eL aD g1)), (5, (eL (eI) l5)), (6, (eI i6))] ?_
    refine aM ?_
    refine bP 1 ?_
    refine aS aF 8 ?_
    obtain ⟨c8, h1⟩ := bA h1
    refine mP 6 [0 ≤ i6 ∧ i6 < (lN f0)] ⟨c8, trivial⟩ ?_
    obtain ⟨x9, hx10, h1⟩ := aV h1
    refine bW (vW l5 ((gD f0 i6).At) _ hx10) hO ?_
    intro H hO
    refine aZ ?_
    refine cR [(0, (eL aD f0)), (1, (eL aD g1)), (5, (eL (eI) x9)), (6, (eI i6))] ?_
    refine aI (aX (aG (?_)))
    refine aS aF 3 ?_
    refine aZ ?_
    exact aI (aG (⟨rfl, _, (oI h1).symm, .eq (by kernel_rfl), hO⟩))
  refine cQ 0 ?_
  obtain rfl := oI h1
  obtain rfl : _ = rr0 := ho0
  replace h0 : rK g1 l5 = some r := h0
  exact aI (aR (aR (bH (aG (⟨rfl, _, .eq (by kernel_rfl), hO, h0⟩)))))

theorem RI (f0 : (List aA)) (t1 : Int) (r : ((List aA) × Int)) (h0 : uJ f0 t1 = some r) : bR Tryz.prog 26 [(eL aD f0), (eI t1)] (.tup [(eL aD r.1), (eI r.2)]) := by
  intro H0
  refine cA Tryz.func26 ?_
  have hO := aL.start H0
  unfold uJ at h0
  refine aT aF 2 [] [] ?_
  refine aM ?_
  refine aM ?_
  refine aS aF 3 ?_
  refine bK 1 ?_
  obtain ⟨x1, hx2, h0⟩ := aV h0
  refine bW (xS f0 _ hx2) hO ?_
  intro H hO
  refine aZ ?_
  refine bN [] [(12, (aK (!x1)))] ?_
  refine bE h0 (fun h0 => ?_) (fun h0 => ?_)
  · refine bO aF 2 [(4, (.sl true 0 (fun _ => .bad))), (5, (eI (2 : Int)))] ?_
    refine bG ?_
    refine cB (l := [(4, (eL aD ([]))), (5, (eI (2 : Int)))]) ⟨[(4, (.sl true 0 (fun _ => .bad))), (5, (eI (2 : Int)))], by kernel_rfl, rfl, ⟨cT, aU.refl _, trivial⟩⟩ ?_
    obtain rfl := oI h0
    exact aI (aP (Q_r hO))
  refine bF ?_
  refine bD [(0, (eL aD f0)), (1, (eI t1))] ?_
  refine aM ?_
  refine aS aF 3 ?_
  refine bK 1 ?_
  obtain ⟨x5, hx6, h0⟩ := aV h0
  refine UD 58 [(eL aD f0), (.sl true 0 (fun _ => .bad))] (eL (eI) x5) (bR.sub (GG f0 ([]) _ hx6) ⟨aU.refl _, cT, trivial⟩) hO ?_
  intro H hO
  refine aZ ?_
  refine bN [] [(6, (eL (eI) x5))] ?_
  refine cC (fun T H => ∃ bT : (List Int), Has T [(0, (eL aD f0)), (1, (eI t1)), (6, (eL (eI) bT))] ∧ aL ⟨H0, [], []⟩ H [] ∧ pX f0 t1 bT = some r) ?_ ?_
  · clear hO h0
    rintro T H ⟨bT, hT, hO, h0⟩
    refine aY hT ?_
    clear hT
    unfold pX at h0
    refine aM ?_
    refine aS aF 2 ?_
    refine fE (xs := []) (k := 1) (by kernel_rfl) (by kernel_rfl) ?_
    refine aZ ?_
    refine bN [] [(7, (.sl true 0 (fun _ => .bad)))] ?_
    refine cC (fun T H => ∃ bI : List Int, ∃ lo8 : Nat, Has T [(6, (eL (eI) bT)), (7, (.msl 1 lo8 0 (List.length bI)))] ∧ aL ⟨H0, [], []⟩ H [(lo8, 1, List.map (eI) bI)] ∧ sP bT bI = some r) ?_ ?_
    · clear hO h0
      rintro T H ⟨bI, lo8, hT, hO, h0⟩
      refine aY hT ?_
      clear hT
      unfold sP at h0
      refine aM ?_
      refine aS aF 7 ?_
      refine oR (e := (eI)) bI 0 7 1 lo8 (List.length bI) [] (by kernel_rfl) hO (by kernel_rfl) (by kernel_rfl) (by kernel_rfl) (by kernel_rfl) ?_
      intro H hO
      refine bK 2 ?_
      obtain ⟨x9, hx10, h0⟩ := aV h0
      refine bW (EH bT bI _ hx10) hO ?_
      intro H hO
      refine aZ ?_
      refine bD [(4, (eL aD x9.1)), (5, (eI x9.2))] ?_
      refine bG ?_
      obtain rfl := oI h0
      exact aI (Q_r hO)
    refine aT aF 1 [] [(8, (eI (0 : Int)))] ?_
    refine bP 0 ?_
    refine cP [(0, (eL aD f0)), (1, (eI t1)), (6, (eL (eI) bT)), (7, (.sl true 0 (fun _ => .bad))), (8, (eI (0 : Int)))] ?_
    refine rP (el := (fun _ => .bad)) 3 7 1 hO (by kernel_rfl) ?_
    intro lo24 H25 hO
    refine cE (fun T H => ∃ bI : List Int, ∃ i8 : Int, ∃ lo13 : Nat, Has T [(0, (eL aD f0)), (1, (eI t1)), (6, (eL (eI) bT)), (7, (.msl 1 lo13 0 (List.length bI))), (8, (eI i8))] ∧ aL ⟨H0, [], []⟩ H [(lo13, 1, List.map (eI) bI)] ∧ xA f0 t1 bT bI i8 = some r) ?_ ⟨([] : List Int), (0 : Int), lo24, .eq (by kernel_rfl), hO, h0⟩
    clear hO h0
    rintro T H ⟨bI, i8, lo13, hT, hO, h0⟩
    refine aY hT ?_
    clear hT
    unfold xA at h0
    obtain ⟨rr0, hl0, h0⟩ := aV h0
    refine bU (by kernel_rfl) (fun (s : List Int × Int) T H => ∃ lo13 : Nat, Has T [(0, (eL aD f0)), (1, (eI t1)), (6, (eL (eI) bT)), (7, (.msl 1 lo13 0 (List.length s.1))), (8, (eI s.2))] ∧ aL ⟨H0, [], []⟩ H [(lo13, 1, List.map (eI) s.1)]) hl0 ⟨lo13, .eq (by kernel_rfl), hO⟩ ?_
    clear hO
    rintro k0 s out1 T H ⟨lo13, hT, hO⟩ h1 ho0
    obtain ⟨bI, i8⟩ := s
    replace h1 : mL f0 t1 bT bI i8 = some out1 := h1
    dsimp only at hT
    refine aY hT ?_
    clear hT
    unfold mL at h1
    refine aM ?_
    refine aT aF 4 [] [(28, (aK (decide (i8 < (lN bT)))))] ?_
    refine bE h1 (fun h1 => ?_) (fun h1 => ?_)
    · refine bF ?_
      refine bD [(0, (eL aD f0)), (1, (eI t1)), (6, (eL (eI) bT)), (7, (.msl 1 lo13 0 (List.length bI))), (8, (eI i8))] ?_
      refine aM ?_
      refine bP 1 ?_
      refine aT aF 1 [] [(9, (eI (0 : Int)))] ?_
      refine cC (fun T H => ∃ bI : List Int, ∃ v9 : Int, ∃ lo15 : Nat, Has T [(0, (eL aD f0)), (1, (eI t1)), (6, (eL (eI) bT)), (7, (.msl 1 lo15 0 (List.length bI))), (8, (eI i8)), (9, (eI v9))] ∧ aL ⟨H0, [], []⟩ H [(lo15, 1, List.map (eI) bI)] ∧ sL f0 t1 bT bI i8 v9 = some out1) ?_ ?_
      · clear hO h1
        rintro T H ⟨bI, v9, lo15, hT, hO, h1⟩
        refine aY hT ?_
        clear hT
        unfold sL at h1
        refine aS aF 5 ?_
        refine bK 2 ?_
        refine fE (xs := [(eI v9)]) (k := 1) (by kernel_rfl) (by kernel_rfl) ?_
        obtain ⟨c17, h1⟩ := bA h1
        refine nB (e := (eI)) bI ([v9]) 0 lo15 1 8 (dL [(eI v9)]) (fun lo16 => [(lo16, 1, List.map (eI) (bI ++ ([v9])))]) (by kernel_rfl) (by kernel_rfl) hO (by kernel_rfl) (by kernel_rfl) c17 (fun _ => by kernel_rfl) ?_
        intro lo16 H hO
        refine aZ ?_
        refine cR [(0, (eL aD f0)), (1, (eI t1)), (6, (eL (eI) bT)), (7, (.msl 1 lo16 0 (List.length (bI ++ ([v9]))))), (8, (eI i8))] ?_
        refine aI (aX (aG (?_)))
        refine aS aF 3 ?_
        refine aZ ?_
        exact aI (aG (⟨rfl, _, (oI h1).symm, _, .eq (by kernel_rfl), hO⟩))
      refine aM ?_
      refine aS aF 6 ?_
      obtain ⟨c18, h1⟩ := bA h1
      refine kB [0 ≤ i8 ∧ i8 < (lN bT)] ⟨c18, trivial⟩ ?_
      refine bN [] [(36, (aK (decide ((gD bT i8) < t1))))] ?_
      refine bE h1 (fun h1 => ?_) (fun h1 => ?_)
      · refine aS aF 7 ?_
        obtain ⟨c20, h1⟩ := bA h1
        refine mP 5 [0 ≤ i8 ∧ i8 < (lN bT)] ⟨c20, trivial⟩ ?_
        obtain ⟨x21, hx22, h1⟩ := aV h1
        refine bW (CP f0 (gD bT i8) _ hx22) hO ?_
        intro H hO
        refine aZ ?_
        exact aI (aG (⟨rfl, _, _, _, .eq (by kernel_rfl), hO, h1⟩))
      refine bF ?_
      exact aI (aG (⟨rfl, _, _, _, .eq (by kernel_rfl), hO, h1⟩))
    refine cQ 0 ?_
    obtain rfl := oI h1
    obtain rfl : _ = rr0 := ho0
    replace h0 : sP bT bI = some r := h0
    exact aI (aR (aR (bH (aG (⟨rfl, _, _, .eq (by kernel_rfl), hO, h0⟩)))))
  refine aT aF 6 [] [(20, (aK ((decide ((-1 : Int) ≤ t1)) && (decide (t1 < (1125899906842624 : Int))))))] ?_
  refine bE h0 (fun h0 => ?_) (fun h0 => ?_)
  · refine aS aF 4 ?_
    refine bK 2 ?_
    obtain ⟨x27, hx28, h0⟩ := aV h0
    refine bW (vW x5 t1 _ hx28) hO ?_
    intro H hO
    refine aZ ?_
    exact aI (aG (⟨rfl, _, .eq (by kernel_rfl), hO, h0⟩))
  refine bF ?_
  exact aI (aG (⟨rfl, _, .eq (by kernel_rfl), hO, h0⟩))

theorem UT (f0 : (List aA)) (t1 : Int) (r : ((List aA) × Int)) (h0 : vQ f0 t1 = some r) : bR Tryz.prog 27 [(eL aD f0), (eI t1)] (.tup [(eL aD r.1), (eI r.2)]) := by
  intro H0
  refine cA Tryz.func27 ?_
  have hO := aL.start H0
  unfold vQ at h0
  refine aT aF 2 [] [] ?_
  refine aM ?_
  refine aM ?_
  refine aS aF 3 ?_
  refine bK 1 ?_
  obtain ⟨x1, hx2, h0⟩ := aV h0
  refine bW (xS f0 _ hx2) hO ?_
  intro H hO
  refine aZ ?_
  refine bN [] [(12, (aK (!x1)))] ?_
  refine bE h0 (fun h0 => ?_) (fun h0 => ?_)
  · refine bO aF 2 [(4, (.sl true 0 (fun _ => .bad))), (5, (eI (2 : Int)))] ?_
    refine bG ?_
    refine cB (l := [(4, (eL aD ([]))), (5, (eI (2 : Int)))]) ⟨[(4, (.sl true 0 (fun _ => .bad))), (5, (eI (2 : Int)))], by kernel_rfl, rfl, ⟨cT, aU.refl _, trivial⟩⟩ ?_
    obtain rfl := oI h0
    exact aI (aP (Q_r hO))
  refine bF ?_
  refine bD [(0, (eL aD f0)), (1, (eI t1))] ?_
  refine aM ?_
  refine aT aF 2 [] [(14, (aK (decide ((1125899906842624 : Int) ≤ t1))))] ?_
  refine bE h0 (fun h0 => ?_) (fun h0 => ?_)
  · refine bO aF 2 [(4, (.sl true 0 (fun _ => .bad))), (5, (eI (0 : Int)))] ?_
    refine bG ?_
    refine cB (l := [(4, (eL aD ([]))), (5, (eI (0 : Int)))]) ⟨[(4, (.sl true 0 (fun _ => .bad))), (5, (eI (0 : Int)))], by kernel_rfl, rfl, ⟨cT, aU.refl _, trivial⟩⟩ ?_
    obtain rfl := oI h0
    exact aI (aP (Q_r hO))
  refine bF ?_
  refine bD [(0, (eL aD f0)), (1, (eI t1))] ?_
  refine aM ?_
  refine aS aF 4 ?_
  refine bK 1 ?_
  obtain ⟨x6, hx7, h0⟩ := aV h0
  refine UD 58 [(eL aD f0), (.sl true 0 (fun _ => .bad))] (eL (eI) x6) (bR.sub (GG f0 ([]) _ hx7) ⟨aU.refl _, cT, trivial⟩) hO ?_
  intro H hO
  obtain ⟨x9, hx10, h0⟩ := aV h0
  refine bW (vW x6 (-1 : Int) _ hx10) hO ?_
  intro H hO
  refine aZ ?_
  refine bN [] [(6, (eL (eI) x9))] ?_
  refine aM ?_
  refine aS aF 2 ?_
  refine fE (xs := []) (k := 1) (by kernel_rfl) (by kernel_rfl) ?_
  refine aZ ?_
  refine bN [] [(7, (.sl true 0 (fun _ => .bad)))] ?_
  refine cC (fun T H => ∃ bT : (List Int), ∃ bI : List Int, ∃ lo12 : Nat, Has T [(6, (eL (eI) bT)), (7, (.msl 1 lo12 0 (List.length bI)))] ∧ aL ⟨H0, [], []⟩ H [(lo12, 1, List.map (eI) bI)] ∧ tT bT bI = some r) ?_ ?_
  · clear hO h0
    rintro T H ⟨bT, bI, lo12, hT, hO, h0⟩
    refine aY hT ?_
    clear hT
    unfold tT at h0
    refine aM ?_
    refine aS aF 7 ?_
    refine oR (e := (eI)) bI 0 7 1 lo12 (List.length bI) [] (by kernel_rfl) hO (by kernel_rfl) (by kernel_rfl) (by kernel_rfl) (by kernel_rfl) ?_
    intro H hO
    refine bK 2 ?_
    obtain ⟨x13, hx14, h0⟩ := aV h0
    refine bW (EH bT bI _ hx14) hO ?_
    intro H hO
    refine aZ ?_
    refine bD [(4, (eL aD x13.1)), (5, (eI x13.2))] ?_
    refine bG ?_
    obtain rfl := oI h0
    exact aI (Q_r hO)
  refine aT aF 1 [] [(8, (eI (0 : Int)))] ?_
  refine bP 0 ?_
  refine cP [(0, (eL aD f0)), (1, (eI t1)), (6, (eL (eI) x9)), (7, (.sl true 0 (fun _ => .bad))), (8, (eI (0 : Int)))] ?_
  refine rP (el := (fun _ => .bad)) 3 7 1 hO (by kernel_rfl) ?_
  intro lo27 H28 hO
  refine cE (fun T H => ∃ bT : (List Int), ∃ bI : List Int, ∃ i8 : Int, ∃ lo17 : Nat, Has T [(0, (eL aD f0)), (1, (eI t1)), (6, (eL (eI) bT)), (7, (.msl 1 lo17 0 (List.length bI))), (8, (eI i8))] ∧ aL ⟨H0, [], []⟩ H [(lo17, 1, List.map (eI) bI)] ∧ yQ f0 t1 bT bI i8 = some r) ?_ ⟨x9, ([] : List Int), (0 : Int), lo27, .eq (by kernel_rfl), hO, h0⟩
  clear hO h0
  rintro T H ⟨bT, bI, i8, lo17, hT, hO, h0⟩
  refine aY hT ?_
  clear hT
  unfold yQ at h0
  obtain ⟨rr0, hl0, h0⟩ := aV h0
  refine bU (by kernel_rfl) (fun (s : List Int × Int) T H => ∃ lo17 : Nat, Has T [(0, (eL aD f0)), (1, (eI t1)), (6, (eL (eI) bT)), (7, (.msl 1 lo17 0 (List.length s.1))), (8, (eI s.2))] ∧ aL ⟨H0, [], []⟩ H [(lo17, 1, List.map (eI) s.1)]) hl0 ⟨lo17, .eq (by kernel_rfl), hO⟩ ?_
  clear hO
  rintro k0 s out1 T H ⟨lo17, hT, hO⟩ h1 ho0
  obtain ⟨bI, i8⟩ := s
  replace h1 : nN f0 t1 bT bI i8 = some out1 := h1
  dsimp only at hT
  refine aY hT ?_
  clear hT
  unfold nN at h1
  refine aM ?_
  refine aT aF 4 [] [(22, (aK (decide (i8 < (lN bT)))))] ?_
  refine bE h1 (fun h1 => ?_) (fun h1 => ?_)
  · refine bF ?_
    refine bD [(0, (eL aD f0)), (1, (eI t1)), (6, (eL (eI) bT)), (7, (.msl 1 lo17 0 (List.length bI))), (8, (eI i8))] ?_
    refine aM ?_
    refine bP 1 ?_
    refine aM ?_
    refine aS aF 5 ?_
    obtain ⟨c19, h1⟩ := bA h1
    refine kB [0 ≤ i8 ∧ i8 < (lN bT)] ⟨c19, trivial⟩ ?_
    refine bN [] [(9, (eI (gD bT i8)))] ?_
    refine cC (fun T H => ∃ bI : List Int, ∃ p9 : Int, ∃ lo20 : Nat, Has T [(0, (eL aD f0)), (1, (eI t1)), (6, (eL (eI) bT)), (7, (.msl 1 lo20 0 (List.length bI))), (8, (eI i8)), (9, (eI p9))] ∧ aL ⟨H0, [], []⟩ H [(lo20, 1, List.map (eI) bI)] ∧ tL f0 t1 bT bI i8 p9 = some out1) ?_ ?_
    · clear hO h1
      rintro T H ⟨bI, p9, lo20, hT, hO, h1⟩
      refine aY hT ?_
      clear hT
      unfold tL at h1
      refine aS aF 7 ?_
      refine bK 3 ?_
      obtain ⟨x21, hx22, h1⟩ := aV h1
      refine bW (CP f0 p9 _ hx22) hO ?_
      intro H hO
      refine fE (xs := [(eI x21)]) (k := 1) (by kernel_rfl) (by kernel_rfl) ?_
      obtain ⟨c25, h1⟩ := bA h1
      refine nB (e := (eI)) bI ([x21]) 0 lo20 1 8 (dL [(eI x21)]) (fun lo24 => [(lo24, 1, List.map (eI) (bI ++ ([x21])))]) (by kernel_rfl) (by kernel_rfl) hO (by kernel_rfl) (by kernel_rfl) c25 (fun _ => by kernel_rfl) ?_
      intro lo24 H hO
      refine aZ ?_
      refine cR [(0, (eL aD f0)), (1, (eI t1)), (6, (eL (eI) bT)), (7, (.msl 1 lo24 0 (List.length (bI ++ ([x21]))))), (8, (eI i8))] ?_
      refine aI (aX (aG (?_)))
      refine aS aF 3 ?_
      refine aZ ?_
      exact aI (aG (⟨rfl, _, (oI h1).symm, _, .eq (by kernel_rfl), hO⟩))
    refine aT aF 7 [] [(35, (aK ((decide ((-1 : Int) < t1)) && (decide ((gD bT i8) < t1)))))] ?_
    refine bE h1 (fun h1 => ?_) (fun h1 => ?_)
    · refine aS aF 3 ?_
      refine aZ ?_
      exact aI (aG (⟨rfl, _, _, _, .eq (by kernel_rfl), hO, h1⟩))
    refine bF ?_
    exact aI (aG (⟨rfl, _, _, _, .eq (by kernel_rfl), hO, h1⟩))
  refine cQ 0 ?_
  obtain rfl := oI h1
  obtain rfl : _ = rr0 := ho0
  replace h0 : tT bT bI = some r := h0
  exact aI (aR (aR (bH (aG (⟨rfl, _, _, _, .eq (by kernel_rfl), hO, h0⟩)))))

end Go.Abs
namespace Go.Abs
open Go Go.RowKit Go.Proofs
theorem FL (l0 : (List aC)) (jN : Int) (t2 : Int) (r : ((List aC) × Int)) (h0 : rW l0 jN t2 = some r) : bR Tryz.prog 10 [(eL aE l0), (eI jN), (eI t2)] (.tup [(eL aE r.1), (eI r.2)]) := by
  intro H0
  refine cA Tryz.func10 ?_
  have hO := aL.start H0
  unfold rW at h0
  refine aT aF 2 [] [] ?_
  refine aM ?_
  refine aM ?_
  refine aS aF 3 ?_
  refine bK 1 ?_
  obtain ⟨x1, hx2, h0⟩ := aV h0
  refine bW (FI l0 _ hx2) hO ?_
  intro H hO
  refine aZ ?_
  refine bN [] [(16, (aK (!x1)))] ?_
  refine bE h0 (fun h0 => ?_) (fun h0 => ?_)
  · refine bO aF 2 [(6, (.sl true 0 (fun _ => .bad))), (7, (eI (2 : Int)))] ?_
    refine bG ?_
    refine cB (l := [(6, (eL aE ([]))), (7, (eI (2 : Int)))]) ⟨[(6, (.sl true 0 (fun _ => .bad))), (7, (eI (2 : Int)))], by kernel_rfl, rfl, ⟨cT, aU.refl _, trivial⟩⟩ ?_
    obtain rfl := oI h0
    exact aI (aP (Q_r hO))
  refine bF ?_
  refine bD [(0, (eL aE l0)), (1, (eI jN)), (2, (eI t2))] ?_
  refine aM ?_
  refine aS aF 2 ?_
  refine fE (xs := []) (k := 3) (by kernel_rfl) (by kernel_rfl) ?_
  refine aZ ?_
  refine bN [] [(8, (.sl true 0 (fun _ => .bad)))] ?_
  refine aM ?_
  refine aS aF 3 ?_
  refine bK 1 ?_
  obtain ⟨x5, hx6, h0⟩ := aV h0
  refine bW (DS l0 _ hx6) hO ?_
  intro H hO
  refine aZ ?_
  refine bN [] [(9, (eL (eL aJ) x5))] ?_
  refine cC (fun T H => ∃ out8 : List aC, ∃ lo8 : Nat, Has T [(8, (.msl 3 lo8 0 (List.length out8)))] ∧ aL ⟨H0, [], []⟩ H [(lo8, 3, List.map aE out8)] ∧ sO out8 = some r) ?_ ?_
  · clear hO h0
    rintro T H ⟨out8, lo8, hT, hO, h0⟩
    refine aY hT ?_
    clear hT
    unfold sO at h0
    refine aM ?_
    refine aT aF 3 [] [(65, (aK (decide ((4096 : Int) < (lN out8)))))] ?_
    refine bE h0 (fun h0 => ?_) (fun h0 => ?_)
    · refine aM ?_
      refine aS aF 2 ?_
      refine aZ ?_
      refine cR [(6, (.sl true 0 (fun _ => .bad))), (7, (eI (7 : Int)))] ?_
      replace hO := hO.pick (L' := []) [] (by decide) (by kernel_rfl)
      refine aI (aG (?_))
      refine bG ?_
      refine cB (l := [(6, (eL aE ([]))), (7, (eI (7 : Int)))]) ⟨[(6, (.sl true 0 (fun _ => .bad))), (7, (eI (7 : Int)))], by kernel_rfl, rfl, ⟨cT, aU.refl _, trivial⟩⟩ ?_
      obtain rfl := oI h0
      exact aI (aP (Q_r hO))
    refine bF ?_
    refine bD [(8, (.msl 3 lo8 0 (List.length out8)))] ?_
    refine bO aF 3 [(6, (.msl 3 lo8 0 (List.length out8))), (7, (eI (0 : Int)))] ?_
    refine bG ?_
    refine cR [(6, (.msl 3 lo8 0 (List.length out8))), (7, (eI (0 : Int)))] ?_
    refine pR (en := aE) out8 0 0 6 3 lo8 (List.length out8) hO (by kernel_rfl) (by kernel_rfl) (by kernel_rfl) (L' := []) (by kernel_rfl) ?_
    intro H10 hO
    obtain rfl := oI h0
    exact aI (Q_r hO)
  refine aT aF 1 [] [(10, (eI (0 : Int)))] ?_
  refine bP 0 ?_
  refine cP [(0, (eL aE l0)), (1, (eI jN)), (2, (eI t2)), (8, (.sl true 0 (fun _ => .bad))), (9, (eL (eL aJ) x5)), (10, (eI (0 : Int)))] ?_
  refine rP (el := (fun _ => .bad)) 3 8 3 hO (by kernel_rfl) ?_
  intro lo36 H37 hO
  refine cE (fun T H => ∃ out8 : List aC, ∃ iB : (List (List aH)), ∃ i10 : Int, ∃ lo12 : Nat, Has T [(0, (eL aE l0)), (1, (eI jN)), (2, (eI t2)), (8, (.msl 3 lo12 0 (List.length out8))), (9, (eL (eL aJ) iB)), (10, (eI i10))] ∧ aL ⟨H0, [], []⟩ H [(lo12, 3, List.map aE out8)] ∧ zW l0 jN t2 out8 iB i10 = some r) ?_ ⟨([] : List aC), x5, (0 : Int), lo36, .eq (by kernel_rfl), hO, h0⟩
  clear hO h0
  rintro T H ⟨out8, iB, i10, lo12, hT, hO, h0⟩
  refine aY hT ?_
  clear hT
  unfold zW at h0
  obtain ⟨rr0, hl0, h0⟩ := aV h0
  refine bU (by kernel_rfl) (fun (s : List aC × Int) T H => ∃ lo12 : Nat, Has T [(0, (eL aE l0)), (1, (eI jN)), (2, (eI t2)), (8, (.msl 3 lo12 0 (List.length s.1))), (9, (eL (eL aJ) iB)), (10, (eI s.2))] ∧ aL ⟨H0, [], []⟩ H [(lo12, 3, List.map aE s.1)]) hl0 ⟨lo12, .eq (by kernel_rfl), hO⟩ ?_
  clear hO
  rintro k0 s out1 T H ⟨lo12, hT, hO⟩ h1 ho0
  obtain ⟨out8, i10⟩ := s
  replace h1 : oN l0 jN t2 iB out8 i10 = some out1 := h1
  dsimp only at hT
  refine aY hT ?_
  clear hT
  unfold oN at h1
  refine aM ?_
  refine aT aF 4 [] [(23, (aK (decide (i10 < (lN iB)))))] ?_
  refine bE h1 (fun h1 => ?_) (fun h1 => ?_)
  · refine bF ?_
    refine bD [(0, (eL aE l0)), (1, (eI jN)), (2, (eI t2)), (8, (.msl 3 lo12 0 (List.length out8))), (9, (eL (eL aJ) iB)), (10, (eI i10))] ?_
    refine aM ?_
    refine bP 1 ?_
    refine aM ?_
    refine aS aF 7 ?_
    obtain ⟨c14, h1⟩ := bA h1
    refine mP 5 [0 ≤ i10 ∧ i10 < (lN iB)] ⟨c14, trivial⟩ ?_
    obtain ⟨x15, hx16, h1⟩ := aV h1
    refine bW (CT l0 (gD iB i10) _ hx16) hO ?_
    intro H hO
    refine aZ ?_
    refine bN [] [(11, (eL aD x15))] ?_
    refine aM ?_
    refine aS aF 7 ?_
    refine bK 1 ?_
    obtain ⟨x18, hx19, h1⟩ := aV h1
    refine bW (XP x15 _ hx19) hO ?_
    intro H hO
    refine aZ ?_
    refine bN [] [(12, (eL aD x18.1)), (13, (eI x18.2))] ?_
    refine cC (fun T H => ∃ out8 : List aC, ∃ f11 : (List aA), ∃ g12 : (List aA), ∃ e13 : Int, ∃ lo21 : Nat, Has T [(0, (eL aE l0)), (1, (eI jN)), (2, (eI t2)), (8, (.msl 3 lo21 0 (List.length out8))), (9, (eL (eL aJ) iB)), (10, (eI i10)), (11, (eL aD f11)), (12, (eL aD g12)), (13, (eI e13))] ∧ aL ⟨H0, [], []⟩ H [(lo21, 3, List.map aE out8)] ∧ wB l0 jN t2 out8 iB i10 f11 g12 e13 = some out1) ?_ ?_
    · clear hO h1
      rintro T H ⟨out8, f11, g12, e13, lo21, hT, hO, h1⟩
      refine aY hT ?_
      clear hT
      unfold wB at h1
      refine cC (fun T H => ∃ out8 : List aC, ∃ g12 : (List aA), ∃ e13 : Int, ∃ lo22 : Nat, Has T [(0, (eL aE l0)), (1, (eI jN)), (2, (eI t2)), (8, (.msl 3 lo22 0 (List.length out8))), (9, (eL (eL aJ) iB)), (10, (eI i10)), (12, (eL aD g12)), (13, (eI e13))] ∧ aL ⟨H0, [], []⟩ H [(lo22, 3, List.map aE out8)] ∧ sS l0 jN t2 out8 iB i10 g12 e13 = some out1) ?_ ?_
      · clear hO h1
        rintro T H ⟨out8, g12, e13, lo22, hT, hO, h1⟩
        refine aY hT ?_
        clear hT
        unfold sS at h1
        refine aM ?_
        refine aT aF 2 [] [(54, (aK (!decide (e13 = (0 : Int)))))] ?_
        refine bE h1 (fun h1 => ?_) (fun h1 => ?_)
        · refine aM ?_
          refine aS aF 3 ?_
          refine aZ ?_
          refine cR [(6, (.sl true 0 (fun _ => .bad))), (7, (eI e13))] ?_
          replace hO := hO.pick (L' := []) [] (by decide) (by kernel_rfl)
          refine aI (aG (?_))
          refine bG ?_
          refine cB (l := [(6, (eL aE ([]))), (7, (eI e13))]) ⟨[(6, (.sl true 0 (fun _ => .bad))), (7, (eI e13))], by kernel_rfl, rfl, ⟨cT, aU.refl _, trivial⟩⟩ ?_
          obtain rfl := oI h1
          obtain rfl : _ = rr0 := ho0
          replace h0 : some ([], e13) = some r := h0
          obtain rfl := oI h0
          exact aI (aP (bL (aP (aP (bL (aP (Q_r hO)))))))
        refine bF ?_
        refine bD [(0, (eL aE l0)), (1, (eI jN)), (2, (eI t2)), (8, (.msl 3 lo22 0 (List.length out8))), (9, (eL (eL aJ) iB)), (10, (eI i10)), (12, (eL aD g12))] ?_
        refine aS aF 8 ?_
        obtain ⟨c24, h1⟩ := bA h1
        refine mP 6 [0 ≤ i10 ∧ i10 < (lN iB)] ⟨c24, trivial⟩ ?_
        obtain ⟨x25, hx26, h1⟩ := aV h1
        refine PK (L' := fun lo27 => [(lo27, 3, List.map aE x25)]) 0 lo22 3 (List.map aE out8) (List.map aE x25) 28 [(.msl 3 lo22 0 (List.length out8)), (eL aJ (gD iB i10)), (eL aD g12)] (fun lo27 => (.msl 3 lo27 0 (List.length x25))) (by kernel_rfl) (by kernel_rfl) (KZ lo22 out8 (gD iB i10) g12 _ hx26) hO (by kernel_rfl) (fun _ => by kernel_rfl) ?_
        intro lo27 H hO
        refine aZ ?_
        refine cR [(0, (eL aE l0)), (1, (eI jN)), (2, (eI t2)), (8, (.msl 3 lo27 0 (List.length x25))), (9, (eL (eL aJ) iB)), (10, (eI i10))] ?_
        refine aI (aX (aG (?_)))
        refine aS aF 3 ?_
        refine aZ ?_
        exact aI (aG (⟨rfl, _, (oI h1).symm, _, .eq (by kernel_rfl), hO⟩))
      refine aT aF 2 [] [(46, (aK (decide (jN = (2 : Int)))))] ?_
      refine bE h1 (fun h1 => ?_) (fun h1 => ?_)
      · refine aS aF 8 ?_
        refine bK 2 ?_
        obtain ⟨x29, hx30, h1⟩ := aV h1
        refine bW (UT f11 t2 _ hx30) hO ?_
        intro H hO
        refine aZ ?_
        exact aI (aG (⟨rfl, _, _, _, _, .eq (by kernel_rfl), hO, h1⟩))
      refine bF ?_
      exact aI (aG (⟨rfl, _, _, _, _, .eq (by kernel_rfl), hO, h1⟩))
    refine aT aF 2 [] [(38, (aK (decide (jN = (1 : Int)))))] ?_
    refine bE h1 (fun h1 => ?_) (fun h1 => ?_)
    · refine aS aF 8 ?_
      refine bK 2 ?_
      obtain ⟨x33, hx34, h1⟩ := aV h1
      refine bW (RI x15 t2 _ hx34) hO ?_
      intro H hO
      refine aZ ?_
      exact aI (aG (⟨rfl, _, _, _, _, _, .eq (by kernel_rfl), hO, h1⟩))
    refine bF ?_
    exact aI (aG (⟨rfl, _, _, _, _, _, .eq (by kernel_rfl), hO, h1⟩))
  refine cQ 0 ?_
  obtain rfl := oI h1
  obtain rfl : _ = rr0 := ho0
  replace h0 : sO out8 = some r := h0
  exact aI (aR (aR (bH (aG (⟨rfl, _, _, .eq (by kernel_rfl), hO, h0⟩)))))

end Go.Abs
