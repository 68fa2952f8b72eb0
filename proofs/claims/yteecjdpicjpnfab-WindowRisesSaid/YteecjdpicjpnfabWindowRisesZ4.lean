/- What the law WindowRises stands on: the framework, the given functions as plain functions, their walks, and the plain laws; part 4. -/
import Derived.Test.YteecjdpicjpnfabWindowRisesZ3
set_option linter.unusedSimpArgs false
set_option linter.unusedVariables false
namespace Go.Abs
open Go Go.RowKit Go.Proofs
theorem AD (lo0p : Nat) (aA : (List Int)) (a1 : Int) (b2 : Int) (r : List Int) (h0 : kB aA a1 b2 = some r) : qP Try.prog 76 lo0p 1 (List.map (eI) aA) (List.map (eI) r) [(.msl 1 lo0p 0 (List.length aA)), (eI a1), (eI b2)] (.tup []) := by
  intro H0 hl0
  refine cY Try.func76 ?_
  have hO := aM.sH hl0
  clear hl0
  obtain ⟨N0, hN0⟩ : ∃ n, n = List.length aA := ⟨_, rfl⟩
  have hN : List.length aA = N0 := hN0.symm
  unfold kB at h0
  refine aX aB 2 [] [(6, (eI a1))] ?_
  refine aX aB 1 [] [(7, (eI (0 : Int)))] ?_
  refine aX aB 4 [1, 2] [(8, (eI (wR (b2 - a1))))] ?_
  refine eV (fun T H => ∃ aA : List Int, ∃ bS : Int, ∃ lo7 : Int, ∃ hi8 : Int, Has T [(0, (.msl 1 lo0p 0 (List.length aA))), (6, (eI bS)), (7, (eI lo7)), (8, (eI hi8))] ∧ aM ⟨H0, [lo0p], []⟩ H [(lo0p, 1, List.map (eI) aA)] ∧ List.length aA = N0 ∧ jO aA bS lo7 hi8 = some r) ?_ ?_
  · clear hO hN h0
    rintro T H ⟨aA, bS, lo7, hi8, hT, hO, hN, h0⟩
    refine bF hT ?_
    clear hT
    unfold jO at h0
    refine aX aB 3 [8] [(10, (eI (wR (hi8 - (1 : Int)))))] ?_
    refine bW 2 ?_
    refine eE [(0, (.msl 1 lo0p 0 (List.length aA))), (6, (eI bS)), (7, (eI lo7)), (10, (eI (wR (hi8 - (1 : Int)))))] ?_
    refine eH (fun T H => ∃ aA : List Int, ∃ i10 : Int, Has T [(0, (.msl 1 lo0p 0 (List.length aA))), (6, (eI bS)), (7, (eI lo7)), (10, (eI i10))] ∧ aM ⟨H0, [lo0p], []⟩ H [(lo0p, 1, List.map (eI) aA)] ∧ List.length aA = N0 ∧ lI aA bS lo7 i10 = some r) ?_ ⟨aA, wR (hi8 - (1 : Int)), .eq (by kernel_rfl), hO, hN, h0⟩
    clear hO hN h0
    rintro T H ⟨aA, i10, hT, hO, hN, h0⟩
    refine bF hT ?_
    clear hT
    unfold lI at h0
    obtain ⟨rr0, hl0, h0⟩ := aW h0
    refine dM (by kernel_rfl) (fun (s : List Int × Int) T H => Has T [(0, (.msl 1 lo0p 0 (List.length s.1))), (6, (eI bS)), (7, (eI lo7)), (10, (eI s.2))] ∧ aM ⟨H0, [lo0p], []⟩ H [(lo0p, 1, List.map (eI) s.1)] ∧ List.length s.1 = N0) hl0 ⟨.eq (by kernel_rfl), hO, hN⟩ ?_
    clear hO hN
    rintro k0 s out1 T H ⟨hT, hO, hN⟩ h1 ho0
    obtain ⟨aA, i10⟩ := s
    replace h1 : eF bS lo7 aA i10 = some out1 := h1
    try dsimp only at hT
    refine bF hT ?_
    clear hT
    unfold eF at h1
    refine aO ?_
    refine aX aB 2 [] [(30, (aE (decide ((0 : Int) ≤ i10))))] ?_
    refine bJ h1 (fun h1 => ?_) (fun h1 => ?_)
    · refine bM ?_
      refine bB [(0, (.msl 1 lo0p 0 (List.length aA))), (6, (eI bS)), (7, (eI lo7)), (10, (eI i10))] ?_
      refine aO ?_
      refine bW 3 ?_
      refine aO ?_
      refine fX (fZ []) aB 20 ?_
      obtain ⟨c2, h1⟩ := bA h1
      refine cJ 11 [0 ≤ (wR (bS + i10)) ∧ (wR (bS + i10)) < (lN aA)] ⟨c2, trivial⟩ ?_
      refine fU 0 lo0p 1 (0 + Int.toNat (wR (bS + i10))) (eI (gD aA (wR (bS + i10)))) (eI (gD aA (wR (bS + i10)))) (List.map (eI) aA) hO (bZ c2) ?_
      obtain ⟨c3, h1⟩ := bA h1
      refine cJ 15 [0 ≤ bS ∧ bS < (lN aA)] ⟨c3, trivial⟩ ?_
      refine fU 0 lo0p 1 (0 + Int.toNat bS) (eI (gD aA bS)) (eI (gD aA bS)) (List.map (eI) aA) hO (bZ c3) ?_
      obtain ⟨c4, h1⟩ := bA h1
      refine cJ 17 [0 ≤ bS ∧ bS < (lN aA)] ⟨c4, trivial⟩ ?_
      refine kS 0 lo0p 1 (0 + Int.toNat bS) (eI (gD aA bS)) (eI (gD aA (wR (bS + i10)))) (List.map (eI) aA) [(lo0p, 1, List.map (eI) (List.set aA (Int.toNat bS) (gD aA (wR (bS + i10)))))] hO (bZ c4) (by simp only [List.set, iH]) ?_
      intro H hO
      replace hN : List.length (List.set aA (Int.toNat bS) (gD aA (wR (bS + i10)))) = N0 := by simpa using hN
      obtain ⟨c5, h1⟩ := bA h1
      refine cJ 19 [0 ≤ (wR (bS + i10)) ∧ (wR (bS + i10)) < (lN aA)] ⟨c5, trivial⟩ ?_
      refine kS 0 lo0p 1 (0 + Int.toNat (wR (bS + i10))) (eI (gD (List.set aA (Int.toNat bS) (gD aA (wR (bS + i10)))) (wR (bS + i10)))) (eI (gD aA bS)) (List.map (eI) (List.set aA (Int.toNat bS) (gD aA (wR (bS + i10))))) [(lo0p, 1, List.map (eI) (List.set (List.set aA (Int.toNat bS) (gD aA (wR (bS + i10)))) (Int.toNat (wR (bS + i10))) (gD aA bS)))] hO (nY c5 (by simp [])) (by simp only [List.set, iH]) ?_
      intro H hO
      replace hN : List.length (List.set (List.set aA (Int.toNat bS) (gD aA (wR (bS + i10)))) (Int.toNat (wR (bS + i10))) (gD aA bS)) = N0 := by simpa using hN
      refine nE (by kernel_rfl) ?_
      refine dH (l := [(0, (.msl 1 lo0p 0 (List.length (List.set (List.set aA (Int.toNat bS) (gD aA (wR (bS + i10)))) (Int.toNat (wR (bS + i10))) (gD aA bS))))), (6, (eI bS)), (7, (eI lo7)), (10, (eI i10))]) ⟨[(0, (.msl 1 lo0p 0 (List.length aA))), (6, (eI bS)), (7, (eI lo7)), (10, (eI i10))], by kernel_rfl, rfl, ⟨aQ.eq (by simp []), aQ.refl _, aQ.refl _, aQ.refl _, trivial⟩⟩ ?_
      refine aF (aH (?_))
      refine aS aB 5 ?_
      refine bE 4 ?_
      obtain ⟨x6, hx7, h1⟩ := aW h1
      refine yC [(lo0p, 1, List.map (eI) x6)] 0 (sW lo0p (List.set (List.set aA (Int.toNat bS) (gD aA (wR (bS + i10)))) (Int.toNat (wR (bS + i10))) (gD aA bS)) lo7 i10 bS _ hx7) hO ?_
      intro H hO hl8
      simp only [List.length_map] at hl8
      replace hN := hl8.trans hN
      refine cX ?_
      refine dH (l := [(0, (.msl 1 lo0p 0 (List.length x6))), (6, (eI bS)), (7, (eI lo7)), (10, (eI i10))]) ⟨[(0, (.msl 1 lo0p 0 (List.length (List.set (List.set aA (Int.toNat bS) (gD aA (wR (bS + i10)))) (Int.toNat (wR (bS + i10))) (gD aA bS))))), (6, (eI bS)), (7, (eI lo7)), (10, (eI i10))], by kernel_rfl, rfl, ⟨aQ.eq (by simp [hl8]), aQ.refl _, aQ.refl _, aQ.refl _, trivial⟩⟩ ?_
      refine aF (aV (aH (?_)))
      refine aS aB 3 ?_
      refine aZ ?_
      exact aF (aH (⟨rfl, _, (oI h1).symm, .eq (by kernel_rfl), hO, hN⟩))
    refine gG 2 ?_
    obtain rfl := oI h1
    obtain rfl : _ = rr0 := ho0
    replace h0 : some aA = some r := h0
    obtain rfl := oI h0
    exact aF (aY (aY (bU (xY (x := (.tup [])) (by kernel_rfl) (aQ.refl _) ⟨rfl, hO.ext, hO.at 0 (by kernel_rfl), by first | rfl | (simp only [List.length_map]; exact hN.trans hN0)⟩))))
  refine aO ?_
  refine aS aB 4 ?_
  obtain ⟨c9, h0⟩ := bA h0
  refine qK [(2 : Int) ≠ 0] ⟨c9, trivial⟩ ?_
  refine bO [] [(9, (eI (wR (Int.tdiv (wR ((wR (b2 - a1)) - (1 : Int))) (2 : Int)))))] ?_
  refine bW 0 ?_
  refine eE [(0, (.msl 1 lo0p 0 (List.length aA))), (6, (eI a1)), (7, (eI (0 : Int))), (8, (eI (wR (b2 - a1)))), (9, (eI (wR (Int.tdiv (wR ((wR (b2 - a1)) - (1 : Int))) (2 : Int)))))] ?_
  refine eH (fun T H => ∃ aA : List Int, ∃ bS : Int, ∃ lo7 : Int, ∃ hi8 : Int, ∃ i9 : Int, Has T [(0, (.msl 1 lo0p 0 (List.length aA))), (6, (eI bS)), (7, (eI lo7)), (8, (eI hi8)), (9, (eI i9))] ∧ aM ⟨H0, [lo0p], []⟩ H [(lo0p, 1, List.map (eI) aA)] ∧ List.length aA = N0 ∧ lK aA bS lo7 hi8 i9 = some r) ?_ ⟨aA, a1, (0 : Int), wR (b2 - a1), wR (Int.tdiv (wR ((wR (b2 - a1)) - (1 : Int))) (2 : Int)), .eq (by kernel_rfl), hO, hN, h0⟩
  clear hO hN h0
  rintro T H ⟨aA, bS, lo7, hi8, i9, hT, hO, hN, h0⟩
  refine bF hT ?_
  clear hT
  unfold lK at h0
  obtain ⟨rr0, hl0, h0⟩ := aW h0
  refine dM (by kernel_rfl) (fun (s : List Int × Int) T H => Has T [(0, (.msl 1 lo0p 0 (List.length s.1))), (6, (eI bS)), (7, (eI lo7)), (8, (eI hi8)), (9, (eI s.2))] ∧ aM ⟨H0, [lo0p], []⟩ H [(lo0p, 1, List.map (eI) s.1)] ∧ List.length s.1 = N0) hl0 ⟨.eq (by kernel_rfl), hO, hN⟩ ?_
  clear hO hN
  rintro k0 s out1 T H ⟨hT, hO, hN⟩ h1 ho0
  obtain ⟨aA, i9⟩ := s
  replace h1 : eG bS lo7 hi8 aA i9 = some out1 := h1
  try dsimp only at hT
  refine bF hT ?_
  clear hT
  unfold eG at h1
  refine aO ?_
  refine aX aB 2 [] [(19, (aE (decide ((0 : Int) ≤ i9))))] ?_
  refine bJ h1 (fun h1 => ?_) (fun h1 => ?_)
  · refine bM ?_
    refine bB [(0, (.msl 1 lo0p 0 (List.length aA))), (6, (eI bS)), (7, (eI lo7)), (8, (eI hi8)), (9, (eI i9))] ?_
    refine aO ?_
    refine bW 1 ?_
    refine aS aB 5 ?_
    refine bE 4 ?_
    obtain ⟨x11, hx12, h1⟩ := aW h1
    refine yC [(lo0p, 1, List.map (eI) x11)] 0 (sW lo0p aA i9 hi8 bS _ hx12) hO ?_
    intro H hO hl13
    simp only [List.length_map] at hl13
    replace hN := hl13.trans hN
    refine cX ?_
    refine dH (l := [(0, (.msl 1 lo0p 0 (List.length x11))), (6, (eI bS)), (7, (eI lo7)), (8, (eI hi8)), (9, (eI i9))]) ⟨[(0, (.msl 1 lo0p 0 (List.length aA))), (6, (eI bS)), (7, (eI lo7)), (8, (eI hi8)), (9, (eI i9))], by kernel_rfl, rfl, ⟨aQ.eq (by simp [hl13]), aQ.refl _, aQ.refl _, aQ.refl _, aQ.refl _, trivial⟩⟩ ?_
    refine aF (aV (aH (?_)))
    refine aS aB 3 ?_
    refine aZ ?_
    exact aF (aH (⟨rfl, _, (oI h1).symm, .eq (by kernel_rfl), hO, hN⟩))
  refine gG 0 ?_
  obtain rfl := oI h1
  obtain rfl : _ = rr0 := ho0
  replace h0 : jO aA bS lo7 hi8 = some r := h0
  exact aF (aY (aY (bU (aH (⟨rfl, _, _, _, _, .eq (by kernel_rfl), hO, hN, h0⟩)))))

theorem DG (FD : Int) (r : Int) (h0 : mA FD = some r) : dF Try.prog 94 [(eI FD)] (cQ .u64 r) := by
  intro H0
  refine cY Try.func94 ?_
  have hO := aM.start H0
  unfold mA at h0
  refine aX aB 1 [] [] ?_
  refine aO ?_
  refine aS aB 5 ?_
  refine bE 2 ?_
  obtain ⟨x1, hx2, h0⟩ := aW h0
  refine cW (DX (IntKind.u64.wrap FD) _ hx2) hO ?_
  intro H hO
  obtain ⟨c4, h0⟩ := bA h0
  refine qK [0 ≤ x1] ⟨c4, trivial⟩ ?_
  refine bB [(2, (cQ .u64 (IntKind.u64.wrap ((1 : Int) * 2 ^ (min (Int.toNat x1) 64)))))] ?_
  refine bH ?_
  obtain rfl := oI h0
  exact aF (Q_r hO)

theorem EL (lo0p : Nat) (r0 : Int) (r : (Int × Int)) (h0 : mI r0 = some r) : JY Try.prog 95 [(.lp lo0p 0 0)] [(lo0p, 1, [(cQ .u64 r0)])] (fun x L => x = (cQ .u64 r.1) ∧ L = [(lo0p, 1, [(cQ .u64 r.2)])]) := by
  intro F H0 hO
  obtain ⟨Fh, Fe, Fg⟩ := F
  refine cY Try.func95 ?_
  unfold mI at h0
  refine aX aB 1 [] [] ?_
  refine aO ?_
  refine fX (fZ []) aB 10 ?_
  refine kE 2 ?_
  refine fU 0 lo0p 1 0 (cQ .u64 r0) (cQ .u64 r0) [(cQ .u64 r0)] hO rfl ?_
  refine kE 5 ?_
  refine fU 0 lo0p 1 0 (cQ .u64 r0) (cQ .u64 r0) [(cQ .u64 r0)] hO rfl ?_
  obtain ⟨c1, h0⟩ := bA h0
  refine cJ 9 [0 ≤ (13 : Int)] ⟨c1, trivial⟩ ?_
  refine kS 0 lo0p 1 0 (cQ .u64 r0) (cQ .u64 (bR .xor .u64 r0 (IntKind.u64.wrap (r0 * 2 ^ (min (Int.toNat (13 : Int)) 64))))) [(cQ .u64 r0)] [(lo0p, 1, [(cQ .u64 (bR .xor .u64 r0 (IntKind.u64.wrap (r0 * 2 ^ (min (Int.toNat (13 : Int)) 64)))))])] hO rfl (by kernel_rfl) ?_
  intro H hO
  refine nE (by kernel_rfl) ?_
  refine bO [] [] ?_
  refine aO ?_
  refine fX (fZ []) aB 10 ?_
  refine kE 2 ?_
  refine fU 0 lo0p 1 0 (cQ .u64 (bR .xor .u64 r0 (IntKind.u64.wrap (r0 * 2 ^ (min (Int.toNat (13 : Int)) 64))))) (cQ .u64 (bR .xor .u64 r0 (IntKind.u64.wrap (r0 * 2 ^ (min (Int.toNat (13 : Int)) 64))))) [(cQ .u64 (bR .xor .u64 r0 (IntKind.u64.wrap (r0 * 2 ^ (min (Int.toNat (13 : Int)) 64)))))] hO rfl ?_
  refine kE 5 ?_
  refine fU 0 lo0p 1 0 (cQ .u64 (bR .xor .u64 r0 (IntKind.u64.wrap (r0 * 2 ^ (min (Int.toNat (13 : Int)) 64))))) (cQ .u64 (bR .xor .u64 r0 (IntKind.u64.wrap (r0 * 2 ^ (min (Int.toNat (13 : Int)) 64))))) [(cQ .u64 (bR .xor .u64 r0 (IntKind.u64.wrap (r0 * 2 ^ (min (Int.toNat (13 : Int)) 64)))))] hO rfl ?_
  obtain ⟨c2, h0⟩ := bA h0
  refine cJ 9 [0 ≤ (7 : Int)] ⟨c2, trivial⟩ ?_
  refine kS 0 lo0p 1 0 (cQ .u64 (bR .xor .u64 r0 (IntKind.u64.wrap (r0 * 2 ^ (min (Int.toNat (13 : Int)) 64))))) (cQ .u64 (bR .xor .u64 (bR .xor .u64 r0 (IntKind.u64.wrap (r0 * 2 ^ (min (Int.toNat (13 : Int)) 64)))) (Int.fdiv (bR .xor .u64 r0 (IntKind.u64.wrap (r0 * 2 ^ (min (Int.toNat (13 : Int)) 64)))) (2 ^ (min (Int.toNat (7 : Int)) 64))))) [(cQ .u64 (bR .xor .u64 r0 (IntKind.u64.wrap (r0 * 2 ^ (min (Int.toNat (13 : Int)) 64)))))] [(lo0p, 1, [(cQ .u64 (bR .xor .u64 (bR .xor .u64 r0 (IntKind.u64.wrap (r0 * 2 ^ (min (Int.toNat (13 : Int)) 64)))) (Int.fdiv (bR .xor .u64 r0 (IntKind.u64.wrap (r0 * 2 ^ (min (Int.toNat (13 : Int)) 64)))) (2 ^ (min (Int.toNat (7 : Int)) 64)))))])] hO rfl (by kernel_rfl) ?_
  intro H hO
  refine nE (by kernel_rfl) ?_
  refine bO [] [] ?_
  refine aO ?_
  refine fX (fZ []) aB 10 ?_
  refine kE 2 ?_
  refine fU 0 lo0p 1 0 (cQ .u64 (bR .xor .u64 (bR .xor .u64 r0 (IntKind.u64.wrap (r0 * 2 ^ (min (Int.toNat (13 : Int)) 64)))) (Int.fdiv (bR .xor .u64 r0 (IntKind.u64.wrap (r0 * 2 ^ (min (Int.toNat (13 : Int)) 64)))) (2 ^ (min (Int.toNat (7 : Int)) 64))))) (cQ .u64 (bR .xor .u64 (bR .xor .u64 r0 (IntKind.u64.wrap (r0 * 2 ^ (min (Int.toNat (13 : Int)) 64)))) (Int.fdiv (bR .xor .u64 r0 (IntKind.u64.wrap (r0 * 2 ^ (min (Int.toNat (13 : Int)) 64)))) (2 ^ (min (Int.toNat (7 : Int)) 64))))) [(cQ .u64 (bR .xor .u64 (bR .xor .u64 r0 (IntKind.u64.wrap (r0 * 2 ^ (min (Int.toNat (13 : Int)) 64)))) (Int.fdiv (bR .xor .u64 r0 (IntKind.u64.wrap (r0 * 2 ^ (min (Int.toNat (13 : Int)) 64)))) (2 ^ (min (Int.toNat (7 : Int)) 64)))))] hO rfl ?_
  refine kE 5 ?_
  refine fU 0 lo0p 1 0 (cQ .u64 (bR .xor .u64 (bR .xor .u64 r0 (IntKind.u64.wrap (r0 * 2 ^ (min (Int.toNat (13 : Int)) 64)))) (Int.fdiv (bR .xor .u64 r0 (IntKind.u64.wrap (r0 * 2 ^ (min (Int.toNat (13 : Int)) 64)))) (2 ^ (min (Int.toNat (7 : Int)) 64))))) (cQ .u64 (bR .xor .u64 (bR .xor .u64 r0 (IntKind.u64.wrap (r0 * 2 ^ (min (Int.toNat (13 : Int)) 64)))) (Int.fdiv (bR .xor .u64 r0 (IntKind.u64.wrap (r0 * 2 ^ (min (Int.toNat (13 : Int)) 64)))) (2 ^ (min (Int.toNat (7 : Int)) 64))))) [(cQ .u64 (bR .xor .u64 (bR .xor .u64 r0 (IntKind.u64.wrap (r0 * 2 ^ (min (Int.toNat (13 : Int)) 64)))) (Int.fdiv (bR .xor .u64 r0 (IntKind.u64.wrap (r0 * 2 ^ (min (Int.toNat (13 : Int)) 64)))) (2 ^ (min (Int.toNat (7 : Int)) 64)))))] hO rfl ?_
  obtain ⟨c3, h0⟩ := bA h0
  refine cJ 9 [0 ≤ (17 : Int)] ⟨c3, trivial⟩ ?_
  refine kS 0 lo0p 1 0 (cQ .u64 (bR .xor .u64 (bR .xor .u64 r0 (IntKind.u64.wrap (r0 * 2 ^ (min (Int.toNat (13 : Int)) 64)))) (Int.fdiv (bR .xor .u64 r0 (IntKind.u64.wrap (r0 * 2 ^ (min (Int.toNat (13 : Int)) 64)))) (2 ^ (min (Int.toNat (7 : Int)) 64))))) (cQ .u64 (bR .xor .u64 (bR .xor .u64 (bR .xor .u64 r0 (IntKind.u64.wrap (r0 * 2 ^ (min (Int.toNat (13 : Int)) 64)))) (Int.fdiv (bR .xor .u64 r0 (IntKind.u64.wrap (r0 * 2 ^ (min (Int.toNat (13 : Int)) 64)))) (2 ^ (min (Int.toNat (7 : Int)) 64)))) (IntKind.u64.wrap ((bR .xor .u64 (bR .xor .u64 r0 (IntKind.u64.wrap (r0 * 2 ^ (min (Int.toNat (13 : Int)) 64)))) (Int.fdiv (bR .xor .u64 r0 (IntKind.u64.wrap (r0 * 2 ^ (min (Int.toNat (13 : Int)) 64)))) (2 ^ (min (Int.toNat (7 : Int)) 64)))) * 2 ^ (min (Int.toNat (17 : Int)) 64))))) [(cQ .u64 (bR .xor .u64 (bR .xor .u64 r0 (IntKind.u64.wrap (r0 * 2 ^ (min (Int.toNat (13 : Int)) 64)))) (Int.fdiv (bR .xor .u64 r0 (IntKind.u64.wrap (r0 * 2 ^ (min (Int.toNat (13 : Int)) 64)))) (2 ^ (min (Int.toNat (7 : Int)) 64)))))] [(lo0p, 1, [(cQ .u64 (bR .xor .u64 (bR .xor .u64 (bR .xor .u64 r0 (IntKind.u64.wrap (r0 * 2 ^ (min (Int.toNat (13 : Int)) 64)))) (Int.fdiv (bR .xor .u64 r0 (IntKind.u64.wrap (r0 * 2 ^ (min (Int.toNat (13 : Int)) 64)))) (2 ^ (min (Int.toNat (7 : Int)) 64)))) (IntKind.u64.wrap ((bR .xor .u64 (bR .xor .u64 r0 (IntKind.u64.wrap (r0 * 2 ^ (min (Int.toNat (13 : Int)) 64)))) (Int.fdiv (bR .xor .u64 r0 (IntKind.u64.wrap (r0 * 2 ^ (min (Int.toNat (13 : Int)) 64)))) (2 ^ (min (Int.toNat (7 : Int)) 64)))) * 2 ^ (min (Int.toNat (17 : Int)) 64)))))])] hO rfl (by kernel_rfl) ?_
  intro H hO
  refine nE (by kernel_rfl) ?_
  refine bO [] [] ?_
  refine aO ?_
  refine aS aB 4 ?_
  refine bE 2 ?_
  refine iS 0 lo0p 1 0 (cQ .u64 (bR .xor .u64 (bR .xor .u64 (bR .xor .u64 r0 (IntKind.u64.wrap (r0 * 2 ^ (min (Int.toNat (13 : Int)) 64)))) (Int.fdiv (bR .xor .u64 r0 (IntKind.u64.wrap (r0 * 2 ^ (min (Int.toNat (13 : Int)) 64)))) (2 ^ (min (Int.toNat (7 : Int)) 64)))) (IntKind.u64.wrap ((bR .xor .u64 (bR .xor .u64 r0 (IntKind.u64.wrap (r0 * 2 ^ (min (Int.toNat (13 : Int)) 64)))) (Int.fdiv (bR .xor .u64 r0 (IntKind.u64.wrap (r0 * 2 ^ (min (Int.toNat (13 : Int)) 64)))) (2 ^ (min (Int.toNat (7 : Int)) 64)))) * 2 ^ (min (Int.toNat (17 : Int)) 64))))) (cQ .u64 (bR .xor .u64 (bR .xor .u64 (bR .xor .u64 r0 (IntKind.u64.wrap (r0 * 2 ^ (min (Int.toNat (13 : Int)) 64)))) (Int.fdiv (bR .xor .u64 r0 (IntKind.u64.wrap (r0 * 2 ^ (min (Int.toNat (13 : Int)) 64)))) (2 ^ (min (Int.toNat (7 : Int)) 64)))) (IntKind.u64.wrap ((bR .xor .u64 (bR .xor .u64 r0 (IntKind.u64.wrap (r0 * 2 ^ (min (Int.toNat (13 : Int)) 64)))) (Int.fdiv (bR .xor .u64 r0 (IntKind.u64.wrap (r0 * 2 ^ (min (Int.toNat (13 : Int)) 64)))) (2 ^ (min (Int.toNat (7 : Int)) 64)))) * 2 ^ (min (Int.toNat (17 : Int)) 64))))) [(cQ .u64 (bR .xor .u64 (bR .xor .u64 (bR .xor .u64 r0 (IntKind.u64.wrap (r0 * 2 ^ (min (Int.toNat (13 : Int)) 64)))) (Int.fdiv (bR .xor .u64 r0 (IntKind.u64.wrap (r0 * 2 ^ (min (Int.toNat (13 : Int)) 64)))) (2 ^ (min (Int.toNat (7 : Int)) 64)))) (IntKind.u64.wrap ((bR .xor .u64 (bR .xor .u64 r0 (IntKind.u64.wrap (r0 * 2 ^ (min (Int.toNat (13 : Int)) 64)))) (Int.fdiv (bR .xor .u64 r0 (IntKind.u64.wrap (r0 * 2 ^ (min (Int.toNat (13 : Int)) 64)))) (2 ^ (min (Int.toNat (7 : Int)) 64)))) * 2 ^ (min (Int.toNat (17 : Int)) 64)))))] hO rfl ?_
  refine aZ ?_
  refine bB [(0, (.lp lo0p 0 0)), (2, (cQ .u64 (bR .xor .u64 (bR .xor .u64 (bR .xor .u64 r0 (IntKind.u64.wrap (r0 * 2 ^ (min (Int.toNat (13 : Int)) 64)))) (Int.fdiv (bR .xor .u64 r0 (IntKind.u64.wrap (r0 * 2 ^ (min (Int.toNat (13 : Int)) 64)))) (2 ^ (min (Int.toNat (7 : Int)) 64)))) (IntKind.u64.wrap ((bR .xor .u64 (bR .xor .u64 r0 (IntKind.u64.wrap (r0 * 2 ^ (min (Int.toNat (13 : Int)) 64)))) (Int.fdiv (bR .xor .u64 r0 (IntKind.u64.wrap (r0 * 2 ^ (min (Int.toNat (13 : Int)) 64)))) (2 ^ (min (Int.toNat (7 : Int)) 64)))) * 2 ^ (min (Int.toNat (17 : Int)) 64))))))] ?_
  refine bH ?_
  obtain rfl := oI h0
  exact aF (ID hO ⟨rfl, rfl⟩)

theorem xD (lo0p : Nat) (aA : (List Int)) (a1 : Int) (b2 : Int) (r : List Int) (h0 : iF aA a1 b2 = some r) : qP Try.prog 77 lo0p 1 (List.map (eI) aA) (List.map (eI) r) [(.msl 1 lo0p 0 (List.length aA)), (eI a1), (eI b2)] (.tup []) := by
  intro H0 hl0
  refine cY Try.func77 ?_
  have hO := aM.sH hl0
  clear hl0
  obtain ⟨N0, hN0⟩ : ∃ n, n = List.length aA := ⟨_, rfl⟩
  have hN : List.length aA = N0 := hN0.symm
  unfold iF at h0
  refine aX aB 4 [2] [(6, (eI (wR (b2 - a1))))] ?_
  refine aX aB 2 [] [(15, (aE (decide ((8 : Int) ≤ (wR (b2 - a1))))))] ?_
  refine bJ h0 (fun h0 => ?_) (fun h0 => ?_)
  · refine aO ?_
    refine aS aB 4 ?_
    refine bE 2 ?_
    refine kK 1 (cQ .u64 0) (by kernel_rfl) (by kernel_rfl) hO ?_
    intro lo2 H hO
    refine gM 1 lo2 1 0 (cQ .u64 0) (cQ .u64 (IntKind.u64.wrap (wR (b2 - a1)))) [(cQ .u64 0)] [(lo0p, 1, List.map (eI) aA), (lo2, 1, [(cQ .u64 (IntKind.u64.wrap (wR (b2 - a1))))])] hO rfl (by kernel_rfl) ?_
    intro H hO
    refine cX ?_
    refine bO [15] [(7, (.lp lo2 0 0))] ?_
    refine aO ?_
    refine aS aB 3 ?_
    refine bE 1 ?_
    obtain ⟨x3, hx4, h0⟩ := aW h0
    refine cW (DG (wR (b2 - a1)) _ hx4) hO ?_
    intro H hO
    refine aZ ?_
    refine bO [] [(8, (cQ .u64 x3))] ?_
    refine aO ?_
    refine aS aB 7 ?_
    obtain ⟨c6, h0⟩ := bA h0
    refine qK [(4 : Int) ≠ 0] ⟨c6, trivial⟩ ?_
    refine bB [(0, (.msl 1 lo0p 0 (List.length aA))), (1, (eI a1)), (6, (eI (wR (b2 - a1)))), (7, (.lp lo2 0 0)), (8, (cQ .u64 x3)), (9, (eI (wR ((wR (a1 + (wR ((wR (Int.tdiv (wR (b2 - a1)) (4 : Int))) * (2 : Int))))) - (1 : Int)))))] ?_
    refine bW 0 ?_
    refine eE [(0, (.msl 1 lo0p 0 (List.length aA))), (1, (eI a1)), (6, (eI (wR (b2 - a1)))), (7, (.lp lo2 0 0)), (8, (cQ .u64 x3)), (9, (eI (wR ((wR (a1 + (wR ((wR (Int.tdiv (wR (b2 - a1)) (4 : Int))) * (2 : Int))))) - (1 : Int)))))] ?_
    refine eH (fun T H => ∃ aA : List Int, ∃ kQ : Int, ∃ mH : Int, ∃ jH : Int, ∃ idx9 : Int, Has T [(0, (.msl 1 lo0p 0 (List.length aA))), (1, (eI a1)), (6, (eI kQ)), (7, (.lp lo2 0 0)), (8, (cQ .u64 jH)), (9, (eI idx9))] ∧ aM ⟨H0, [lo0p], []⟩ H [(lo0p, 1, List.map (eI) aA), (lo2, 1, [(cQ .u64 mH)])] ∧ List.length aA = N0 ∧ jX aA a1 kQ mH jH idx9 = some r) ?_ ⟨aA, wR (b2 - a1), IntKind.u64.wrap (wR (b2 - a1)), x3, wR ((wR (a1 + (wR ((wR (Int.tdiv (wR (b2 - a1)) (4 : Int))) * (2 : Int))))) - (1 : Int)), .eq (by kernel_rfl), hO, hN, h0⟩
    clear hO hN h0
    rintro T H ⟨aA, kQ, mH, jH, idx9, hT, hO, hN, h0⟩
    refine bF hT ?_
    clear hT
    unfold jX at h0
    obtain ⟨rr0, hl0, h0⟩ := aW h0
    refine dM (by kernel_rfl) (fun (s : List Int × Int × Int) T H => Has T [(0, (.msl 1 lo0p 0 (List.length s.1))), (1, (eI a1)), (6, (eI kQ)), (7, (.lp lo2 0 0)), (8, (cQ .u64 jH)), (9, (eI s.2.2))] ∧ aM ⟨H0, [lo0p], []⟩ H [(lo0p, 1, List.map (eI) s.1), (lo2, 1, [(cQ .u64 s.2.1)])] ∧ List.length s.1 = N0) hl0 ⟨.eq (by kernel_rfl), hO, hN⟩ ?_
    clear hO hN
    rintro k0 s out1 T H ⟨hT, hO, hN⟩ h1 ho0
    obtain ⟨aA, mH, idx9⟩ := s
    replace h1 : dG a1 kQ jH aA mH idx9 = some out1 := h1
    try dsimp only at hT
    refine bF hT ?_
    clear hT
    unfold dG at h1
    refine aO ?_
    refine aO ?_
    refine aS aB 8 ?_
    obtain ⟨c7, h1⟩ := bA h1
    refine qK [(4 : Int) ≠ 0] ⟨c7, trivial⟩ ?_
    refine bO [] [(33, (aE (decide (idx9 ≤ (wR ((wR (a1 + (wR ((wR (Int.tdiv kQ (4 : Int))) * (2 : Int))))) + (1 : Int)))))))] ?_
    refine bJ h1 (fun h1 => ?_) (fun h1 => ?_)
    · refine bM ?_
      refine bB [(0, (.msl 1 lo0p 0 (List.length aA))), (1, (eI a1)), (6, (eI kQ)), (7, (.lp lo2 0 0)), (8, (cQ .u64 jH)), (9, (eI idx9))] ?_
      refine aO ?_
      refine bW 1 ?_
      refine aO ?_
      refine aS aB 6 ?_
      obtain ⟨x9, hx10, h1⟩ := aW h1
      refine EB [(lo0p, 1, List.map (eI) aA)] [1, 0] (EL lo2 mH _ hx10) hO ?_
      intro r11 L12 H hP13 hO
      obtain ⟨rfl, rfl⟩ := hP13
      replace hO : aM ⟨H0, [lo0p], []⟩ H [(lo2, 1, [(cQ .u64 x9.2)]), (lo0p, 1, List.map (eI) aA)] := hO
      refine aZ ?_
      replace hO := hO.pick (L' := [(lo0p, 1, List.map (eI) aA), (lo2, 1, [(cQ .u64 x9.2)])]) [1, 0] (by decide) (by kernel_rfl)
      refine bO [] [(10, (eI (wR (bR .and .u64 x9.1 (IntKind.u64.wrap (jH - (1 : Int)))))))] ?_
      refine eV (fun T H => ∃ aA : List Int, ∃ mH : Int, ∃ gJ : Int, Has T [(0, (.msl 1 lo0p 0 (List.length aA))), (1, (eI a1)), (6, (eI kQ)), (7, (.lp lo2 0 0)), (8, (cQ .u64 jH)), (9, (eI idx9)), (10, (eI gJ))] ∧ aM ⟨H0, [lo0p], []⟩ H [(lo0p, 1, List.map (eI) aA), (lo2, 1, [(cQ .u64 mH)])] ∧ List.length aA = N0 ∧ fF aA a1 kQ mH jH idx9 gJ = some out1) ?_ ?_
      · clear hO hN h1
        rintro T H ⟨aA, mH, gJ, hT, hO, hN, h1⟩
        refine bF hT ?_
        clear hT
        unfold fF at h1
        refine fX (fZ []) aB 20 ?_
        obtain ⟨c14, h1⟩ := bA h1
        refine cJ 11 [0 ≤ (wR (a1 + gJ)) ∧ (wR (a1 + gJ)) < (lN aA)] ⟨c14, trivial⟩ ?_
        refine fU 0 lo0p 1 (0 + Int.toNat (wR (a1 + gJ))) (eI (gD aA (wR (a1 + gJ)))) (eI (gD aA (wR (a1 + gJ)))) (List.map (eI) aA) hO (bZ c14) ?_
        obtain ⟨c15, h1⟩ := bA h1
        refine cJ 15 [0 ≤ idx9 ∧ idx9 < (lN aA)] ⟨c15, trivial⟩ ?_
        refine fU 0 lo0p 1 (0 + Int.toNat idx9) (eI (gD aA idx9)) (eI (gD aA idx9)) (List.map (eI) aA) hO (bZ c15) ?_
        obtain ⟨c16, h1⟩ := bA h1
        refine cJ 17 [0 ≤ idx9 ∧ idx9 < (lN aA)] ⟨c16, trivial⟩ ?_
        refine kS 0 lo0p 1 (0 + Int.toNat idx9) (eI (gD aA idx9)) (eI (gD aA (wR (a1 + gJ)))) (List.map (eI) aA) [(lo0p, 1, List.map (eI) (List.set aA (Int.toNat idx9) (gD aA (wR (a1 + gJ))))), (lo2, 1, [(cQ .u64 mH)])] hO (bZ c16) (by simp only [List.set, iH]) ?_
        intro H hO
        replace hN : List.length (List.set aA (Int.toNat idx9) (gD aA (wR (a1 + gJ)))) = N0 := by simpa using hN
        obtain ⟨c17, h1⟩ := bA h1
        refine cJ 19 [0 ≤ (wR (a1 + gJ)) ∧ (wR (a1 + gJ)) < (lN aA)] ⟨c17, trivial⟩ ?_
        refine kS 0 lo0p 1 (0 + Int.toNat (wR (a1 + gJ))) (eI (gD (List.set aA (Int.toNat idx9) (gD aA (wR (a1 + gJ)))) (wR (a1 + gJ)))) (eI (gD aA idx9)) (List.map (eI) (List.set aA (Int.toNat idx9) (gD aA (wR (a1 + gJ))))) [(lo0p, 1, List.map (eI) (List.set (List.set aA (Int.toNat idx9) (gD aA (wR (a1 + gJ)))) (Int.toNat (wR (a1 + gJ))) (gD aA idx9))), (lo2, 1, [(cQ .u64 mH)])] hO (nY c17 (by simp [])) (by simp only [List.set, iH]) ?_
        intro H hO
        replace hN : List.length (List.set (List.set aA (Int.toNat idx9) (gD aA (wR (a1 + gJ)))) (Int.toNat (wR (a1 + gJ))) (gD aA idx9)) = N0 := by simpa using hN
        refine nE (by kernel_rfl) ?_
        refine dH (l := [(0, (.msl 1 lo0p 0 (List.length (List.set (List.set aA (Int.toNat idx9) (gD aA (wR (a1 + gJ)))) (Int.toNat (wR (a1 + gJ))) (gD aA idx9))))), (1, (eI a1)), (6, (eI kQ)), (7, (.lp lo2 0 0)), (8, (cQ .u64 jH)), (9, (eI idx9))]) ⟨[(0, (.msl 1 lo0p 0 (List.length aA))), (1, (eI a1)), (6, (eI kQ)), (7, (.lp lo2 0 0)), (8, (cQ .u64 jH)), (9, (eI idx9))], by kernel_rfl, rfl, ⟨aQ.eq (by simp []), aQ.refl _, aQ.refl _, aQ.refl _, aQ.refl _, aQ.refl _, trivial⟩⟩ ?_
        refine aF (aV (aH (?_)))
        refine aS aB 3 ?_
        refine aZ ?_
        exact aF (aH (⟨rfl, _, (oI h1).symm, .eq (by kernel_rfl), hO, hN⟩))
      refine aX aB 3 [] [(43, (aE (decide (kQ ≤ (wR (bR .and .u64 x9.1 (IntKind.u64.wrap (jH - (1 : Int)))))))))] ?_
      refine bJ h1 (fun h1 => ?_) (fun h1 => ?_)
      · refine aS aB 4 ?_
        refine aZ ?_
        exact aF (aH (⟨rfl, _, _, _, .eq (by kernel_rfl), hO, hN, h1⟩))
      refine bM ?_
      exact aF (aH (⟨rfl, _, _, _, .eq (by kernel_rfl), hO, hN, h1⟩))
    refine gG 0 ?_
    replace hO := hO.pick (L' := [(lo0p, 1, List.map (eI) aA)]) [0] (by decide) (by kernel_rfl)
    obtain rfl := oI h1
    obtain rfl : _ = rr0 := ho0
    replace h0 : some aA = some r := h0
    obtain rfl := oI h0
    exact aF (aY (aY (bU (xY (x := (.tup [])) (by kernel_rfl) (aQ.refl _) ⟨rfl, hO.ext, hO.at 0 (by kernel_rfl), by first | rfl | (simp only [List.length_map]; exact hN.trans hN0)⟩))))
  refine bM ?_
  obtain rfl := oI h0
  exact aF (xY (x := (.tup [])) (by kernel_rfl) (aQ.refl _) ⟨rfl, hO.ext, hO.at 0 (by kernel_rfl), by first | rfl | (simp only [List.length_map]; exact hN.trans hN0)⟩)

theorem pE (lo0p : Nat) (aA : (List Int)) (a1 : Int) (b2 : Int) (lo3p : Nat) (tR : Int) (r : ((Int × Int) × Int)) (h0 : gV aA a1 b2 tR = some r) : JY Try.prog 101 [(.msl 1 lo0p 0 (List.length aA)), (eI a1), (eI b2), (.lp lo3p 0 0)] [(lo0p, 1, List.map (eI) aA), (lo3p, 1, [(eI tR)])] (fun x L => x = (.tup [(eI r.1.1), (eI r.1.2)]) ∧ L = [(lo0p, 1, List.map (eI) aA), (lo3p, 1, [(eI r.2)])]) := by
  intro F H0 hO
  obtain ⟨Fh, Fe, Fg⟩ := F
  refine cY Try.func101 ?_
  unfold gV at h0
  refine aX aB 2 [] [] ?_
  refine aO ?_
  refine aO ?_
  refine fX (fZ [18]) aB 9 ?_
  obtain ⟨c1, h0⟩ := bA h0
  refine cJ 3 [0 ≤ b2 ∧ b2 < (lN aA)] ⟨c1, trivial⟩ ?_
  refine fU 0 lo0p 1 (0 + Int.toNat b2) (eI (gD aA b2)) (eI (gD aA b2)) (List.map (eI) aA) hO (bZ c1) ?_
  obtain ⟨c2, h0⟩ := bA h0
  refine cJ 7 [0 ≤ a1 ∧ a1 < (lN aA)] ⟨c2, trivial⟩ ?_
  refine fU 0 lo0p 1 (0 + Int.toNat a1) (eI (gD aA a1)) (eI (gD aA a1)) (List.map (eI) aA) hO (bZ c2) ?_
  obtain ⟨x3, hx4, h0⟩ := aW h0
  refine zW (gC (gD aA b2) (gD aA a1) _ hx4) hO ?_
  intro H hO
  refine nE (by kernel_rfl) ?_
  refine bO [] [(18, (aE x3))] ?_
  refine bJ h0 (fun h0 => ?_) (fun h0 => ?_)
  · refine aO ?_
    refine aS aB 6 ?_
    refine bE 2 ?_
    refine iS 1 lo3p 1 0 (eI tR) (eI tR) [(eI tR)] hO rfl ?_
    refine bE 5 ?_
    refine gM 1 lo3p 1 0 (eI tR) (eI (wR (tR + (1 : Int)))) [(eI tR)] [(lo0p, 1, List.map (eI) aA), (lo3p, 1, [(eI (wR (tR + (1 : Int))))])] hO rfl (by kernel_rfl) ?_
    intro H hO
    refine cX ?_
    refine bO [18] [] ?_
    refine aX aB 4 [1, 2] [(8, (eI b2)), (9, (eI a1))] ?_
    refine bH ?_
    obtain rfl := oI h0
    exact aF (aU (ID hO ⟨rfl, rfl⟩))
  refine bM ?_
  refine bB [(0, (.msl 1 lo0p 0 (List.length aA))), (1, (eI a1)), (2, (eI b2)), (3, (.lp lo3p 0 0))] ?_
  refine aX aB 4 [1, 2] [(8, (eI a1)), (9, (eI b2))] ?_
  refine bH ?_
  obtain rfl := oI h0
  exact aF (ID hO ⟨rfl, rfl⟩)

theorem uL (lo0p : Nat) (aA : (List Int)) (a1 : Int) (b2 : Int) (c3 : Int) (lo4p : Nat) (IE : Int) (r : (Int × Int)) (h0 : iY aA a1 b2 c3 IE = some r) : JY Try.prog 97 [(.msl 1 lo0p 0 (List.length aA)), (eI a1), (eI b2), (eI c3), (.lp lo4p 0 0)] [(lo0p, 1, List.map (eI) aA), (lo4p, 1, [(eI IE)])] (fun x L => x = (eI r.1) ∧ L = [(lo0p, 1, List.map (eI) aA), (lo4p, 1, [(eI r.2)])]) := by
  intro F H0 hO
  obtain ⟨Fh, Fe, Fg⟩ := F
  refine cY Try.func97 ?_
  unfold iY at h0
  refine aX aB 1 [] [] ?_
  refine aO ?_
  refine aS aB 10 ?_
  refine bE 4 ?_
  obtain ⟨x1, hx2, h0⟩ := aW h0
  refine EB [] [0, 1] (pE lo0p aA a1 b2 lo4p IE _ hx2) hO ?_
  intro r3 L4 H hP5 hO
  obtain ⟨rfl, rfl⟩ := hP5
  replace hO : aM ⟨Fh, Fe, Fg⟩ H [(lo0p, 1, List.map (eI) aA), (lo4p, 1, [(eI x1.2)])] := hO
  refine aZ ?_
  refine bO [1, 2] [(1, (eI x1.1.1)), (2, (eI x1.1.2))] ?_
  refine aO ?_
  refine aS aB 10 ?_
  refine bE 4 ?_
  obtain ⟨x6, hx7, h0⟩ := aW h0
  refine EB [] [0, 1] (pE lo0p aA x1.1.2 c3 lo4p x1.2 _ hx7) hO ?_
  intro r8 L9 H hP10 hO
  obtain ⟨rfl, rfl⟩ := hP10
  replace hO : aM ⟨Fh, Fe, Fg⟩ H [(lo0p, 1, List.map (eI) aA), (lo4p, 1, [(eI x6.2)])] := hO
  refine aZ ?_
  refine bO [2, 3] [(2, (eI x6.1.1))] ?_
  refine aO ?_
  refine aS aB 10 ?_
  refine bE 4 ?_
  obtain ⟨x11, hx12, h0⟩ := aW h0
  refine EB [] [0, 1] (pE lo0p aA x1.1.1 x6.1.1 lo4p x6.2 _ hx12) hO ?_
  intro r13 L14 H hP15 hO
  obtain ⟨rfl, rfl⟩ := hP15
  replace hO : aM ⟨Fh, Fe, Fg⟩ H [(lo0p, 1, List.map (eI) aA), (lo4p, 1, [(eI x11.2)])] := hO
  refine aZ ?_
  refine bO [1, 2] [(2, (eI x11.1.2))] ?_
  refine bV aB 2 [(0, (.msl 1 lo0p 0 (List.length aA))), (4, (.lp lo4p 0 0)), (10, (eI x11.1.2))] ?_
  refine bH ?_
  obtain rfl := oI h0
  exact aF (ID hO ⟨rfl, rfl⟩)

theorem mD (lo0p : Nat) (aA : (List Int)) (a1 : Int) (lo2p : Nat) (IB : Int) (r : (Int × Int)) (h0 : eB aA a1 IB = some r) : JY Try.prog 96 [(.msl 1 lo0p 0 (List.length aA)), (eI a1), (.lp lo2p 0 0)] [(lo0p, 1, List.map (eI) aA), (lo2p, 1, [(eI IB)])] (fun x L => x = (eI r.1) ∧ L = [(lo0p, 1, List.map (eI) aA), (lo2p, 1, [(eI r.2)])]) := by
  intro F H0 hO
  obtain ⟨Fh, Fe, Fg⟩ := F
  refine cY Try.func96 ?_
  unfold eB at h0
  refine aX aB 1 [] [] ?_
  refine aO ?_
  refine aS aB 9 ?_
  refine bE 7 ?_
  obtain ⟨x1, hx2, h0⟩ := aW h0
  refine EB [] [0, 1] (uL lo0p aA (wR (a1 - (1 : Int))) a1 (wR (a1 + (1 : Int))) lo2p IB _ hx2) hO ?_
  intro r3 L4 H hP5 hO
  obtain ⟨rfl, rfl⟩ := hP5
  replace hO : aM ⟨Fh, Fe, Fg⟩ H [(lo0p, 1, List.map (eI) aA), (lo2p, 1, [(eI x1.2)])] := hO
  refine aZ ?_
  refine bO [1] [(6, (eI x1.1))] ?_
  refine bH ?_
  obtain rfl := oI h0
  exact aF (ID hO ⟨rfl, rfl⟩)

theorem yP (lo0p : Nat) (aA : (List Int)) (a1 : Int) (b2 : Int) (r : (Int × Int)) (h0 : iU aA a1 b2 = some r) : JY Try.prog 78 [(.msl 1 lo0p 0 (List.length aA)), (eI a1), (eI b2)] [(lo0p, 1, List.map (eI) aA)] (fun x L => x = (.tup [(eI r.1), (eI r.2)]) ∧ L = [(lo0p, 1, List.map (eI) aA)]) := by
  intro F H0 hO
  obtain ⟨Fh, Fe, Fg⟩ := F
  refine cY Try.func78 ?_
  unfold iU at h0
  refine aX aB 2 [] [] ?_
  refine aX aB 4 [2] [(8, (eI (wR (b2 - a1))))] ?_
  refine aO ?_
  refine aS aB 1 ?_
  refine kK 1 (eI 0) (by kernel_rfl) (by kernel_rfl) hO ?_
  intro lo1 H hO
  refine cX ?_
  refine bO [] [(9, (.lp lo1 0 0))] ?_
  refine aO ?_
  refine aS aB 6 ?_
  obtain ⟨c2, h0⟩ := bA h0
  refine qK [(4 : Int) ≠ 0] ⟨c2, trivial⟩ ?_
  refine bO [] [(10, (eI (wR (a1 + (wR ((wR (Int.tdiv (wR (b2 - a1)) (4 : Int))) * (1 : Int)))))))] ?_
  refine aO ?_
  refine aS aB 6 ?_
  obtain ⟨c3, h0⟩ := bA h0
  refine qK [(4 : Int) ≠ 0] ⟨c3, trivial⟩ ?_
  refine bB [(0, (.msl 1 lo0p 0 (List.length aA))), (1, (eI a1)), (8, (eI (wR (b2 - a1)))), (9, (.lp lo1 0 0)), (10, (eI (wR (a1 + (wR ((wR (Int.tdiv (wR (b2 - a1)) (4 : Int))) * (1 : Int))))))), (11, (eI (wR (a1 + (wR ((wR (Int.tdiv (wR (b2 - a1)) (4 : Int))) * (2 : Int)))))))] ?_
  refine aO ?_
  refine aS aB 6 ?_
  obtain ⟨c4, h0⟩ := bA h0
  refine qK [(4 : Int) ≠ 0] ⟨c4, trivial⟩ ?_
  refine bO [1] [(12, (eI (wR (a1 + (wR ((wR (Int.tdiv (wR (b2 - a1)) (4 : Int))) * (3 : Int)))))))] ?_
  refine eV (fun T H => ∃ nD : Int, ∃ j11 : Int, Has T [(0, (.msl 1 lo0p 0 (List.length aA))), (9, (.lp lo1 0 0)), (11, (eI j11))] ∧ aM ⟨Fh, Fe, Fg⟩ H [(lo0p, 1, List.map (eI) aA), (lo1, 1, [(eI nD)])] ∧ fV aA nD j11 = some r) ?_ ?_
  · clear hO h0
    rintro T H ⟨nD, j11, hT, hO, h0⟩
    refine bF hT ?_
    clear hT
    unfold fV at h0
    refine aO ?_
    refine aS aB 1 ?_
    refine iS 1 lo1 1 0 (eI nD) (eI nD) [(eI nD)] hO rfl ?_
    refine cX ?_
    replace hO := hO.pick (L' := [(lo0p, 1, List.map (eI) aA)]) [0] (by decide) (by kernel_rfl)
    refine bO [9] [(49, (eI nD))] ?_
    refine bW 0 ?_
    refine aX aB 2 [] [(51, (aE (decide (nD = (0 : Int)))))] ?_
    refine bJ h0 (fun h0 => ?_) (fun h0 => ?_)
    · refine aX aB 3 [11, 49, 51] [(6, (eI j11)), (7, (eI (1 : Int)))] ?_
      refine bH ?_
      obtain rfl := oI h0
      exact aF (bD (ID hO ⟨rfl, rfl⟩))
    refine aX aB 2 [49, 51] [(54, (aE (decide (nD = (12 : Int)))))] ?_
    refine bJ h0 (fun h0 => ?_) (fun h0 => ?_)
    · refine aX aB 3 [11, 54] [(6, (eI j11)), (7, (eI (2 : Int)))] ?_
      refine bH ?_
      obtain rfl := oI h0
      exact aF (bD (ID hO ⟨rfl, rfl⟩))
    refine aX aB 3 [11, 54] [(6, (eI j11)), (7, (eI (0 : Int)))] ?_
    refine bH ?_
    obtain rfl := oI h0
    exact aF (bD (ID hO ⟨rfl, rfl⟩))
  refine aX aB 2 [] [(32, (aE (decide ((8 : Int) ≤ (wR (b2 - a1))))))] ?_
  refine bJ h0 (fun h0 => ?_) (fun h0 => ?_)
  · refine eV (fun T H => ∃ nD : Int, ∃ i10 : Int, ∃ j11 : Int, ∃ k12 : Int, Has T [(0, (.msl 1 lo0p 0 (List.length aA))), (9, (.lp lo1 0 0)), (10, (eI i10)), (11, (eI j11)), (12, (eI k12))] ∧ aM ⟨Fh, Fe, Fg⟩ H [(lo0p, 1, List.map (eI) aA), (lo1, 1, [(eI nD)])] ∧ fY aA nD i10 j11 k12 = some r) ?_ ?_
    · clear hO h0
      rintro T H ⟨nD, i10, j11, k12, hT, hO, h0⟩
      refine bF hT ?_
      clear hT
      unfold fY at h0
      refine aS aB 6 ?_
      refine bE 4 ?_
      obtain ⟨x8, hx9, h0⟩ := aW h0
      refine EB [] [0, 1] (uL lo0p aA i10 j11 k12 lo1 nD _ hx9) hO ?_
      intro r10 L11 H hP12 hO
      obtain ⟨rfl, rfl⟩ := hP12
      replace hO : aM ⟨Fh, Fe, Fg⟩ H [(lo0p, 1, List.map (eI) aA), (lo1, 1, [(eI x8.2)])] := hO
      refine aZ ?_
      exact aF (aH (⟨rfl, _, _, .eq (by kernel_rfl), hO, h0⟩))
    refine aX aB 2 [8, 32] [(34, (aE (decide ((50 : Int) ≤ (wR (b2 - a1))))))] ?_
    refine bJ h0 (fun h0 => ?_) (fun h0 => ?_)
    · refine aO ?_
      refine aS aB 4 ?_
      refine bE 2 ?_
      obtain ⟨x14, hx15, h0⟩ := aW h0
      refine EB [] [0, 1] (mD lo0p aA (wR (a1 + (wR ((wR (Int.tdiv (wR (b2 - a1)) (4 : Int))) * (1 : Int))))) lo1 0 _ hx15) hO ?_
      intro r16 L17 H hP18 hO
      obtain ⟨rfl, rfl⟩ := hP18
      replace hO : aM ⟨Fh, Fe, Fg⟩ H [(lo0p, 1, List.map (eI) aA), (lo1, 1, [(eI x14.2)])] := hO
      refine aZ ?_
      refine bO [10, 34] [(10, (eI x14.1))] ?_
      refine aO ?_
      refine aS aB 4 ?_
      refine bE 2 ?_
      obtain ⟨x19, hx20, h0⟩ := aW h0
      refine EB [] [0, 1] (mD lo0p aA (wR (a1 + (wR ((wR (Int.tdiv (wR (b2 - a1)) (4 : Int))) * (2 : Int))))) lo1 x14.2 _ hx20) hO ?_
      intro r21 L22 H hP23 hO
      obtain ⟨rfl, rfl⟩ := hP23
      replace hO : aM ⟨Fh, Fe, Fg⟩ H [(lo0p, 1, List.map (eI) aA), (lo1, 1, [(eI x19.2)])] := hO
      refine aZ ?_
      refine bB [(0, (.msl 1 lo0p 0 (List.length aA))), (9, (.lp lo1 0 0)), (10, (eI x14.1)), (11, (eI x19.1)), (12, (eI (wR (a1 + (wR ((wR (Int.tdiv (wR (b2 - a1)) (4 : Int))) * (3 : Int)))))))] ?_
      refine aS aB 4 ?_
      refine bE 2 ?_
      obtain ⟨x24, hx25, h0⟩ := aW h0
      refine EB [] [0, 1] (mD lo0p aA (wR (a1 + (wR ((wR (Int.tdiv (wR (b2 - a1)) (4 : Int))) * (3 : Int))))) lo1 x19.2 _ hx25) hO ?_
      intro r26 L27 H hP28 hO
      obtain ⟨rfl, rfl⟩ := hP28
      replace hO : aM ⟨Fh, Fe, Fg⟩ H [(lo0p, 1, List.map (eI) aA), (lo1, 1, [(eI x24.2)])] := hO
      refine aZ ?_
      exact aF (aH (⟨rfl, _, _, _, _, .eq (by kernel_rfl), hO, h0⟩))
    refine bM ?_
    exact aF (aH (⟨rfl, _, _, _, _, .eq (by kernel_rfl), hO, h0⟩))
  refine bM ?_
  exact aF (aH (⟨rfl, _, _, .eq (by kernel_rfl), hO, h0⟩))

theorem yF (lo0p : Nat) (aA : (List Int)) (a1 : Int) (b2 : Int) (r : List Int) (h0 : iN aA a1 b2 = some r) : qP Try.prog 79 lo0p 1 (List.map (eI) aA) (List.map (eI) r) [(.msl 1 lo0p 0 (List.length aA)), (eI a1), (eI b2)] (.tup []) := by
  intro H0 hl0
  refine cY Try.func79 ?_
  have hO := aM.sH hl0
  clear hl0
  obtain ⟨N0, hN0⟩ : ∃ n, n = List.length aA := ⟨_, rfl⟩
  have hN : List.length aA = N0 := hN0.symm
  unfold iN at h0
  refine aX aB 2 [1] [(6, (eI a1))] ?_
  refine aX aB 3 [2] [(7, (eI (wR (b2 - (1 : Int)))))] ?_
  refine bW 0 ?_
  refine eE [(0, (.msl 1 lo0p 0 (List.length aA))), (6, (eI a1)), (7, (eI (wR (b2 - (1 : Int)))))] ?_
  refine eH (fun T H => ∃ aA : List Int, ∃ i6 : Int, ∃ j7 : Int, Has T [(0, (.msl 1 lo0p 0 (List.length aA))), (6, (eI i6)), (7, (eI j7))] ∧ aM ⟨H0, [lo0p], []⟩ H [(lo0p, 1, List.map (eI) aA)] ∧ List.length aA = N0 ∧ kC aA i6 j7 = some r) ?_ ⟨aA, a1, wR (b2 - (1 : Int)), .eq (by kernel_rfl), hO, hN, h0⟩
  clear hO hN h0
  rintro T H ⟨aA, i6, j7, hT, hO, hN, h0⟩
  refine bF hT ?_
  clear hT
  unfold kC at h0
  obtain ⟨rr0, hl0, h0⟩ := aW h0
  refine dM (by kernel_rfl) (fun (s : List Int × Int × Int) T H => Has T [(0, (.msl 1 lo0p 0 (List.length s.1))), (6, (eI s.2.1)), (7, (eI s.2.2))] ∧ aM ⟨H0, [lo0p], []⟩ H [(lo0p, 1, List.map (eI) s.1)] ∧ List.length s.1 = N0) hl0 ⟨.eq (by kernel_rfl), hO, hN⟩ ?_
  clear hO hN
  rintro k0 s out1 T H ⟨hT, hO, hN⟩ h1 ho0
  obtain ⟨aA, i6, j7⟩ := s
  replace h1 : dU aA i6 j7 = some out1 := h1
  try dsimp only at hT
  refine bF hT ?_
  clear hT
  unfold dU at h1
  refine aO ?_
  refine aX aB 3 [] [(13, (aE (decide (i6 < j7))))] ?_
  refine bJ h1 (fun h1 => ?_) (fun h1 => ?_)
  · refine bM ?_
    refine bB [(0, (.msl 1 lo0p 0 (List.length aA))), (6, (eI i6)), (7, (eI j7))] ?_
    refine bW 1 ?_
    refine aO ?_
    refine fX (fZ []) aB 16 ?_
    obtain ⟨c2, h1⟩ := bA h1
    refine cJ 7 [0 ≤ j7 ∧ j7 < (lN aA)] ⟨c2, trivial⟩ ?_
    refine fU 0 lo0p 1 (0 + Int.toNat j7) (eI (gD aA j7)) (eI (gD aA j7)) (List.map (eI) aA) hO (bZ c2) ?_
    obtain ⟨c3, h1⟩ := bA h1
    refine cJ 11 [0 ≤ i6 ∧ i6 < (lN aA)] ⟨c3, trivial⟩ ?_
    refine fU 0 lo0p 1 (0 + Int.toNat i6) (eI (gD aA i6)) (eI (gD aA i6)) (List.map (eI) aA) hO (bZ c3) ?_
    obtain ⟨c4, h1⟩ := bA h1
    refine cJ 13 [0 ≤ i6 ∧ i6 < (lN aA)] ⟨c4, trivial⟩ ?_
    refine kS 0 lo0p 1 (0 + Int.toNat i6) (eI (gD aA i6)) (eI (gD aA j7)) (List.map (eI) aA) [(lo0p, 1, List.map (eI) (List.set aA (Int.toNat i6) (gD aA j7)))] hO (bZ c4) (by simp only [List.set, iH]) ?_
    intro H hO
    replace hN : List.length (List.set aA (Int.toNat i6) (gD aA j7)) = N0 := by simpa using hN
    obtain ⟨c5, h1⟩ := bA h1
    refine cJ 15 [0 ≤ j7 ∧ j7 < (lN aA)] ⟨c5, trivial⟩ ?_
    refine kS 0 lo0p 1 (0 + Int.toNat j7) (eI (gD (List.set aA (Int.toNat i6) (gD aA j7)) j7)) (eI (gD aA i6)) (List.map (eI) (List.set aA (Int.toNat i6) (gD aA j7))) [(lo0p, 1, List.map (eI) (List.set (List.set aA (Int.toNat i6) (gD aA j7)) (Int.toNat j7) (gD aA i6)))] hO (nY c5 (by simp [])) (by simp only [List.set, iH]) ?_
    intro H hO
    replace hN : List.length (List.set (List.set aA (Int.toNat i6) (gD aA j7)) (Int.toNat j7) (gD aA i6)) = N0 := by simpa using hN
    refine nE (by kernel_rfl) ?_
    refine dH (l := [(0, (.msl 1 lo0p 0 (List.length (List.set (List.set aA (Int.toNat i6) (gD aA j7)) (Int.toNat j7) (gD aA i6))))), (6, (eI i6)), (7, (eI j7))]) ⟨[(0, (.msl 1 lo0p 0 (List.length aA))), (6, (eI i6)), (7, (eI j7))], by kernel_rfl, rfl, ⟨aQ.eq (by simp []), aQ.refl _, aQ.refl _, trivial⟩⟩ ?_
    refine aF (aH (?_))
    refine aX aB 3 [6] [(6, (eI (wR (i6 + (1 : Int)))))] ?_
    refine aS aB 3 ?_
    refine aZ ?_
    exact aF (aV (aH (⟨rfl, _, (oI h1).symm, .eq (by kernel_rfl), hO, hN⟩)))
  refine gG 0 ?_
  obtain rfl := oI h1
  obtain rfl : _ = rr0 := ho0
  replace h0 : some aA = some r := h0
  obtain rfl := oI h0
  exact aF (aY (aY (bU (xY (x := (.tup [])) (by kernel_rfl) (aQ.refl _) ⟨rfl, hO.ext, hO.at 0 (by kernel_rfl), by first | rfl | (simp only [List.length_map]; exact hN.trans hN0)⟩))))

theorem tF (lo0p : Nat) (aA : (List Int)) (a1 : Int) (b2 : Int) (r : (Bool × List Int)) (h0 : fE aA a1 b2 = some r) : qP Try.prog 80 lo0p 1 (List.map (eI) aA) (List.map (eI) r.2) [(.msl 1 lo0p 0 (List.length aA)), (eI a1), (eI b2)] (aE r.1) := by
  intro H0 hl0
  refine cY Try.func80 ?_
  have hO := aM.sH hl0
  clear hl0
  obtain ⟨N0, hN0⟩ : ∃ n, n = List.length aA := ⟨_, rfl⟩
  have hN : List.length aA = N0 := hN0.symm
  unfold fE at h0
  refine aX aB 1 [] [] ?_
  refine aX aB 3 [] [(7, (eI (wR (a1 + (1 : Int)))))] ?_
  refine eV (fun T H => ∃ aA : List Int, Has T [(0, (.msl 1 lo0p 0 (List.length aA)))] ∧ aM ⟨H0, [lo0p], []⟩ H [(lo0p, 1, List.map (eI) aA)] ∧ List.length aA = N0 ∧ eT aA = some r) ?_ ?_
  · clear hO hN h0
    rintro T H ⟨aA, hT, hO, hN, h0⟩
    refine bF hT ?_
    clear hT
    unfold eT at h0
    refine aX aB 1 [] [(6, (aE false))] ?_
    refine bH ?_
    obtain rfl := oI h0
    exact aF (jV (x := (aE false)) (by kernel_rfl) (aQ.refl _) ⟨rfl, hO.ext, hO.at 0 (by kernel_rfl), by first | rfl | (simp only [List.length_map]; exact hN.trans hN0)⟩)
  refine aX aB 1 [] [(8, (eI (0 : Int)))] ?_
  refine bW 0 ?_
  refine eE [(0, (.msl 1 lo0p 0 (List.length aA))), (1, (eI a1)), (2, (eI b2)), (7, (eI (wR (a1 + (1 : Int))))), (8, (eI (0 : Int)))] ?_
  refine eH (fun T H => ∃ aA : List Int, ∃ i7 : Int, ∃ j8 : Int, Has T [(0, (.msl 1 lo0p 0 (List.length aA))), (1, (eI a1)), (2, (eI b2)), (7, (eI i7)), (8, (eI j8))] ∧ aM ⟨H0, [lo0p], []⟩ H [(lo0p, 1, List.map (eI) aA)] ∧ List.length aA = N0 ∧ gW aA a1 b2 i7 j8 = some r) ?_ ⟨aA, wR (a1 + (1 : Int)), (0 : Int), .eq (by kernel_rfl), hO, hN, h0⟩
  clear hO hN h0
  rintro T H ⟨aA, i7, j8, hT, hO, hN, h0⟩
  refine bF hT ?_
  clear hT
  unfold gW at h0
  obtain ⟨rr0, hl0, h0⟩ := aW h0
  refine dM (by kernel_rfl) (fun (s : List Int × Int × Int) T H => Has T [(0, (.msl 1 lo0p 0 (List.length s.1))), (1, (eI a1)), (2, (eI b2)), (7, (eI s.2.1)), (8, (eI s.2.2))] ∧ aM ⟨H0, [lo0p], []⟩ H [(lo0p, 1, List.map (eI) s.1)] ∧ List.length s.1 = N0) hl0 ⟨.eq (by kernel_rfl), hO, hN⟩ ?_
  clear hO hN
  rintro k0 s out1 T H ⟨hT, hO, hN⟩ h1 ho0
  obtain ⟨aA, i7, j8⟩ := s
  replace h1 : cA a1 b2 aA i7 j8 = some out1 := h1
  try dsimp only at hT
  refine bF hT ?_
  clear hT
  unfold cA at h1
  refine aO ?_
  refine aX aB 2 [] [(14, (aE (decide (j8 < (5 : Int)))))] ?_
  refine bJ h1 (fun h1 => ?_) (fun h1 => ?_)
  · refine bM ?_
    refine bB [(0, (.msl 1 lo0p 0 (List.length aA))), (1, (eI a1)), (2, (eI b2)), (7, (eI i7)), (8, (eI j8))] ?_
    refine eV (fun T H => ∃ aA : List Int, ∃ i7 : Int, Has T [(0, (.msl 1 lo0p 0 (List.length aA))), (1, (eI a1)), (2, (eI b2)), (7, (eI i7)), (8, (eI j8))] ∧ aM ⟨H0, [lo0p], []⟩ H [(lo0p, 1, List.map (eI) aA)] ∧ List.length aA = N0 ∧ dV aA a1 b2 i7 j8 = some out1) ?_ ?_
    · clear hO hN h1
      rintro T H ⟨aA, i7, hT, hO, hN, h1⟩
      refine bF hT ?_
      clear hT
      unfold dV at h1
      refine aS aB 3 ?_
      refine aZ ?_
      exact aF (aH (⟨rfl, _, (oI h1).symm, .eq (by kernel_rfl), hO, hN⟩))
    refine bW 1 ?_
    refine eV (fun T H => ∃ aA : List Int, ∃ i7 : Int, Has T [(0, (.msl 1 lo0p 0 (List.length aA))), (1, (eI a1)), (2, (eI b2)), (7, (eI i7)), (8, (eI j8))] ∧ aM ⟨H0, [lo0p], []⟩ H [(lo0p, 1, List.map (eI) aA)] ∧ List.length aA = N0 ∧ eS aA a1 b2 i7 j8 = some out1) ?_ ?_
    · clear hO hN h1
      rintro T H ⟨aA, i7, hT, hO, hN, h1⟩
      refine bF hT ?_
      clear hT
      unfold eS at h1
      refine aO ?_
      refine aX aB 3 [] [(37, (aE (decide (i7 = b2))))] ?_
      refine bJ h1 (fun h1 => ?_) (fun h1 => ?_)
      · refine aX aB 1 [1, 2, 7, 8, 37] [(6, (aE true))] ?_
        refine bH ?_
        obtain rfl := oI h1
        obtain rfl : _ = rr0 := ho0
        replace h0 : some (true, aA) = some r := h0
        obtain rfl := oI h0
        exact aF (aU (bD (aU (aU (bD (aU (jV (x := (aE true)) (by kernel_rfl) (aQ.refl _) ⟨rfl, hO.ext, hO.at 0 (by kernel_rfl), by first | rfl | (simp only [List.length_map]; exact hN.trans hN0)⟩)))))))
      refine bM ?_
      refine bB [(0, (.msl 1 lo0p 0 (List.length aA))), (1, (eI a1)), (2, (eI b2)), (7, (eI i7)), (8, (eI j8))] ?_
      refine aO ?_
      refine aX aB 4 [] [(41, (aE (decide ((wR (b2 - a1)) < (50 : Int)))))] ?_
      refine bJ h1 (fun h1 => ?_) (fun h1 => ?_)
      · refine aX aB 1 [1, 2, 7, 8, 41] [(6, (aE false))] ?_
        refine bH ?_
        obtain rfl := oI h1
        obtain rfl : _ = rr0 := ho0
        replace h0 : some (false, aA) = some r := h0
        obtain rfl := oI h0
        exact aF (aU (bD (aU (aU (bD (aU (jV (x := (aE false)) (by kernel_rfl) (aQ.refl _) ⟨rfl, hO.ext, hO.at 0 (by kernel_rfl), by first | rfl | (simp only [List.length_map]; exact hN.trans hN0)⟩)))))))
      refine bM ?_
      refine bB [(0, (.msl 1 lo0p 0 (List.length aA))), (1, (eI a1)), (2, (eI b2)), (7, (eI i7)), (8, (eI j8))] ?_
      refine aO ?_
      refine fX (fZ []) aB 18 ?_
      obtain ⟨c4, h1⟩ := bA h1
      refine cJ 9 [0 ≤ (wR (i7 - (1 : Int))) ∧ (wR (i7 - (1 : Int))) < (lN aA)] ⟨c4, trivial⟩ ?_
      refine fU 0 lo0p 1 (0 + Int.toNat (wR (i7 - (1 : Int)))) (eI (gD aA (wR (i7 - (1 : Int))))) (eI (gD aA (wR (i7 - (1 : Int))))) (List.map (eI) aA) hO (bZ c4) ?_
      obtain ⟨c5, h1⟩ := bA h1
      refine cJ 13 [0 ≤ i7 ∧ i7 < (lN aA)] ⟨c5, trivial⟩ ?_
      refine fU 0 lo0p 1 (0 + Int.toNat i7) (eI (gD aA i7)) (eI (gD aA i7)) (List.map (eI) aA) hO (bZ c5) ?_
      obtain ⟨c6, h1⟩ := bA h1
      refine cJ 15 [0 ≤ i7 ∧ i7 < (lN aA)] ⟨c6, trivial⟩ ?_
      refine kS 0 lo0p 1 (0 + Int.toNat i7) (eI (gD aA i7)) (eI (gD aA (wR (i7 - (1 : Int))))) (List.map (eI) aA) [(lo0p, 1, List.map (eI) (List.set aA (Int.toNat i7) (gD aA (wR (i7 - (1 : Int))))))] hO (bZ c6) (by simp only [List.set, iH]) ?_
      intro H hO
      replace hN : List.length (List.set aA (Int.toNat i7) (gD aA (wR (i7 - (1 : Int))))) = N0 := by simpa using hN
      obtain ⟨c7, h1⟩ := bA h1
      refine cJ 17 [0 ≤ (wR (i7 - (1 : Int))) ∧ (wR (i7 - (1 : Int))) < (lN aA)] ⟨c7, trivial⟩ ?_
      refine kS 0 lo0p 1 (0 + Int.toNat (wR (i7 - (1 : Int)))) (eI (gD (List.set aA (Int.toNat i7) (gD aA (wR (i7 - (1 : Int))))) (wR (i7 - (1 : Int))))) (eI (gD aA i7)) (List.map (eI) (List.set aA (Int.toNat i7) (gD aA (wR (i7 - (1 : Int)))))) [(lo0p, 1, List.map (eI) (List.set (List.set aA (Int.toNat i7) (gD aA (wR (i7 - (1 : Int))))) (Int.toNat (wR (i7 - (1 : Int)))) (gD aA i7)))] hO (nY c7 (by simp [])) (by simp only [List.set, iH]) ?_
      intro H hO
      replace hN : List.length (List.set (List.set aA (Int.toNat i7) (gD aA (wR (i7 - (1 : Int))))) (Int.toNat (wR (i7 - (1 : Int)))) (gD aA i7)) = N0 := by simpa using hN
      refine nE (by kernel_rfl) ?_
      refine dH (l := [(0, (.msl 1 lo0p 0 (List.length (List.set (List.set aA (Int.toNat i7) (gD aA (wR (i7 - (1 : Int))))) (Int.toNat (wR (i7 - (1 : Int)))) (gD aA i7))))), (1, (eI a1)), (2, (eI b2)), (7, (eI i7)), (8, (eI j8))]) ⟨[(0, (.msl 1 lo0p 0 (List.length aA))), (1, (eI a1)), (2, (eI b2)), (7, (eI i7)), (8, (eI j8))], by kernel_rfl, rfl, ⟨aQ.eq (by simp []), aQ.refl _, aQ.refl _, aQ.refl _, aQ.refl _, trivial⟩⟩ ?_
      refine aF (aH (?_))
      refine eV (fun T H => ∃ aA : List Int, Has T [(0, (.msl 1 lo0p 0 (List.length aA))), (1, (eI a1)), (2, (eI b2)), (7, (eI i7)), (8, (eI j8))] ∧ aM ⟨H0, [lo0p], []⟩ H [(lo0p, 1, List.map (eI) aA)] ∧ List.length aA = N0 ∧ cK aA a1 b2 i7 j8 = some out1) ?_ ?_
      · clear hO hN h1
        rintro T H ⟨aA, hT, hO, hN, h1⟩
        refine bF hT ?_
        clear hT
        unfold cK at h1
        refine aX aB 4 [] [(98, (aE (decide ((2 : Int) ≤ (wR (b2 - i7))))))] ?_
        refine bJ h1 (fun h1 => ?_) (fun h1 => ?_)
        · refine aX aB 3 [98] [(10, (eI (wR (i7 + (1 : Int)))))] ?_
          refine bW 6 ?_
          refine eE [(0, (.msl 1 lo0p 0 (List.length aA))), (1, (eI a1)), (2, (eI b2)), (7, (eI i7)), (8, (eI j8)), (10, (eI (wR (i7 + (1 : Int)))))] ?_
          refine eH (fun T H => ∃ aA : List Int, ∃ j10 : Int, Has T [(0, (.msl 1 lo0p 0 (List.length aA))), (1, (eI a1)), (2, (eI b2)), (7, (eI i7)), (8, (eI j8)), (10, (eI j10))] ∧ aM ⟨H0, [lo0p], []⟩ H [(lo0p, 1, List.map (eI) aA)] ∧ List.length aA = N0 ∧ gY aA a1 b2 i7 j8 j10 = some out1) ?_ ⟨aA, wR (i7 + (1 : Int)), .eq (by kernel_rfl), hO, hN, h1⟩
          clear hO hN h1
          rintro T H ⟨aA, j10, hT, hO, hN, h1⟩
          refine bF hT ?_
          clear hT
          unfold gY at h1
          obtain ⟨rr1, hl1, h1⟩ := aW h1
          refine dM (by kernel_rfl) (fun (s : List Int × Int) T H => Has T [(0, (.msl 1 lo0p 0 (List.length s.1))), (1, (eI a1)), (2, (eI b2)), (7, (eI i7)), (8, (eI j8)), (10, (eI s.2))] ∧ aM ⟨H0, [lo0p], []⟩ H [(lo0p, 1, List.map (eI) s.1)] ∧ List.length s.1 = N0) hl1 ⟨.eq (by kernel_rfl), hO, hN⟩ ?_
          clear hO hN
          rintro k1 s out2 T H ⟨hT, hO, hN⟩ h2 ho1
          obtain ⟨aA, j10⟩ := s
          replace h2 : cR a1 b2 i7 j8 aA j10 = some out2 := h2
          try dsimp only at hT
          refine bF hT ?_
          clear hT
          unfold cR at h2
          refine aO ?_
          refine aX aB 3 [] [(103, (aE (decide (j10 < b2))))] ?_
          refine bJ h2 (fun h2 => ?_) (fun h2 => ?_)
          · refine bM ?_
            refine bB [(0, (.msl 1 lo0p 0 (List.length aA))), (1, (eI a1)), (2, (eI b2)), (7, (eI i7)), (8, (eI j8)), (10, (eI j10))] ?_
            refine aO ?_
            refine bW 7 ?_
            refine aO ?_
            refine aO ?_
            refine fX (fZ [115]) aB 11 ?_
            obtain ⟨c10, h2⟩ := bA h2
            refine cJ 3 [0 ≤ j10 ∧ j10 < (lN aA)] ⟨c10, trivial⟩ ?_
            refine fU 0 lo0p 1 (0 + Int.toNat j10) (eI (gD aA j10)) (eI (gD aA j10)) (List.map (eI) aA) hO (bZ c10) ?_
            obtain ⟨c11, h2⟩ := bA h2
            refine cJ 8 [0 ≤ (wR (j10 - (1 : Int))) ∧ (wR (j10 - (1 : Int))) < (lN aA)] ⟨c11, trivial⟩ ?_
            refine fU 0 lo0p 1 (0 + Int.toNat (wR (j10 - (1 : Int)))) (eI (gD aA (wR (j10 - (1 : Int))))) (eI (gD aA (wR (j10 - (1 : Int))))) (List.map (eI) aA) hO (bZ c11) ?_
            obtain ⟨x12, hx13, h2⟩ := aW h2
            refine zW (gC (gD aA j10) (gD aA (wR (j10 - (1 : Int)))) _ hx13) hO ?_
            intro H hO
            refine kJ ?_
            refine bO [] [(116, (aE (!x12)))] ?_
            refine bJ h2 (fun h2 => ?_) (fun h2 => ?_)
            · refine gG 6 ?_
              obtain rfl := oI h2
              obtain rfl : _ = rr1 := ho1
              replace h1 : dV aA a1 b2 i7 j8 = some out1 := h1
              exact aF (aY (rS (by kernel_rfl) (aY (aY (bU (aV (aH (⟨rfl, _, _, .eq (by kernel_rfl), hO, hN, h1⟩))))))))
            refine bM ?_
            refine bB [(0, (.msl 1 lo0p 0 (List.length aA))), (1, (eI a1)), (2, (eI b2)), (7, (eI i7)), (8, (eI j8)), (10, (eI j10))] ?_
            refine fX (fZ []) aB 18 ?_
            obtain ⟨c16, h2⟩ := bA h2
            refine cJ 9 [0 ≤ (wR (j10 - (1 : Int))) ∧ (wR (j10 - (1 : Int))) < (lN aA)] ⟨c16, trivial⟩ ?_
            refine fU 0 lo0p 1 (0 + Int.toNat (wR (j10 - (1 : Int)))) (eI (gD aA (wR (j10 - (1 : Int))))) (eI (gD aA (wR (j10 - (1 : Int))))) (List.map (eI) aA) hO (bZ c16) ?_
            obtain ⟨c17, h2⟩ := bA h2
            refine cJ 13 [0 ≤ j10 ∧ j10 < (lN aA)] ⟨c17, trivial⟩ ?_
            refine fU 0 lo0p 1 (0 + Int.toNat j10) (eI (gD aA j10)) (eI (gD aA j10)) (List.map (eI) aA) hO (bZ c17) ?_
            obtain ⟨c18, h2⟩ := bA h2
            refine cJ 15 [0 ≤ j10 ∧ j10 < (lN aA)] ⟨c18, trivial⟩ ?_
            refine kS 0 lo0p 1 (0 + Int.toNat j10) (eI (gD aA j10)) (eI (gD aA (wR (j10 - (1 : Int))))) (List.map (eI) aA) [(lo0p, 1, List.map (eI) (List.set aA (Int.toNat j10) (gD aA (wR (j10 - (1 : Int))))))] hO (bZ c18) (by simp only [List.set, iH]) ?_
            intro H hO
            replace hN : List.length (List.set aA (Int.toNat j10) (gD aA (wR (j10 - (1 : Int))))) = N0 := by simpa using hN
            obtain ⟨c19, h2⟩ := bA h2
            refine cJ 17 [0 ≤ (wR (j10 - (1 : Int))) ∧ (wR (j10 - (1 : Int))) < (lN aA)] ⟨c19, trivial⟩ ?_
            refine kS 0 lo0p 1 (0 + Int.toNat (wR (j10 - (1 : Int)))) (eI (gD (List.set aA (Int.toNat j10) (gD aA (wR (j10 - (1 : Int))))) (wR (j10 - (1 : Int))))) (eI (gD aA j10)) (List.map (eI) (List.set aA (Int.toNat j10) (gD aA (wR (j10 - (1 : Int)))))) [(lo0p, 1, List.map (eI) (List.set (List.set aA (Int.toNat j10) (gD aA (wR (j10 - (1 : Int))))) (Int.toNat (wR (j10 - (1 : Int)))) (gD aA j10)))] hO (nY c19 (by simp [])) (by simp only [List.set, iH]) ?_
            intro H hO
            replace hN : List.length (List.set (List.set aA (Int.toNat j10) (gD aA (wR (j10 - (1 : Int))))) (Int.toNat (wR (j10 - (1 : Int)))) (gD aA j10)) = N0 := by simpa using hN
            refine nE (by kernel_rfl) ?_
            refine dH (l := [(0, (.msl 1 lo0p 0 (List.length (List.set (List.set aA (Int.toNat j10) (gD aA (wR (j10 - (1 : Int))))) (Int.toNat (wR (j10 - (1 : Int)))) (gD aA j10))))), (1, (eI a1)), (2, (eI b2)), (7, (eI i7)), (8, (eI j8)), (10, (eI j10))]) ⟨[(0, (.msl 1 lo0p 0 (List.length aA))), (1, (eI a1)), (2, (eI b2)), (7, (eI i7)), (8, (eI j8)), (10, (eI j10))], by kernel_rfl, rfl, ⟨aQ.eq (by simp []), aQ.refl _, aQ.refl _, aQ.refl _, aQ.refl _, aQ.refl _, trivial⟩⟩ ?_
            refine aF (aV (aH (?_)))
            refine aS aB 3 ?_
            refine aZ ?_
            exact aF (aH (⟨rfl, _, (oI h2).symm, .eq (by kernel_rfl), hO, hN⟩))
          refine gG 6 ?_
          obtain rfl := oI h2
          obtain rfl : _ = rr1 := ho1
          replace h1 : dV aA a1 b2 i7 j8 = some out1 := h1
          exact aF (aY (aY (bU (aV (aH (⟨rfl, _, _, .eq (by kernel_rfl), hO, hN, h1⟩))))))
        refine bM ?_
        exact aF (aV (aH (⟨rfl, _, _, .eq (by kernel_rfl), hO, hN, h1⟩)))
      refine aX aB 4 [] [(61, (aE (decide ((2 : Int) ≤ (wR (i7 - a1))))))] ?_
      refine bJ h1 (fun h1 => ?_) (fun h1 => ?_)
      · refine aX aB 3 [61] [(9, (eI (wR (i7 - (1 : Int)))))] ?_
        refine bW 4 ?_
        refine eE [(0, (.msl 1 lo0p 0 (List.length (List.set (List.set aA (Int.toNat i7) (gD aA (wR (i7 - (1 : Int))))) (Int.toNat (wR (i7 - (1 : Int)))) (gD aA i7))))), (1, (eI a1)), (2, (eI b2)), (7, (eI i7)), (8, (eI j8)), (9, (eI (wR (i7 - (1 : Int)))))] ?_
        refine eH (fun T H => ∃ aA : List Int, ∃ j9 : Int, Has T [(0, (.msl 1 lo0p 0 (List.length aA))), (1, (eI a1)), (2, (eI b2)), (7, (eI i7)), (8, (eI j8)), (9, (eI j9))] ∧ aM ⟨H0, [lo0p], []⟩ H [(lo0p, 1, List.map (eI) aA)] ∧ List.length aA = N0 ∧ gZ aA a1 b2 i7 j8 j9 = some out1) ?_ ⟨List.set (List.set aA (Int.toNat i7) (gD aA (wR (i7 - (1 : Int))))) (Int.toNat (wR (i7 - (1 : Int)))) (gD aA i7), wR (i7 - (1 : Int)), .eq (by kernel_rfl), hO, hN, h1⟩
        clear hO hN h1
        rintro T H ⟨aA, j9, hT, hO, hN, h1⟩
        refine bF hT ?_
        clear hT
        unfold gZ at h1
        obtain ⟨rr1, hl1, h1⟩ := aW h1
        refine dM (by kernel_rfl) (fun (s : List Int × Int) T H => Has T [(0, (.msl 1 lo0p 0 (List.length s.1))), (1, (eI a1)), (2, (eI b2)), (7, (eI i7)), (8, (eI j8)), (9, (eI s.2))] ∧ aM ⟨H0, [lo0p], []⟩ H [(lo0p, 1, List.map (eI) s.1)] ∧ List.length s.1 = N0) hl1 ⟨.eq (by kernel_rfl), hO, hN⟩ ?_
        clear hO hN
        rintro k1 s out2 T H ⟨hT, hO, hN⟩ h2 ho1
        obtain ⟨aA, j9⟩ := s
        replace h2 : cL a1 b2 i7 j8 aA j9 = some out2 := h2
        try dsimp only at hT
        refine bF hT ?_
        clear hT
        unfold cL at h2
        refine aO ?_
        refine aX aB 2 [] [(65, (aE (decide ((1 : Int) ≤ j9))))] ?_
        refine bJ h2 (fun h2 => ?_) (fun h2 => ?_)
        · refine bM ?_
          refine bB [(0, (.msl 1 lo0p 0 (List.length aA))), (1, (eI a1)), (2, (eI b2)), (7, (eI i7)), (8, (eI j8)), (9, (eI j9))] ?_
          refine aO ?_
          refine bW 5 ?_
          refine aO ?_
          refine aO ?_
          refine fX (fZ [77]) aB 11 ?_
          obtain ⟨c22, h2⟩ := bA h2
          refine cJ 3 [0 ≤ j9 ∧ j9 < (lN aA)] ⟨c22, trivial⟩ ?_
          refine fU 0 lo0p 1 (0 + Int.toNat j9) (eI (gD aA j9)) (eI (gD aA j9)) (List.map (eI) aA) hO (bZ c22) ?_
          obtain ⟨c23, h2⟩ := bA h2
          refine cJ 8 [0 ≤ (wR (j9 - (1 : Int))) ∧ (wR (j9 - (1 : Int))) < (lN aA)] ⟨c23, trivial⟩ ?_
          refine fU 0 lo0p 1 (0 + Int.toNat (wR (j9 - (1 : Int)))) (eI (gD aA (wR (j9 - (1 : Int))))) (eI (gD aA (wR (j9 - (1 : Int))))) (List.map (eI) aA) hO (bZ c23) ?_
          obtain ⟨x24, hx25, h2⟩ := aW h2
          refine zW (gC (gD aA j9) (gD aA (wR (j9 - (1 : Int)))) _ hx25) hO ?_
          intro H hO
          refine kJ ?_
          refine bO [] [(78, (aE (!x24)))] ?_
          refine bJ h2 (fun h2 => ?_) (fun h2 => ?_)
          · refine gG 4 ?_
            obtain rfl := oI h2
            obtain rfl : _ = rr1 := ho1
            replace h1 : cK aA a1 b2 i7 j8 = some out1 := h1
            exact aF (aY (rS (by kernel_rfl) (aY (aY (bU (aH (⟨rfl, _, .eq (by kernel_rfl), hO, hN, h1⟩)))))))
          refine bM ?_
          refine bB [(0, (.msl 1 lo0p 0 (List.length aA))), (1, (eI a1)), (2, (eI b2)), (7, (eI i7)), (8, (eI j8)), (9, (eI j9))] ?_
          refine fX (fZ []) aB 18 ?_
          obtain ⟨c28, h2⟩ := bA h2
          refine cJ 9 [0 ≤ (wR (j9 - (1 : Int))) ∧ (wR (j9 - (1 : Int))) < (lN aA)] ⟨c28, trivial⟩ ?_
          refine fU 0 lo0p 1 (0 + Int.toNat (wR (j9 - (1 : Int)))) (eI (gD aA (wR (j9 - (1 : Int))))) (eI (gD aA (wR (j9 - (1 : Int))))) (List.map (eI) aA) hO (bZ c28) ?_
          obtain ⟨c29, h2⟩ := bA h2
          refine cJ 13 [0 ≤ j9 ∧ j9 < (lN aA)] ⟨c29, trivial⟩ ?_
          refine fU 0 lo0p 1 (0 + Int.toNat j9) (eI (gD aA j9)) (eI (gD aA j9)) (List.map (eI) aA) hO (bZ c29) ?_
          obtain ⟨c30, h2⟩ := bA h2
          refine cJ 15 [0 ≤ j9 ∧ j9 < (lN aA)] ⟨c30, trivial⟩ ?_
          refine kS 0 lo0p 1 (0 + Int.toNat j9) (eI (gD aA j9)) (eI (gD aA (wR (j9 - (1 : Int))))) (List.map (eI) aA) [(lo0p, 1, List.map (eI) (List.set aA (Int.toNat j9) (gD aA (wR (j9 - (1 : Int))))))] hO (bZ c30) (by simp only [List.set, iH]) ?_
          intro H hO
          replace hN : List.length (List.set aA (Int.toNat j9) (gD aA (wR (j9 - (1 : Int))))) = N0 := by simpa using hN
          obtain ⟨c31, h2⟩ := bA h2
          refine cJ 17 [0 ≤ (wR (j9 - (1 : Int))) ∧ (wR (j9 - (1 : Int))) < (lN aA)] ⟨c31, trivial⟩ ?_
          refine kS 0 lo0p 1 (0 + Int.toNat (wR (j9 - (1 : Int)))) (eI (gD (List.set aA (Int.toNat j9) (gD aA (wR (j9 - (1 : Int))))) (wR (j9 - (1 : Int))))) (eI (gD aA j9)) (List.map (eI) (List.set aA (Int.toNat j9) (gD aA (wR (j9 - (1 : Int)))))) [(lo0p, 1, List.map (eI) (List.set (List.set aA (Int.toNat j9) (gD aA (wR (j9 - (1 : Int))))) (Int.toNat (wR (j9 - (1 : Int)))) (gD aA j9)))] hO (nY c31 (by simp [])) (by simp only [List.set, iH]) ?_
          intro H hO
          replace hN : List.length (List.set (List.set aA (Int.toNat j9) (gD aA (wR (j9 - (1 : Int))))) (Int.toNat (wR (j9 - (1 : Int)))) (gD aA j9)) = N0 := by simpa using hN
          refine nE (by kernel_rfl) ?_
          refine dH (l := [(0, (.msl 1 lo0p 0 (List.length (List.set (List.set aA (Int.toNat j9) (gD aA (wR (j9 - (1 : Int))))) (Int.toNat (wR (j9 - (1 : Int)))) (gD aA j9))))), (1, (eI a1)), (2, (eI b2)), (7, (eI i7)), (8, (eI j8)), (9, (eI j9))]) ⟨[(0, (.msl 1 lo0p 0 (List.length aA))), (1, (eI a1)), (2, (eI b2)), (7, (eI i7)), (8, (eI j8)), (9, (eI j9))], by kernel_rfl, rfl, ⟨aQ.eq (by simp []), aQ.refl _, aQ.refl _, aQ.refl _, aQ.refl _, aQ.refl _, trivial⟩⟩ ?_
          refine aF (aV (aH (?_)))
          refine aS aB 3 ?_
          refine aZ ?_
          exact aF (aH (⟨rfl, _, (oI h2).symm, .eq (by kernel_rfl), hO, hN⟩))
        refine gG 4 ?_
        obtain rfl := oI h2
        obtain rfl : _ = rr1 := ho1
        replace h1 : cK aA a1 b2 i7 j8 = some out1 := h1
        exact aF (aY (aY (bU (aH (⟨rfl, _, .eq (by kernel_rfl), hO, hN, h1⟩)))))
      refine bM ?_
      exact aF (aH (⟨rfl, _, .eq (by kernel_rfl), hO, hN, h1⟩))
    refine bW 2 ?_
    refine eE [(0, (.msl 1 lo0p 0 (List.length aA))), (1, (eI a1)), (2, (eI b2)), (7, (eI i7)), (8, (eI j8))] ?_
    refine eH (fun T H => ∃ aA : List Int, ∃ i7 : Int, Has T [(0, (.msl 1 lo0p 0 (List.length aA))), (1, (eI a1)), (2, (eI b2)), (7, (eI i7)), (8, (eI j8))] ∧ aM ⟨H0, [lo0p], []⟩ H [(lo0p, 1, List.map (eI) aA)] ∧ List.length aA = N0 ∧ dJ aA a1 b2 i7 j8 = some out1) ?_ ⟨aA, i7, .eq (by kernel_rfl), hO, hN, h1⟩
    clear hO hN h1
    rintro T H ⟨aA, i7, hT, hO, hN, h1⟩
    refine bF hT ?_
    clear hT
    unfold dJ at h1
    obtain ⟨rr1, hl1, h1⟩ := aW h1
    refine dM (by kernel_rfl) (fun (s : List Int × Int) T H => Has T [(0, (.msl 1 lo0p 0 (List.length s.1))), (1, (eI a1)), (2, (eI b2)), (7, (eI s.2)), (8, (eI j8))] ∧ aM ⟨H0, [lo0p], []⟩ H [(lo0p, 1, List.map (eI) s.1)] ∧ List.length s.1 = N0) hl1 ⟨.eq (by kernel_rfl), hO, hN⟩ ?_
    clear hO hN
    rintro k1 s out2 T H ⟨hT, hO, hN⟩ h2 ho1
    obtain ⟨aA, i7⟩ := s
    replace h2 : cS a1 b2 j8 aA i7 = some out2 := h2
    try dsimp only at hT
    refine bF hT ?_
    clear hT
    unfold cS at h2
    refine aO ?_
    refine aO ?_
    obtain ⟨c32, h2⟩ := bA h2
    obtain ⟨c33, h2⟩ := bA h2
    obtain ⟨x34, hx35, h2⟩ := aW h2
    refine fX (fZ []) aB 16 ?_
    refine rL (K := fun T H => Has (lift T) [(0, (.msl 1 lo0p 0 (List.length aA))), (1, (eI a1)), (2, (eI b2)), (7, (eI i7)), (8, (eI j8)), (32, (aE ((decide (i7 < b2)) && (!x34))))] ∧ aM ⟨H0, [lo0p], []⟩ H [(lo0p, 1, List.map (eI) aA)]) ?_ ?_
    · refine kE 4 ?_
      refine oR (t := 20) (e := decide (i7 < b2)) (by kernel_rfl) (fun hg36 => ?_) (fun hg36 => ?_)
      · refine cJ 7 [0 ≤ i7 ∧ i7 < (lN aA)] ⟨(c32 hg36), trivial⟩ ?_
        refine iZ 0 lo0p 1 (0 + Int.toNat i7) (eI (gD aA i7)) (eI (gD aA i7)) (List.map (eI) aA) (by kernel_rfl) (by kernel_rfl) (by kernel_rfl) hO (by kernel_rfl) (bZ (c32 hg36)) ?_
        refine cJ 12 [0 ≤ (wR (i7 - (1 : Int))) ∧ (wR (i7 - (1 : Int))) < (lN aA)] ⟨(c33 hg36), trivial⟩ ?_
        refine iZ 0 lo0p 1 (0 + Int.toNat (wR (i7 - (1 : Int)))) (eI (gD aA (wR (i7 - (1 : Int))))) (eI (gD aA (wR (i7 - (1 : Int))))) (List.map (eI) aA) (by kernel_rfl) (by kernel_rfl) (by kernel_rfl) hO (by kernel_rfl) (bZ (c33 hg36)) ?_
        refine pV 54 [(eI (gD aA i7)), (eI (gD aA (wR (i7 - (1 : Int)))))] (aE x34) (by kernel_rfl) (by kernel_rfl) (gC (gD aA i7) (gD aA (wR (i7 - (1 : Int)))) _ (jP hx35 hg36)) hO ?_
        intro H hO
        refine kJ ?_
        exact ⟨⟨[(0, (.msl 1 lo0p 0 (List.length aA))), (1, (eI a1)), (2, (eI b2)), (7, (eI i7)), (8, (eI j8)), (32, (aE (!x34)))], by kernel_rfl, rfl, ⟨aQ.refl _, aQ.refl _, aQ.refl _, aQ.refl _, aQ.refl _, aQ.eq (congrArg aE (nU hg36 rfl).symm), trivial⟩⟩, hO⟩
      refine kJ ?_
      exact ⟨⟨[(0, (.msl 1 lo0p 0 (List.length aA))), (1, (eI a1)), (2, (eI b2)), (7, (eI i7)), (8, (eI j8)), (32, (aE false))], by kernel_rfl, rfl, ⟨aQ.refl _, aQ.refl _, aQ.refl _, aQ.refl _, aQ.refl _, aQ.eq (congrArg aE (nU hg36 rfl).symm), trivial⟩⟩, hO⟩
    · rintro T H ⟨hT, hO⟩
      refine dH hT ?_
      clear hT
      refine aF (aH ?_)
      refine bJ h2 (fun h2 => ?_) (fun h2 => ?_)
      · refine bM ?_
        refine bB [(0, (.msl 1 lo0p 0 (List.length aA))), (1, (eI a1)), (2, (eI b2)), (7, (eI i7)), (8, (eI j8))] ?_
        refine bW 3 ?_
        refine aS aB 3 ?_
        refine aZ ?_
        exact aF (aV (aH (⟨rfl, _, (oI h2).symm, .eq (by kernel_rfl), hO, hN⟩)))
      refine gG 2 ?_
      obtain rfl := oI h2
      obtain rfl : _ = rr1 := ho1
      replace h1 : eS aA a1 b2 i7 j8 = some out1 := h1
      exact aF (aY (aY (bU (aH (⟨rfl, _, _, .eq (by kernel_rfl), hO, hN, h1⟩)))))
  refine gG 0 ?_
  obtain rfl := oI h1
  obtain rfl : _ = rr0 := ho0
  replace h0 : eT aA = some r := h0
  exact aF (aY (aY (bU (aH (⟨rfl, _, .eq (by kernel_rfl), hO, hN, h0⟩)))))

theorem wW (lo0p : Nat) (aA : (List Int)) (a1 : Int) (b2 : Int) (cM : Int) (r : (Int × List Int)) (h0 : fG aA a1 b2 cM = some r) : qP Try.prog 81 lo0p 1 (List.map (eI) aA) (List.map (eI) r.2) [(.msl 1 lo0p 0 (List.length aA)), (eI a1), (eI b2), (eI cM)] (eI r.1) := by
  intro H0 hl0
  refine cY Try.func81 ?_
  have hO := aM.sH hl0
  clear hl0
  obtain ⟨N0, hN0⟩ : ∃ n, n = List.length aA := ⟨_, rfl⟩
  have hN : List.length aA = N0 := hN0.symm
  unfold fG at h0
  refine aX aB 1 [] [] ?_
  refine aO ?_
  refine fX (fZ []) aB 16 ?_
  obtain ⟨c1, h0⟩ := bA h0
  refine cJ 7 [0 ≤ cM ∧ cM < (lN aA)] ⟨c1, trivial⟩ ?_
  refine fU 0 lo0p 1 (0 + Int.toNat cM) (eI (gD aA cM)) (eI (gD aA cM)) (List.map (eI) aA) hO (bZ c1) ?_
  obtain ⟨c2, h0⟩ := bA h0
  refine cJ 11 [0 ≤ a1 ∧ a1 < (lN aA)] ⟨c2, trivial⟩ ?_
  refine fU 0 lo0p 1 (0 + Int.toNat a1) (eI (gD aA a1)) (eI (gD aA a1)) (List.map (eI) aA) hO (bZ c2) ?_
  obtain ⟨c3, h0⟩ := bA h0
  refine cJ 13 [0 ≤ a1 ∧ a1 < (lN aA)] ⟨c3, trivial⟩ ?_
  refine kS 0 lo0p 1 (0 + Int.toNat a1) (eI (gD aA a1)) (eI (gD aA cM)) (List.map (eI) aA) [(lo0p, 1, List.map (eI) (List.set aA (Int.toNat a1) (gD aA cM)))] hO (bZ c3) (by simp only [List.set, iH]) ?_
  intro H hO
  replace hN : List.length (List.set aA (Int.toNat a1) (gD aA cM)) = N0 := by simpa using hN
  obtain ⟨c4, h0⟩ := bA h0
  refine cJ 15 [0 ≤ cM ∧ cM < (lN aA)] ⟨c4, trivial⟩ ?_
  refine kS 0 lo0p 1 (0 + Int.toNat cM) (eI (gD (List.set aA (Int.toNat a1) (gD aA cM)) cM)) (eI (gD aA a1)) (List.map (eI) (List.set aA (Int.toNat a1) (gD aA cM))) [(lo0p, 1, List.map (eI) (List.set (List.set aA (Int.toNat a1) (gD aA cM)) (Int.toNat cM) (gD aA a1)))] hO (nY c4 (by simp [])) (by simp only [List.set, iH]) ?_
  intro H hO
  replace hN : List.length (List.set (List.set aA (Int.toNat a1) (gD aA cM)) (Int.toNat cM) (gD aA a1)) = N0 := by simpa using hN
  refine nE (by kernel_rfl) ?_
  refine dH (l := [(0, (.msl 1 lo0p 0 (List.length (List.set (List.set aA (Int.toNat a1) (gD aA cM)) (Int.toNat cM) (gD aA a1))))), (1, (eI a1)), (2, (eI b2))]) ⟨[(0, (.msl 1 lo0p 0 (List.length aA))), (1, (eI a1)), (2, (eI b2))], by kernel_rfl, rfl, ⟨aQ.eq (by simp []), aQ.refl _, aQ.refl _, trivial⟩⟩ ?_
  refine aF (aH (?_))
  refine aX aB 6 [2] [(9, (eI (wR (a1 + (1 : Int))))), (10, (eI (wR (b2 - (1 : Int)))))] ?_
  refine eV (fun T H => ∃ aA : List Int, ∃ i9 : Int, Has T [(0, (.msl 1 lo0p 0 (List.length aA))), (9, (eI i9))] ∧ aM ⟨H0, [lo0p], []⟩ H [(lo0p, 1, List.map (eI) aA)] ∧ List.length aA = N0 ∧ jL aA i9 = some r) ?_ ?_
  · clear hO hN h0
    rintro T H ⟨aA, i9, hT, hO, hN, h0⟩
    refine bF hT ?_
    clear hT
    unfold jL at h0
    refine aX aB 2 [9] [(8, (eI i9))] ?_
    refine bH ?_
    obtain rfl := oI h0
    exact aF (jV (x := (eI i9)) (by kernel_rfl) (aQ.refl _) ⟨rfl, hO.ext, hO.at 0 (by kernel_rfl), by first | rfl | (simp only [List.length_map]; exact hN.trans hN0)⟩)
  refine bW 0 ?_
  refine eE [(0, (.msl 1 lo0p 0 (List.length (List.set (List.set aA (Int.toNat a1) (gD aA cM)) (Int.toNat cM) (gD aA a1))))), (1, (eI a1)), (9, (eI (wR (a1 + (1 : Int))))), (10, (eI (wR (b2 - (1 : Int)))))] ?_
  refine eH (fun T H => ∃ aA : List Int, ∃ i9 : Int, ∃ j10 : Int, Has T [(0, (.msl 1 lo0p 0 (List.length aA))), (1, (eI a1)), (9, (eI i9)), (10, (eI j10))] ∧ aM ⟨H0, [lo0p], []⟩ H [(lo0p, 1, List.map (eI) aA)] ∧ List.length aA = N0 ∧ jN aA a1 i9 j10 = some r) ?_ ⟨List.set (List.set aA (Int.toNat a1) (gD aA cM)) (Int.toNat cM) (gD aA a1), wR (a1 + (1 : Int)), wR (b2 - (1 : Int)), .eq (by kernel_rfl), hO, hN, h0⟩
  clear hO hN h0
  rintro T H ⟨aA, i9, j10, hT, hO, hN, h0⟩
  refine bF hT ?_
  clear hT
  unfold jN at h0
  obtain ⟨rr0, hl0, h0⟩ := aW h0
  refine dM (by kernel_rfl) (fun (s : List Int × Int × Int) T H => Has T [(0, (.msl 1 lo0p 0 (List.length s.1))), (1, (eI a1)), (9, (eI s.2.1)), (10, (eI s.2.2))] ∧ aM ⟨H0, [lo0p], []⟩ H [(lo0p, 1, List.map (eI) s.1)] ∧ List.length s.1 = N0) hl0 ⟨.eq (by kernel_rfl), hO, hN⟩ ?_
  clear hO hN
  rintro k0 s out1 T H ⟨hT, hO, hN⟩ h1 ho0
  obtain ⟨aA, i9, j10⟩ := s
  replace h1 : dB a1 aA i9 j10 = some out1 := h1
  try dsimp only at hT
  refine bF hT ?_
  clear hT
  unfold dB at h1
  refine bW 1 ?_
  refine eV (fun T H => ∃ aA : List Int, ∃ i9 : Int, Has T [(0, (.msl 1 lo0p 0 (List.length aA))), (1, (eI a1)), (9, (eI i9)), (10, (eI j10))] ∧ aM ⟨H0, [lo0p], []⟩ H [(lo0p, 1, List.map (eI) aA)] ∧ List.length aA = N0 ∧ gP aA a1 i9 j10 = some out1) ?_ ?_
  · clear hO hN h1
    rintro T H ⟨aA, i9, hT, hO, hN, h1⟩
    refine bF hT ?_
    clear hT
    unfold gP at h1
    refine eV (fun T H => ∃ aA : List Int, ∃ j10 : Int, Has T [(0, (.msl 1 lo0p 0 (List.length aA))), (1, (eI a1)), (9, (eI i9)), (10, (eI j10))] ∧ aM ⟨H0, [lo0p], []⟩ H [(lo0p, 1, List.map (eI) aA)] ∧ List.length aA = N0 ∧ dZ aA a1 i9 j10 = some out1) ?_ ?_
    · clear hO hN h1
      rintro T H ⟨aA, j10, hT, hO, hN, h1⟩
      refine bF hT ?_
      clear hT
      unfold dZ at h1
      refine aO ?_
      refine aX aB 3 [] [(64, (aE (decide (j10 < i9))))] ?_
      refine bJ h1 (fun h1 => ?_) (fun h1 => ?_)
      · refine gG 0 ?_
        obtain rfl := oI h1
        obtain rfl : _ = rr0 := ho0
        replace h0 : jL aA i9 = some r := h0
        exact aF (aY (rS (by kernel_rfl) (aY (bU (aH (⟨rfl, _, _, .eq (by kernel_rfl), hO, hN, h0⟩))))))
      refine bM ?_
      refine bB [(0, (.msl 1 lo0p 0 (List.length aA))), (1, (eI a1)), (9, (eI i9)), (10, (eI j10))] ?_
      refine aO ?_
      refine fX (fZ []) aB 16 ?_
      obtain ⟨c6, h1⟩ := bA h1
      refine cJ 7 [0 ≤ j10 ∧ j10 < (lN aA)] ⟨c6, trivial⟩ ?_
      refine fU 0 lo0p 1 (0 + Int.toNat j10) (eI (gD aA j10)) (eI (gD aA j10)) (List.map (eI) aA) hO (bZ c6) ?_
      obtain ⟨c7, h1⟩ := bA h1
      refine cJ 11 [0 ≤ i9 ∧ i9 < (lN aA)] ⟨c7, trivial⟩ ?_
      refine fU 0 lo0p 1 (0 + Int.toNat i9) (eI (gD aA i9)) (eI (gD aA i9)) (List.map (eI) aA) hO (bZ c7) ?_
      obtain ⟨c8, h1⟩ := bA h1
      refine cJ 13 [0 ≤ i9 ∧ i9 < (lN aA)] ⟨c8, trivial⟩ ?_
      refine kS 0 lo0p 1 (0 + Int.toNat i9) (eI (gD aA i9)) (eI (gD aA j10)) (List.map (eI) aA) [(lo0p, 1, List.map (eI) (List.set aA (Int.toNat i9) (gD aA j10)))] hO (bZ c8) (by simp only [List.set, iH]) ?_
      intro H hO
      replace hN : List.length (List.set aA (Int.toNat i9) (gD aA j10)) = N0 := by simpa using hN
      obtain ⟨c9, h1⟩ := bA h1
      refine cJ 15 [0 ≤ j10 ∧ j10 < (lN aA)] ⟨c9, trivial⟩ ?_
      refine kS 0 lo0p 1 (0 + Int.toNat j10) (eI (gD (List.set aA (Int.toNat i9) (gD aA j10)) j10)) (eI (gD aA i9)) (List.map (eI) (List.set aA (Int.toNat i9) (gD aA j10))) [(lo0p, 1, List.map (eI) (List.set (List.set aA (Int.toNat i9) (gD aA j10)) (Int.toNat j10) (gD aA i9)))] hO (nY c9 (by simp [])) (by simp only [List.set, iH]) ?_
      intro H hO
      replace hN : List.length (List.set (List.set aA (Int.toNat i9) (gD aA j10)) (Int.toNat j10) (gD aA i9)) = N0 := by simpa using hN
      refine nE (by kernel_rfl) ?_
      refine dH (l := [(0, (.msl 1 lo0p 0 (List.length (List.set (List.set aA (Int.toNat i9) (gD aA j10)) (Int.toNat j10) (gD aA i9))))), (1, (eI a1)), (9, (eI i9)), (10, (eI j10))]) ⟨[(0, (.msl 1 lo0p 0 (List.length aA))), (1, (eI a1)), (9, (eI i9)), (10, (eI j10))], by kernel_rfl, rfl, ⟨aQ.eq (by simp []), aQ.refl _, aQ.refl _, aQ.refl _, trivial⟩⟩ ?_
      refine aF (aH (?_))
      refine aX aB 3 [9] [(9, (eI (wR (i9 + (1 : Int)))))] ?_
      refine aS aB 3 ?_
      refine aZ ?_
      exact aF (aV (aH (⟨rfl, _, (oI h1).symm, .eq (by kernel_rfl), hO, hN⟩)))
    refine bW 4 ?_
    refine eE [(0, (.msl 1 lo0p 0 (List.length aA))), (1, (eI a1)), (9, (eI i9)), (10, (eI j10))] ?_
    refine eH (fun T H => ∃ aA : List Int, ∃ j10 : Int, Has T [(0, (.msl 1 lo0p 0 (List.length aA))), (1, (eI a1)), (9, (eI i9)), (10, (eI j10))] ∧ aM ⟨H0, [lo0p], []⟩ H [(lo0p, 1, List.map (eI) aA)] ∧ List.length aA = N0 ∧ jM aA a1 i9 j10 = some out1) ?_ ⟨aA, j10, .eq (by kernel_rfl), hO, hN, h1⟩
    clear hO hN h1
    rintro T H ⟨aA, j10, hT, hO, hN, h1⟩
    refine bF hT ?_
    clear hT
    unfold jM at h1
    obtain ⟨rr1, hl1, h1⟩ := aW h1
    refine dM (by kernel_rfl) (fun (s : List Int × Int) T H => Has T [(0, (.msl 1 lo0p 0 (List.length s.1))), (1, (eI a1)), (9, (eI i9)), (10, (eI s.2))] ∧ aM ⟨H0, [lo0p], []⟩ H [(lo0p, 1, List.map (eI) s.1)] ∧ List.length s.1 = N0) hl1 ⟨.eq (by kernel_rfl), hO, hN⟩ ?_
    clear hO hN
    rintro k1 s out2 T H ⟨hT, hO, hN⟩ h2 ho1
    obtain ⟨aA, j10⟩ := s
    replace h2 : dX a1 i9 aA j10 = some out2 := h2
    try dsimp only at hT
    refine bF hT ?_
    clear hT
    unfold dX at h2
    refine aO ?_
    refine aO ?_
    obtain ⟨c10, h2⟩ := bA h2
    obtain ⟨c11, h2⟩ := bA h2
    obtain ⟨x12, hx13, h2⟩ := aW h2
    refine fX (fZ []) aB 14 ?_
    refine rL (K := fun T H => Has (lift T) [(0, (.msl 1 lo0p 0 (List.length aA))), (1, (eI a1)), (9, (eI i9)), (10, (eI j10)), (59, (aE ((decide (i9 ≤ j10)) && x12)))] ∧ aM ⟨H0, [lo0p], []⟩ H [(lo0p, 1, List.map (eI) aA)]) ?_ ?_
    · refine kE 4 ?_
      refine oR (t := 49) (e := decide (i9 ≤ j10)) (by kernel_rfl) (fun hg14 => ?_) (fun hg14 => ?_)
      · refine cJ 7 [0 ≤ a1 ∧ a1 < (lN aA)] ⟨(c10 hg14), trivial⟩ ?_
        refine iZ 0 lo0p 1 (0 + Int.toNat a1) (eI (gD aA a1)) (eI (gD aA a1)) (List.map (eI) aA) (by kernel_rfl) (by kernel_rfl) (by kernel_rfl) hO (by kernel_rfl) (bZ (c10 hg14)) ?_
        refine cJ 11 [0 ≤ j10 ∧ j10 < (lN aA)] ⟨(c11 hg14), trivial⟩ ?_
        refine iZ 0 lo0p 1 (0 + Int.toNat j10) (eI (gD aA j10)) (eI (gD aA j10)) (List.map (eI) aA) (by kernel_rfl) (by kernel_rfl) (by kernel_rfl) hO (by kernel_rfl) (bZ (c11 hg14)) ?_
        refine pV 54 [(eI (gD aA a1)), (eI (gD aA j10))] (aE x12) (by kernel_rfl) (by kernel_rfl) (gC (gD aA a1) (gD aA j10) _ (jP hx13 hg14)) hO ?_
        intro H hO
        refine kJ ?_
        exact ⟨⟨[(0, (.msl 1 lo0p 0 (List.length aA))), (1, (eI a1)), (9, (eI i9)), (10, (eI j10)), (59, (aE x12))], by kernel_rfl, rfl, ⟨aQ.refl _, aQ.refl _, aQ.refl _, aQ.refl _, aQ.eq (congrArg aE (nU hg14 rfl).symm), trivial⟩⟩, hO⟩
      refine kJ ?_
      exact ⟨⟨[(0, (.msl 1 lo0p 0 (List.length aA))), (1, (eI a1)), (9, (eI i9)), (10, (eI j10)), (59, (aE false))], by kernel_rfl, rfl, ⟨aQ.refl _, aQ.refl _, aQ.refl _, aQ.refl _, aQ.eq (congrArg aE (nU hg14 rfl).symm), trivial⟩⟩, hO⟩
    · rintro T H ⟨hT, hO⟩
      refine dH hT ?_
      clear hT
      refine aF (aH ?_)
      refine bJ h2 (fun h2 => ?_) (fun h2 => ?_)
      · refine bM ?_
        refine bB [(0, (.msl 1 lo0p 0 (List.length aA))), (1, (eI a1)), (9, (eI i9)), (10, (eI j10))] ?_
        refine bW 5 ?_
        refine aS aB 3 ?_
        refine aZ ?_
        exact aF (aV (aH (⟨rfl, _, (oI h2).symm, .eq (by kernel_rfl), hO, hN⟩)))
      refine gG 4 ?_
      obtain rfl := oI h2
      obtain rfl : _ = rr1 := ho1
      replace h1 : dZ aA a1 i9 j10 = some out1 := h1
      exact aF (aY (aY (bU (aH (⟨rfl, _, _, .eq (by kernel_rfl), hO, hN, h1⟩)))))
  refine bW 2 ?_
  refine eE [(0, (.msl 1 lo0p 0 (List.length aA))), (1, (eI a1)), (9, (eI i9)), (10, (eI j10))] ?_
  refine eH (fun T H => ∃ aA : List Int, ∃ i9 : Int, Has T [(0, (.msl 1 lo0p 0 (List.length aA))), (1, (eI a1)), (9, (eI i9)), (10, (eI j10))] ∧ aM ⟨H0, [lo0p], []⟩ H [(lo0p, 1, List.map (eI) aA)] ∧ List.length aA = N0 ∧ jK aA a1 i9 j10 = some out1) ?_ ⟨aA, i9, .eq (by kernel_rfl), hO, hN, h1⟩
  clear hO hN h1
  rintro T H ⟨aA, i9, hT, hO, hN, h1⟩
  refine bF hT ?_
  clear hT
  unfold jK at h1
  obtain ⟨rr1, hl1, h1⟩ := aW h1
  refine dM (by kernel_rfl) (fun (s : List Int × Int) T H => Has T [(0, (.msl 1 lo0p 0 (List.length s.1))), (1, (eI a1)), (9, (eI s.2)), (10, (eI j10))] ∧ aM ⟨H0, [lo0p], []⟩ H [(lo0p, 1, List.map (eI) s.1)] ∧ List.length s.1 = N0) hl1 ⟨.eq (by kernel_rfl), hO, hN⟩ ?_
  clear hO hN
  rintro k1 s out2 T H ⟨hT, hO, hN⟩ h2 ho1
  obtain ⟨aA, i9⟩ := s
  replace h2 : dY a1 j10 aA i9 = some out2 := h2
  try dsimp only at hT
  refine bF hT ?_
  clear hT
  unfold dY at h2
  refine aO ?_
  refine aO ?_
  obtain ⟨c16, h2⟩ := bA h2
  obtain ⟨c17, h2⟩ := bA h2
  obtain ⟨x18, hx19, h2⟩ := aW h2
  refine fX (fZ []) aB 15 ?_
  refine rL (K := fun T H => Has (lift T) [(0, (.msl 1 lo0p 0 (List.length aA))), (1, (eI a1)), (9, (eI i9)), (10, (eI j10)), (43, (aE ((decide (i9 ≤ j10)) && (!x18))))] ∧ aM ⟨H0, [lo0p], []⟩ H [(lo0p, 1, List.map (eI) aA)]) ?_ ?_
  · refine kE 4 ?_
    refine oR (t := 32) (e := decide (i9 ≤ j10)) (by kernel_rfl) (fun hg20 => ?_) (fun hg20 => ?_)
    · refine cJ 7 [0 ≤ a1 ∧ a1 < (lN aA)] ⟨(c16 hg20), trivial⟩ ?_
      refine iZ 0 lo0p 1 (0 + Int.toNat a1) (eI (gD aA a1)) (eI (gD aA a1)) (List.map (eI) aA) (by kernel_rfl) (by kernel_rfl) (by kernel_rfl) hO (by kernel_rfl) (bZ (c16 hg20)) ?_
      refine cJ 11 [0 ≤ i9 ∧ i9 < (lN aA)] ⟨(c17 hg20), trivial⟩ ?_
      refine iZ 0 lo0p 1 (0 + Int.toNat i9) (eI (gD aA i9)) (eI (gD aA i9)) (List.map (eI) aA) (by kernel_rfl) (by kernel_rfl) (by kernel_rfl) hO (by kernel_rfl) (bZ (c17 hg20)) ?_
      refine pV 54 [(eI (gD aA a1)), (eI (gD aA i9))] (aE x18) (by kernel_rfl) (by kernel_rfl) (gC (gD aA a1) (gD aA i9) _ (jP hx19 hg20)) hO ?_
      intro H hO
      refine kJ ?_
      exact ⟨⟨[(0, (.msl 1 lo0p 0 (List.length aA))), (1, (eI a1)), (9, (eI i9)), (10, (eI j10)), (43, (aE (!x18)))], by kernel_rfl, rfl, ⟨aQ.refl _, aQ.refl _, aQ.refl _, aQ.refl _, aQ.eq (congrArg aE (nU hg20 rfl).symm), trivial⟩⟩, hO⟩
    refine kJ ?_
    exact ⟨⟨[(0, (.msl 1 lo0p 0 (List.length aA))), (1, (eI a1)), (9, (eI i9)), (10, (eI j10)), (43, (aE false))], by kernel_rfl, rfl, ⟨aQ.refl _, aQ.refl _, aQ.refl _, aQ.refl _, aQ.eq (congrArg aE (nU hg20 rfl).symm), trivial⟩⟩, hO⟩
  · rintro T H ⟨hT, hO⟩
    refine dH hT ?_
    clear hT
    refine aF (aH ?_)
    refine bJ h2 (fun h2 => ?_) (fun h2 => ?_)
    · refine bM ?_
      refine bB [(0, (.msl 1 lo0p 0 (List.length aA))), (1, (eI a1)), (9, (eI i9)), (10, (eI j10))] ?_
      refine bW 3 ?_
      refine aS aB 3 ?_
      refine aZ ?_
      exact aF (aV (aH (⟨rfl, _, (oI h2).symm, .eq (by kernel_rfl), hO, hN⟩)))
    refine gG 2 ?_
    obtain rfl := oI h2
    obtain rfl : _ = rr1 := ho1
    replace h1 : gP aA a1 i9 j10 = some out1 := h1
    exact aF (aY (aY (bU (aH (⟨rfl, _, _, .eq (by kernel_rfl), hO, hN, h1⟩)))))

end Go.Abs
namespace Go.Abs
open Go Go.RowKit Go.Proofs
theorem zP (lo0p : Nat) (aA : (List Int)) (a1 : Int) (b2 : Int) (cM : Int) (r : ((Int × Bool) × List Int)) (h0 : iA aA a1 b2 cM = some r) : qP Try.prog 82 lo0p 1 (List.map (eI) aA) (List.map (eI) r.2) [(.msl 1 lo0p 0 (List.length aA)), (eI a1), (eI b2), (eI cM)] (.tup [(eI r.1.1), (aE r.1.2)]) := by
  intro H0 hl0
  refine cY Try.func82 ?_
  have hO := aM.sH hl0
  clear hl0
  obtain ⟨N0, hN0⟩ : ∃ n, n = List.length aA := ⟨_, rfl⟩
  have hN : List.length aA = N0 := hN0.symm
  unfold iA at h0
  refine aX aB 2 [] [] ?_
  refine aO ?_
  refine fX (fZ []) aB 16 ?_
  obtain ⟨c1, h0⟩ := bA h0
  refine cJ 7 [0 ≤ cM ∧ cM < (lN aA)] ⟨c1, trivial⟩ ?_
  refine fU 0 lo0p 1 (0 + Int.toNat cM) (eI (gD aA cM)) (eI (gD aA cM)) (List.map (eI) aA) hO (bZ c1) ?_
  obtain ⟨c2, h0⟩ := bA h0
  refine cJ 11 [0 ≤ a1 ∧ a1 < (lN aA)] ⟨c2, trivial⟩ ?_
  refine fU 0 lo0p 1 (0 + Int.toNat a1) (eI (gD aA a1)) (eI (gD aA a1)) (List.map (eI) aA) hO (bZ c2) ?_
  obtain ⟨c3, h0⟩ := bA h0
  refine cJ 13 [0 ≤ a1 ∧ a1 < (lN aA)] ⟨c3, trivial⟩ ?_
  refine kS 0 lo0p 1 (0 + Int.toNat a1) (eI (gD aA a1)) (eI (gD aA cM)) (List.map (eI) aA) [(lo0p, 1, List.map (eI) (List.set aA (Int.toNat a1) (gD aA cM)))] hO (bZ c3) (by simp only [List.set, iH]) ?_
  intro H hO
  replace hN : List.length (List.set aA (Int.toNat a1) (gD aA cM)) = N0 := by simpa using hN
  obtain ⟨c4, h0⟩ := bA h0
  refine cJ 15 [0 ≤ cM ∧ cM < (lN aA)] ⟨c4, trivial⟩ ?_
  refine kS 0 lo0p 1 (0 + Int.toNat cM) (eI (gD (List.set aA (Int.toNat a1) (gD aA cM)) cM)) (eI (gD aA a1)) (List.map (eI) (List.set aA (Int.toNat a1) (gD aA cM))) [(lo0p, 1, List.map (eI) (List.set (List.set aA (Int.toNat a1) (gD aA cM)) (Int.toNat cM) (gD aA a1)))] hO (nY c4 (by simp [])) (by simp only [List.set, iH]) ?_
  intro H hO
  replace hN : List.length (List.set (List.set aA (Int.toNat a1) (gD aA cM)) (Int.toNat cM) (gD aA a1)) = N0 := by simpa using hN
  refine nE (by kernel_rfl) ?_
  refine dH (l := [(0, (.msl 1 lo0p 0 (List.length (List.set (List.set aA (Int.toNat a1) (gD aA cM)) (Int.toNat cM) (gD aA a1))))), (1, (eI a1)), (2, (eI b2))]) ⟨[(0, (.msl 1 lo0p 0 (List.length aA))), (1, (eI a1)), (2, (eI b2))], by kernel_rfl, rfl, ⟨aQ.eq (by simp []), aQ.refl _, aQ.refl _, trivial⟩⟩ ?_
  refine aF (aH (?_))
  refine aX aB 6 [2] [(10, (eI (wR (a1 + (1 : Int))))), (11, (eI (wR (b2 - (1 : Int)))))] ?_
  refine eV (fun T H => ∃ aA : List Int, ∃ i10 : Int, ∃ j11 : Int, Has T [(0, (.msl 1 lo0p 0 (List.length aA))), (1, (eI a1)), (10, (eI i10)), (11, (eI j11))] ∧ aM ⟨H0, [lo0p], []⟩ H [(lo0p, 1, List.map (eI) aA)] ∧ List.length aA = N0 ∧ jF aA a1 i10 j11 = some r) ?_ ?_
  · clear hO hN h0
    rintro T H ⟨aA, i10, j11, hT, hO, hN, h0⟩
    refine bF hT ?_
    clear hT
    unfold jF at h0
    refine eV (fun T H => ∃ aA : List Int, ∃ j11 : Int, Has T [(0, (.msl 1 lo0p 0 (List.length aA))), (1, (eI a1)), (10, (eI i10)), (11, (eI j11))] ∧ aM ⟨H0, [lo0p], []⟩ H [(lo0p, 1, List.map (eI) aA)] ∧ List.length aA = N0 ∧ fA aA a1 i10 j11 = some r) ?_ ?_
    · clear hO hN h0
      rintro T H ⟨aA, j11, hT, hO, hN, h0⟩
      refine bF hT ?_
      clear hT
      unfold fA at h0
      refine aO ?_
      refine aX aB 3 [] [(65, (aE (decide (j11 < i10))))] ?_
      refine bJ h0 (fun h0 => ?_) (fun h0 => ?_)
      · refine aO ?_
        refine fX (fZ []) aB 16 ?_
        obtain ⟨c6, h0⟩ := bA h0
        refine cJ 7 [0 ≤ a1 ∧ a1 < (lN aA)] ⟨c6, trivial⟩ ?_
        refine fU 0 lo0p 1 (0 + Int.toNat a1) (eI (gD aA a1)) (eI (gD aA a1)) (List.map (eI) aA) hO (bZ c6) ?_
        obtain ⟨c7, h0⟩ := bA h0
        refine cJ 11 [0 ≤ j11 ∧ j11 < (lN aA)] ⟨c7, trivial⟩ ?_
        refine fU 0 lo0p 1 (0 + Int.toNat j11) (eI (gD aA j11)) (eI (gD aA j11)) (List.map (eI) aA) hO (bZ c7) ?_
        obtain ⟨c8, h0⟩ := bA h0
        refine cJ 13 [0 ≤ j11 ∧ j11 < (lN aA)] ⟨c8, trivial⟩ ?_
        refine kS 0 lo0p 1 (0 + Int.toNat j11) (eI (gD aA j11)) (eI (gD aA a1)) (List.map (eI) aA) [(lo0p, 1, List.map (eI) (List.set aA (Int.toNat j11) (gD aA a1)))] hO (bZ c8) (by simp only [List.set, iH]) ?_
        intro H hO
        replace hN : List.length (List.set aA (Int.toNat j11) (gD aA a1)) = N0 := by simpa using hN
        obtain ⟨c9, h0⟩ := bA h0
        refine cJ 15 [0 ≤ a1 ∧ a1 < (lN aA)] ⟨c9, trivial⟩ ?_
        refine kS 0 lo0p 1 (0 + Int.toNat a1) (eI (gD (List.set aA (Int.toNat j11) (gD aA a1)) a1)) (eI (gD aA j11)) (List.map (eI) (List.set aA (Int.toNat j11) (gD aA a1))) [(lo0p, 1, List.map (eI) (List.set (List.set aA (Int.toNat j11) (gD aA a1)) (Int.toNat a1) (gD aA j11)))] hO (nY c9 (by simp [])) (by simp only [List.set, iH]) ?_
        intro H hO
        replace hN : List.length (List.set (List.set aA (Int.toNat j11) (gD aA a1)) (Int.toNat a1) (gD aA j11)) = N0 := by simpa using hN
        refine nE (by kernel_rfl) ?_
        refine dH (l := [(0, (.msl 1 lo0p 0 (List.length (List.set (List.set aA (Int.toNat j11) (gD aA a1)) (Int.toNat a1) (gD aA j11))))), (11, (eI j11))]) ⟨[(0, (.msl 1 lo0p 0 (List.length aA))), (11, (eI j11))], by kernel_rfl, rfl, ⟨aQ.eq (by simp []), aQ.refl _, trivial⟩⟩ ?_
        refine aF (aH (?_))
        refine aX aB 3 [11] [(8, (eI j11)), (9, (aE true))] ?_
        refine bH ?_
        obtain rfl := oI h0
        exact aF (aU (jV (x := (.tup [(eI j11), (aE true)])) (by kernel_rfl) (aQ.refl _) ⟨rfl, hO.ext, hO.at 0 (by kernel_rfl), by simp only [List.length_map]; exact hN.trans hN0⟩))
      refine bM ?_
      refine bB [(0, (.msl 1 lo0p 0 (List.length aA))), (1, (eI a1)), (10, (eI i10)), (11, (eI j11))] ?_
      refine aO ?_
      refine fX (fZ []) aB 16 ?_
      obtain ⟨c10, h0⟩ := bA h0
      refine cJ 7 [0 ≤ j11 ∧ j11 < (lN aA)] ⟨c10, trivial⟩ ?_
      refine fU 0 lo0p 1 (0 + Int.toNat j11) (eI (gD aA j11)) (eI (gD aA j11)) (List.map (eI) aA) hO (bZ c10) ?_
      obtain ⟨c11, h0⟩ := bA h0
      refine cJ 11 [0 ≤ i10 ∧ i10 < (lN aA)] ⟨c11, trivial⟩ ?_
      refine fU 0 lo0p 1 (0 + Int.toNat i10) (eI (gD aA i10)) (eI (gD aA i10)) (List.map (eI) aA) hO (bZ c11) ?_
      obtain ⟨c12, h0⟩ := bA h0
      refine cJ 13 [0 ≤ i10 ∧ i10 < (lN aA)] ⟨c12, trivial⟩ ?_
      refine kS 0 lo0p 1 (0 + Int.toNat i10) (eI (gD aA i10)) (eI (gD aA j11)) (List.map (eI) aA) [(lo0p, 1, List.map (eI) (List.set aA (Int.toNat i10) (gD aA j11)))] hO (bZ c12) (by simp only [List.set, iH]) ?_
      intro H hO
      replace hN : List.length (List.set aA (Int.toNat i10) (gD aA j11)) = N0 := by simpa using hN
      obtain ⟨c13, h0⟩ := bA h0
      refine cJ 15 [0 ≤ j11 ∧ j11 < (lN aA)] ⟨c13, trivial⟩ ?_
      refine kS 0 lo0p 1 (0 + Int.toNat j11) (eI (gD (List.set aA (Int.toNat i10) (gD aA j11)) j11)) (eI (gD aA i10)) (List.map (eI) (List.set aA (Int.toNat i10) (gD aA j11))) [(lo0p, 1, List.map (eI) (List.set (List.set aA (Int.toNat i10) (gD aA j11)) (Int.toNat j11) (gD aA i10)))] hO (nY c13 (by simp [])) (by simp only [List.set, iH]) ?_
      intro H hO
      replace hN : List.length (List.set (List.set aA (Int.toNat i10) (gD aA j11)) (Int.toNat j11) (gD aA i10)) = N0 := by simpa using hN
      refine nE (by kernel_rfl) ?_
      refine dH (l := [(0, (.msl 1 lo0p 0 (List.length (List.set (List.set aA (Int.toNat i10) (gD aA j11)) (Int.toNat j11) (gD aA i10))))), (1, (eI a1)), (10, (eI i10)), (11, (eI j11))]) ⟨[(0, (.msl 1 lo0p 0 (List.length aA))), (1, (eI a1)), (10, (eI i10)), (11, (eI j11))], by kernel_rfl, rfl, ⟨aQ.eq (by simp []), aQ.refl _, aQ.refl _, aQ.refl _, trivial⟩⟩ ?_
      refine aF (aH (?_))
      refine aX aB 3 [10] [(10, (eI (wR (i10 + (1 : Int)))))] ?_
      refine aX aB 3 [11] [(11, (eI (wR (j11 - (1 : Int)))))] ?_
      refine eV (fun T H => ∃ aA : List Int, ∃ j11 : Int, Has T [(0, (.msl 1 lo0p 0 (List.length aA))), (1, (eI a1)), (11, (eI j11))] ∧ aM ⟨H0, [lo0p], []⟩ H [(lo0p, 1, List.map (eI) aA)] ∧ List.length aA = N0 ∧ jC aA a1 j11 = some r) ?_ ?_
      · clear hO hN h0
        rintro T H ⟨aA, j11, hT, hO, hN, h0⟩
        refine bF hT ?_
        clear hT
        unfold jC at h0
        refine aO ?_
        refine fX (fZ []) aB 16 ?_
        obtain ⟨c14, h0⟩ := bA h0
        refine cJ 7 [0 ≤ a1 ∧ a1 < (lN aA)] ⟨c14, trivial⟩ ?_
        refine fU 0 lo0p 1 (0 + Int.toNat a1) (eI (gD aA a1)) (eI (gD aA a1)) (List.map (eI) aA) hO (bZ c14) ?_
        obtain ⟨c15, h0⟩ := bA h0
        refine cJ 11 [0 ≤ j11 ∧ j11 < (lN aA)] ⟨c15, trivial⟩ ?_
        refine fU 0 lo0p 1 (0 + Int.toNat j11) (eI (gD aA j11)) (eI (gD aA j11)) (List.map (eI) aA) hO (bZ c15) ?_
        obtain ⟨c16, h0⟩ := bA h0
        refine cJ 13 [0 ≤ j11 ∧ j11 < (lN aA)] ⟨c16, trivial⟩ ?_
        refine kS 0 lo0p 1 (0 + Int.toNat j11) (eI (gD aA j11)) (eI (gD aA a1)) (List.map (eI) aA) [(lo0p, 1, List.map (eI) (List.set aA (Int.toNat j11) (gD aA a1)))] hO (bZ c16) (by simp only [List.set, iH]) ?_
        intro H hO
        replace hN : List.length (List.set aA (Int.toNat j11) (gD aA a1)) = N0 := by simpa using hN
        obtain ⟨c17, h0⟩ := bA h0
        refine cJ 15 [0 ≤ a1 ∧ a1 < (lN aA)] ⟨c17, trivial⟩ ?_
        refine kS 0 lo0p 1 (0 + Int.toNat a1) (eI (gD (List.set aA (Int.toNat j11) (gD aA a1)) a1)) (eI (gD aA j11)) (List.map (eI) (List.set aA (Int.toNat j11) (gD aA a1))) [(lo0p, 1, List.map (eI) (List.set (List.set aA (Int.toNat j11) (gD aA a1)) (Int.toNat a1) (gD aA j11)))] hO (nY c17 (by simp [])) (by simp only [List.set, iH]) ?_
        intro H hO
        replace hN : List.length (List.set (List.set aA (Int.toNat j11) (gD aA a1)) (Int.toNat a1) (gD aA j11)) = N0 := by simpa using hN
        refine nE (by kernel_rfl) ?_
        refine dH (l := [(0, (.msl 1 lo0p 0 (List.length (List.set (List.set aA (Int.toNat j11) (gD aA a1)) (Int.toNat a1) (gD aA j11))))), (11, (eI j11))]) ⟨[(0, (.msl 1 lo0p 0 (List.length aA))), (11, (eI j11))], by kernel_rfl, rfl, ⟨aQ.eq (by simp []), aQ.refl _, trivial⟩⟩ ?_
        refine aF (aH (?_))
        refine aX aB 3 [11] [(8, (eI j11)), (9, (aE false))] ?_
        refine bH ?_
        obtain rfl := oI h0
        exact aF (jV (x := (.tup [(eI j11), (aE false)])) (by kernel_rfl) (aQ.refl _) ⟨rfl, hO.ext, hO.at 0 (by kernel_rfl), by simp only [List.length_map]; exact hN.trans hN0⟩)
      refine bW 4 ?_
      refine eE [(0, (.msl 1 lo0p 0 (List.length (List.set (List.set aA (Int.toNat i10) (gD aA j11)) (Int.toNat j11) (gD aA i10))))), (1, (eI a1)), (10, (eI (wR (i10 + (1 : Int))))), (11, (eI (wR (j11 - (1 : Int)))))] ?_
      refine eH (fun T H => ∃ aA : List Int, ∃ i10 : Int, ∃ j11 : Int, Has T [(0, (.msl 1 lo0p 0 (List.length aA))), (1, (eI a1)), (10, (eI i10)), (11, (eI j11))] ∧ aM ⟨H0, [lo0p], []⟩ H [(lo0p, 1, List.map (eI) aA)] ∧ List.length aA = N0 ∧ kU aA a1 i10 j11 = some r) ?_ ⟨List.set (List.set aA (Int.toNat i10) (gD aA j11)) (Int.toNat j11) (gD aA i10), wR (i10 + (1 : Int)), wR (j11 - (1 : Int)), .eq (by kernel_rfl), hO, hN, h0⟩
      clear hO hN h0
      rintro T H ⟨aA, i10, j11, hT, hO, hN, h0⟩
      refine bF hT ?_
      clear hT
      unfold kU at h0
      obtain ⟨rr0, hl0, h0⟩ := aW h0
      refine dM (by kernel_rfl) (fun (s : List Int × Int × Int) T H => Has T [(0, (.msl 1 lo0p 0 (List.length s.1))), (1, (eI a1)), (10, (eI s.2.1)), (11, (eI s.2.2))] ∧ aM ⟨H0, [lo0p], []⟩ H [(lo0p, 1, List.map (eI) s.1)] ∧ List.length s.1 = N0) hl0 ⟨.eq (by kernel_rfl), hO, hN⟩ ?_
      clear hO hN
      rintro k0 s out1 T H ⟨hT, hO, hN⟩ h1 ho0
      obtain ⟨aA, i10, j11⟩ := s
      replace h1 : dS a1 aA i10 j11 = some out1 := h1
      try dsimp only at hT
      refine bF hT ?_
      clear hT
      unfold dS at h1
      refine bW 5 ?_
      refine eV (fun T H => ∃ aA : List Int, ∃ i10 : Int, Has T [(0, (.msl 1 lo0p 0 (List.length aA))), (1, (eI a1)), (10, (eI i10)), (11, (eI j11))] ∧ aM ⟨H0, [lo0p], []⟩ H [(lo0p, 1, List.map (eI) aA)] ∧ List.length aA = N0 ∧ jA aA a1 i10 j11 = some out1) ?_ ?_
      · clear hO hN h1
        rintro T H ⟨aA, i10, hT, hO, hN, h1⟩
        refine bF hT ?_
        clear hT
        unfold jA at h1
        refine eV (fun T H => ∃ aA : List Int, ∃ j11 : Int, Has T [(0, (.msl 1 lo0p 0 (List.length aA))), (1, (eI a1)), (10, (eI i10)), (11, (eI j11))] ∧ aM ⟨H0, [lo0p], []⟩ H [(lo0p, 1, List.map (eI) aA)] ∧ List.length aA = N0 ∧ eZ aA a1 i10 j11 = some out1) ?_ ?_
        · clear hO hN h1
          rintro T H ⟨aA, j11, hT, hO, hN, h1⟩
          refine bF hT ?_
          clear hT
          unfold eZ at h1
          refine aO ?_
          refine aX aB 3 [] [(134, (aE (decide (j11 < i10))))] ?_
          refine bJ h1 (fun h1 => ?_) (fun h1 => ?_)
          · refine gG 4 ?_
            obtain rfl := oI h1
            obtain rfl : _ = rr0 := ho0
            replace h0 : jC aA a1 j11 = some r := h0
            exact aF (aY (rS (by kernel_rfl) (aY (bU (aH (⟨rfl, _, _, .eq (by kernel_rfl), hO, hN, h0⟩))))))
          refine bM ?_
          refine bB [(0, (.msl 1 lo0p 0 (List.length aA))), (1, (eI a1)), (10, (eI i10)), (11, (eI j11))] ?_
          refine aO ?_
          refine fX (fZ []) aB 16 ?_
          obtain ⟨c19, h1⟩ := bA h1
          refine cJ 7 [0 ≤ j11 ∧ j11 < (lN aA)] ⟨c19, trivial⟩ ?_
          refine fU 0 lo0p 1 (0 + Int.toNat j11) (eI (gD aA j11)) (eI (gD aA j11)) (List.map (eI) aA) hO (bZ c19) ?_
          obtain ⟨c20, h1⟩ := bA h1
          refine cJ 11 [0 ≤ i10 ∧ i10 < (lN aA)] ⟨c20, trivial⟩ ?_
          refine fU 0 lo0p 1 (0 + Int.toNat i10) (eI (gD aA i10)) (eI (gD aA i10)) (List.map (eI) aA) hO (bZ c20) ?_
          obtain ⟨c21, h1⟩ := bA h1
          refine cJ 13 [0 ≤ i10 ∧ i10 < (lN aA)] ⟨c21, trivial⟩ ?_
          refine kS 0 lo0p 1 (0 + Int.toNat i10) (eI (gD aA i10)) (eI (gD aA j11)) (List.map (eI) aA) [(lo0p, 1, List.map (eI) (List.set aA (Int.toNat i10) (gD aA j11)))] hO (bZ c21) (by simp only [List.set, iH]) ?_
          intro H hO
          replace hN : List.length (List.set aA (Int.toNat i10) (gD aA j11)) = N0 := by simpa using hN
          obtain ⟨c22, h1⟩ := bA h1
          refine cJ 15 [0 ≤ j11 ∧ j11 < (lN aA)] ⟨c22, trivial⟩ ?_
          refine kS 0 lo0p 1 (0 + Int.toNat j11) (eI (gD (List.set aA (Int.toNat i10) (gD aA j11)) j11)) (eI (gD aA i10)) (List.map (eI) (List.set aA (Int.toNat i10) (gD aA j11))) [(lo0p, 1, List.map (eI) (List.set (List.set aA (Int.toNat i10) (gD aA j11)) (Int.toNat j11) (gD aA i10)))] hO (nY c22 (by simp [])) (by simp only [List.set, iH]) ?_
          intro H hO
          replace hN : List.length (List.set (List.set aA (Int.toNat i10) (gD aA j11)) (Int.toNat j11) (gD aA i10)) = N0 := by simpa using hN
          refine nE (by kernel_rfl) ?_
          refine dH (l := [(0, (.msl 1 lo0p 0 (List.length (List.set (List.set aA (Int.toNat i10) (gD aA j11)) (Int.toNat j11) (gD aA i10))))), (1, (eI a1)), (10, (eI i10)), (11, (eI j11))]) ⟨[(0, (.msl 1 lo0p 0 (List.length aA))), (1, (eI a1)), (10, (eI i10)), (11, (eI j11))], by kernel_rfl, rfl, ⟨aQ.eq (by simp []), aQ.refl _, aQ.refl _, aQ.refl _, trivial⟩⟩ ?_
          refine aF (aH (?_))
          refine aX aB 3 [10] [(10, (eI (wR (i10 + (1 : Int)))))] ?_
          refine aS aB 3 ?_
          refine aZ ?_
          exact aF (aV (aH (⟨rfl, _, (oI h1).symm, .eq (by kernel_rfl), hO, hN⟩)))
        refine bW 8 ?_
        refine eE [(0, (.msl 1 lo0p 0 (List.length aA))), (1, (eI a1)), (10, (eI i10)), (11, (eI j11))] ?_
        refine eH (fun T H => ∃ aA : List Int, ∃ j11 : Int, Has T [(0, (.msl 1 lo0p 0 (List.length aA))), (1, (eI a1)), (10, (eI i10)), (11, (eI j11))] ∧ aM ⟨H0, [lo0p], []⟩ H [(lo0p, 1, List.map (eI) aA)] ∧ List.length aA = N0 ∧ lC aA a1 i10 j11 = some out1) ?_ ⟨aA, j11, .eq (by kernel_rfl), hO, hN, h1⟩
        clear hO hN h1
        rintro T H ⟨aA, j11, hT, hO, hN, h1⟩
        refine bF hT ?_
        clear hT
        unfold lC at h1
        obtain ⟨rr1, hl1, h1⟩ := aW h1
        refine dM (by kernel_rfl) (fun (s : List Int × Int) T H => Has T [(0, (.msl 1 lo0p 0 (List.length s.1))), (1, (eI a1)), (10, (eI i10)), (11, (eI s.2))] ∧ aM ⟨H0, [lo0p], []⟩ H [(lo0p, 1, List.map (eI) s.1)] ∧ List.length s.1 = N0) hl1 ⟨.eq (by kernel_rfl), hO, hN⟩ ?_
        clear hO hN
        rintro k1 s out2 T H ⟨hT, hO, hN⟩ h2 ho1
        obtain ⟨aA, j11⟩ := s
        replace h2 : eY a1 i10 aA j11 = some out2 := h2
        try dsimp only at hT
        refine bF hT ?_
        clear hT
        unfold eY at h2
        refine aO ?_
        refine aO ?_
        obtain ⟨c23, h2⟩ := bA h2
        obtain ⟨c24, h2⟩ := bA h2
        obtain ⟨x25, hx26, h2⟩ := aW h2
        refine fX (fZ []) aB 15 ?_
        refine rL (K := fun T H => Has (lift T) [(0, (.msl 1 lo0p 0 (List.length aA))), (1, (eI a1)), (10, (eI i10)), (11, (eI j11)), (129, (aE ((decide (i10 ≤ j11)) && (!x25))))] ∧ aM ⟨H0, [lo0p], []⟩ H [(lo0p, 1, List.map (eI) aA)]) ?_ ?_
        · refine kE 4 ?_
          refine oR (t := 118) (e := decide (i10 ≤ j11)) (by kernel_rfl) (fun hg27 => ?_) (fun hg27 => ?_)
          · refine cJ 7 [0 ≤ j11 ∧ j11 < (lN aA)] ⟨(c23 hg27), trivial⟩ ?_
            refine iZ 0 lo0p 1 (0 + Int.toNat j11) (eI (gD aA j11)) (eI (gD aA j11)) (List.map (eI) aA) (by kernel_rfl) (by kernel_rfl) (by kernel_rfl) hO (by kernel_rfl) (bZ (c23 hg27)) ?_
            refine cJ 11 [0 ≤ a1 ∧ a1 < (lN aA)] ⟨(c24 hg27), trivial⟩ ?_
            refine iZ 0 lo0p 1 (0 + Int.toNat a1) (eI (gD aA a1)) (eI (gD aA a1)) (List.map (eI) aA) (by kernel_rfl) (by kernel_rfl) (by kernel_rfl) hO (by kernel_rfl) (bZ (c24 hg27)) ?_
            refine pV 54 [(eI (gD aA j11)), (eI (gD aA a1))] (aE x25) (by kernel_rfl) (by kernel_rfl) (gC (gD aA j11) (gD aA a1) _ (jP hx26 hg27)) hO ?_
            intro H hO
            refine kJ ?_
            exact ⟨⟨[(0, (.msl 1 lo0p 0 (List.length aA))), (1, (eI a1)), (10, (eI i10)), (11, (eI j11)), (129, (aE (!x25)))], by kernel_rfl, rfl, ⟨aQ.refl _, aQ.refl _, aQ.refl _, aQ.refl _, aQ.eq (congrArg aE (nU hg27 rfl).symm), trivial⟩⟩, hO⟩
          refine kJ ?_
          exact ⟨⟨[(0, (.msl 1 lo0p 0 (List.length aA))), (1, (eI a1)), (10, (eI i10)), (11, (eI j11)), (129, (aE false))], by kernel_rfl, rfl, ⟨aQ.refl _, aQ.refl _, aQ.refl _, aQ.refl _, aQ.eq (congrArg aE (nU hg27 rfl).symm), trivial⟩⟩, hO⟩
        · rintro T H ⟨hT, hO⟩
          refine dH hT ?_
          clear hT
          refine aF (aH ?_)
          refine bJ h2 (fun h2 => ?_) (fun h2 => ?_)
          · refine bM ?_
            refine bB [(0, (.msl 1 lo0p 0 (List.length aA))), (1, (eI a1)), (10, (eI i10)), (11, (eI j11))] ?_
            refine bW 9 ?_
            refine aS aB 3 ?_
            refine aZ ?_
            exact aF (aV (aH (⟨rfl, _, (oI h2).symm, .eq (by kernel_rfl), hO, hN⟩)))
          refine gG 8 ?_
          obtain rfl := oI h2
          obtain rfl : _ = rr1 := ho1
          replace h1 : eZ aA a1 i10 j11 = some out1 := h1
          exact aF (aY (aY (bU (aH (⟨rfl, _, _, .eq (by kernel_rfl), hO, hN, h1⟩)))))
      refine bW 6 ?_
      refine eE [(0, (.msl 1 lo0p 0 (List.length aA))), (1, (eI a1)), (10, (eI i10)), (11, (eI j11))] ?_
      refine eH (fun T H => ∃ aA : List Int, ∃ i10 : Int, Has T [(0, (.msl 1 lo0p 0 (List.length aA))), (1, (eI a1)), (10, (eI i10)), (11, (eI j11))] ∧ aM ⟨H0, [lo0p], []⟩ H [(lo0p, 1, List.map (eI) aA)] ∧ List.length aA = N0 ∧ lE aA a1 i10 j11 = some out1) ?_ ⟨aA, i10, .eq (by kernel_rfl), hO, hN, h1⟩
      clear hO hN h1
      rintro T H ⟨aA, i10, hT, hO, hN, h1⟩
      refine bF hT ?_
      clear hT
      unfold lE at h1
      obtain ⟨rr1, hl1, h1⟩ := aW h1
      refine dM (by kernel_rfl) (fun (s : List Int × Int) T H => Has T [(0, (.msl 1 lo0p 0 (List.length s.1))), (1, (eI a1)), (10, (eI s.2)), (11, (eI j11))] ∧ aM ⟨H0, [lo0p], []⟩ H [(lo0p, 1, List.map (eI) s.1)] ∧ List.length s.1 = N0) hl1 ⟨.eq (by kernel_rfl), hO, hN⟩ ?_
      clear hO hN
      rintro k1 s out2 T H ⟨hT, hO, hN⟩ h2 ho1
      obtain ⟨aA, i10⟩ := s
      replace h2 : fC a1 j11 aA i10 = some out2 := h2
      try dsimp only at hT
      refine bF hT ?_
      clear hT
      unfold fC at h2
      refine aO ?_
      refine aO ?_
      obtain ⟨c29, h2⟩ := bA h2
      obtain ⟨c30, h2⟩ := bA h2
      obtain ⟨x31, hx32, h2⟩ := aW h2
      refine fX (fZ []) aB 14 ?_
      refine rL (K := fun T H => Has (lift T) [(0, (.msl 1 lo0p 0 (List.length aA))), (1, (eI a1)), (10, (eI i10)), (11, (eI j11)), (112, (aE ((decide (i10 ≤ j11)) && x31)))] ∧ aM ⟨H0, [lo0p], []⟩ H [(lo0p, 1, List.map (eI) aA)]) ?_ ?_
      · refine kE 4 ?_
        refine oR (t := 102) (e := decide (i10 ≤ j11)) (by kernel_rfl) (fun hg33 => ?_) (fun hg33 => ?_)
        · refine cJ 7 [0 ≤ i10 ∧ i10 < (lN aA)] ⟨(c29 hg33), trivial⟩ ?_
          refine iZ 0 lo0p 1 (0 + Int.toNat i10) (eI (gD aA i10)) (eI (gD aA i10)) (List.map (eI) aA) (by kernel_rfl) (by kernel_rfl) (by kernel_rfl) hO (by kernel_rfl) (bZ (c29 hg33)) ?_
          refine cJ 11 [0 ≤ a1 ∧ a1 < (lN aA)] ⟨(c30 hg33), trivial⟩ ?_
          refine iZ 0 lo0p 1 (0 + Int.toNat a1) (eI (gD aA a1)) (eI (gD aA a1)) (List.map (eI) aA) (by kernel_rfl) (by kernel_rfl) (by kernel_rfl) hO (by kernel_rfl) (bZ (c30 hg33)) ?_
          refine pV 54 [(eI (gD aA i10)), (eI (gD aA a1))] (aE x31) (by kernel_rfl) (by kernel_rfl) (gC (gD aA i10) (gD aA a1) _ (jP hx32 hg33)) hO ?_
          intro H hO
          refine kJ ?_
          exact ⟨⟨[(0, (.msl 1 lo0p 0 (List.length aA))), (1, (eI a1)), (10, (eI i10)), (11, (eI j11)), (112, (aE x31))], by kernel_rfl, rfl, ⟨aQ.refl _, aQ.refl _, aQ.refl _, aQ.refl _, aQ.eq (congrArg aE (nU hg33 rfl).symm), trivial⟩⟩, hO⟩
        refine kJ ?_
        exact ⟨⟨[(0, (.msl 1 lo0p 0 (List.length aA))), (1, (eI a1)), (10, (eI i10)), (11, (eI j11)), (112, (aE false))], by kernel_rfl, rfl, ⟨aQ.refl _, aQ.refl _, aQ.refl _, aQ.refl _, aQ.eq (congrArg aE (nU hg33 rfl).symm), trivial⟩⟩, hO⟩
      · rintro T H ⟨hT, hO⟩
        refine dH hT ?_
        clear hT
        refine aF (aH ?_)
        refine bJ h2 (fun h2 => ?_) (fun h2 => ?_)
        · refine bM ?_
          refine bB [(0, (.msl 1 lo0p 0 (List.length aA))), (1, (eI a1)), (10, (eI i10)), (11, (eI j11))] ?_
          refine bW 7 ?_
          refine aS aB 3 ?_
          refine aZ ?_
          exact aF (aV (aH (⟨rfl, _, (oI h2).symm, .eq (by kernel_rfl), hO, hN⟩)))
        refine gG 6 ?_
        obtain rfl := oI h2
        obtain rfl : _ = rr1 := ho1
        replace h1 : jA aA a1 i10 j11 = some out1 := h1
        exact aF (aY (aY (bU (aH (⟨rfl, _, _, .eq (by kernel_rfl), hO, hN, h1⟩)))))
    refine bW 2 ?_
    refine eE [(0, (.msl 1 lo0p 0 (List.length aA))), (1, (eI a1)), (10, (eI i10)), (11, (eI j11))] ?_
    refine eH (fun T H => ∃ aA : List Int, ∃ j11 : Int, Has T [(0, (.msl 1 lo0p 0 (List.length aA))), (1, (eI a1)), (10, (eI i10)), (11, (eI j11))] ∧ aM ⟨H0, [lo0p], []⟩ H [(lo0p, 1, List.map (eI) aA)] ∧ List.length aA = N0 ∧ kY aA a1 i10 j11 = some r) ?_ ⟨aA, j11, .eq (by kernel_rfl), hO, hN, h0⟩
    clear hO hN h0
    rintro T H ⟨aA, j11, hT, hO, hN, h0⟩
    refine bF hT ?_
    clear hT
    unfold kY at h0
    obtain ⟨rr0, hl0, h0⟩ := aW h0
    refine dM (by kernel_rfl) (fun (s : List Int × Int) T H => Has T [(0, (.msl 1 lo0p 0 (List.length s.1))), (1, (eI a1)), (10, (eI i10)), (11, (eI s.2))] ∧ aM ⟨H0, [lo0p], []⟩ H [(lo0p, 1, List.map (eI) s.1)] ∧ List.length s.1 = N0) hl0 ⟨.eq (by kernel_rfl), hO, hN⟩ ?_
    clear hO hN
    rintro k0 s out1 T H ⟨hT, hO, hN⟩ h1 ho0
    obtain ⟨aA, j11⟩ := s
    replace h1 : eX a1 i10 aA j11 = some out1 := h1
    try dsimp only at hT
    refine bF hT ?_
    clear hT
    unfold eX at h1
    refine aO ?_
    refine aO ?_
    obtain ⟨c35, h1⟩ := bA h1
    obtain ⟨c36, h1⟩ := bA h1
    obtain ⟨x37, hx38, h1⟩ := aW h1
    refine fX (fZ []) aB 15 ?_
    refine rL (K := fun T H => Has (lift T) [(0, (.msl 1 lo0p 0 (List.length aA))), (1, (eI a1)), (10, (eI i10)), (11, (eI j11)), (60, (aE ((decide (i10 ≤ j11)) && (!x37))))] ∧ aM ⟨H0, [lo0p], []⟩ H [(lo0p, 1, List.map (eI) aA)]) ?_ ?_
    · refine kE 4 ?_
      refine oR (t := 49) (e := decide (i10 ≤ j11)) (by kernel_rfl) (fun hg39 => ?_) (fun hg39 => ?_)
      · refine cJ 7 [0 ≤ j11 ∧ j11 < (lN aA)] ⟨(c35 hg39), trivial⟩ ?_
        refine iZ 0 lo0p 1 (0 + Int.toNat j11) (eI (gD aA j11)) (eI (gD aA j11)) (List.map (eI) aA) (by kernel_rfl) (by kernel_rfl) (by kernel_rfl) hO (by kernel_rfl) (bZ (c35 hg39)) ?_
        refine cJ 11 [0 ≤ a1 ∧ a1 < (lN aA)] ⟨(c36 hg39), trivial⟩ ?_
        refine iZ 0 lo0p 1 (0 + Int.toNat a1) (eI (gD aA a1)) (eI (gD aA a1)) (List.map (eI) aA) (by kernel_rfl) (by kernel_rfl) (by kernel_rfl) hO (by kernel_rfl) (bZ (c36 hg39)) ?_
        refine pV 54 [(eI (gD aA j11)), (eI (gD aA a1))] (aE x37) (by kernel_rfl) (by kernel_rfl) (gC (gD aA j11) (gD aA a1) _ (jP hx38 hg39)) hO ?_
        intro H hO
        refine kJ ?_
        exact ⟨⟨[(0, (.msl 1 lo0p 0 (List.length aA))), (1, (eI a1)), (10, (eI i10)), (11, (eI j11)), (60, (aE (!x37)))], by kernel_rfl, rfl, ⟨aQ.refl _, aQ.refl _, aQ.refl _, aQ.refl _, aQ.eq (congrArg aE (nU hg39 rfl).symm), trivial⟩⟩, hO⟩
      refine kJ ?_
      exact ⟨⟨[(0, (.msl 1 lo0p 0 (List.length aA))), (1, (eI a1)), (10, (eI i10)), (11, (eI j11)), (60, (aE false))], by kernel_rfl, rfl, ⟨aQ.refl _, aQ.refl _, aQ.refl _, aQ.refl _, aQ.eq (congrArg aE (nU hg39 rfl).symm), trivial⟩⟩, hO⟩
    · rintro T H ⟨hT, hO⟩
      refine dH hT ?_
      clear hT
      refine aF (aH ?_)
      refine bJ h1 (fun h1 => ?_) (fun h1 => ?_)
      · refine bM ?_
        refine bB [(0, (.msl 1 lo0p 0 (List.length aA))), (1, (eI a1)), (10, (eI i10)), (11, (eI j11))] ?_
        refine bW 3 ?_
        refine aS aB 3 ?_
        refine aZ ?_
        exact aF (aV (aH (⟨rfl, _, (oI h1).symm, .eq (by kernel_rfl), hO, hN⟩)))
      refine gG 2 ?_
      obtain rfl := oI h1
      obtain rfl : _ = rr0 := ho0
      replace h0 : fA aA a1 i10 j11 = some r := h0
      exact aF (aY (aY (bU (aH (⟨rfl, _, _, .eq (by kernel_rfl), hO, hN, h0⟩)))))
  refine bW 0 ?_
  refine eE [(0, (.msl 1 lo0p 0 (List.length (List.set (List.set aA (Int.toNat a1) (gD aA cM)) (Int.toNat cM) (gD aA a1))))), (1, (eI a1)), (10, (eI (wR (a1 + (1 : Int))))), (11, (eI (wR (b2 - (1 : Int)))))] ?_
  refine eH (fun T H => ∃ aA : List Int, ∃ i10 : Int, ∃ j11 : Int, Has T [(0, (.msl 1 lo0p 0 (List.length aA))), (1, (eI a1)), (10, (eI i10)), (11, (eI j11))] ∧ aM ⟨H0, [lo0p], []⟩ H [(lo0p, 1, List.map (eI) aA)] ∧ List.length aA = N0 ∧ gI aA a1 i10 j11 = some r) ?_ ⟨List.set (List.set aA (Int.toNat a1) (gD aA cM)) (Int.toNat cM) (gD aA a1), wR (a1 + (1 : Int)), wR (b2 - (1 : Int)), .eq (by kernel_rfl), hO, hN, h0⟩
  clear hO hN h0
  rintro T H ⟨aA, i10, j11, hT, hO, hN, h0⟩
  refine bF hT ?_
  clear hT
  unfold gI at h0
  obtain ⟨rr0, hl0, h0⟩ := aW h0
  refine dM (by kernel_rfl) (fun (s : List Int × Int) T H => Has T [(0, (.msl 1 lo0p 0 (List.length s.1))), (1, (eI a1)), (10, (eI s.2)), (11, (eI j11))] ∧ aM ⟨H0, [lo0p], []⟩ H [(lo0p, 1, List.map (eI) s.1)] ∧ List.length s.1 = N0) hl0 ⟨.eq (by kernel_rfl), hO, hN⟩ ?_
  clear hO hN
  rintro k0 s out1 T H ⟨hT, hO, hN⟩ h1 ho0
  obtain ⟨aA, i10⟩ := s
  replace h1 : eR a1 j11 aA i10 = some out1 := h1
  try dsimp only at hT
  refine bF hT ?_
  clear hT
  unfold eR at h1
  refine aO ?_
  refine aO ?_
  obtain ⟨c41, h1⟩ := bA h1
  obtain ⟨c42, h1⟩ := bA h1
  obtain ⟨x43, hx44, h1⟩ := aW h1
  refine fX (fZ []) aB 14 ?_
  refine rL (K := fun T H => Has (lift T) [(0, (.msl 1 lo0p 0 (List.length aA))), (1, (eI a1)), (10, (eI i10)), (11, (eI j11)), (43, (aE ((decide (i10 ≤ j11)) && x43)))] ∧ aM ⟨H0, [lo0p], []⟩ H [(lo0p, 1, List.map (eI) aA)]) ?_ ?_
  · refine kE 4 ?_
    refine oR (t := 33) (e := decide (i10 ≤ j11)) (by kernel_rfl) (fun hg45 => ?_) (fun hg45 => ?_)
    · refine cJ 7 [0 ≤ i10 ∧ i10 < (lN aA)] ⟨(c41 hg45), trivial⟩ ?_
      refine iZ 0 lo0p 1 (0 + Int.toNat i10) (eI (gD aA i10)) (eI (gD aA i10)) (List.map (eI) aA) (by kernel_rfl) (by kernel_rfl) (by kernel_rfl) hO (by kernel_rfl) (bZ (c41 hg45)) ?_
      refine cJ 11 [0 ≤ a1 ∧ a1 < (lN aA)] ⟨(c42 hg45), trivial⟩ ?_
      refine iZ 0 lo0p 1 (0 + Int.toNat a1) (eI (gD aA a1)) (eI (gD aA a1)) (List.map (eI) aA) (by kernel_rfl) (by kernel_rfl) (by kernel_rfl) hO (by kernel_rfl) (bZ (c42 hg45)) ?_
      refine pV 54 [(eI (gD aA i10)), (eI (gD aA a1))] (aE x43) (by kernel_rfl) (by kernel_rfl) (gC (gD aA i10) (gD aA a1) _ (jP hx44 hg45)) hO ?_
      intro H hO
      refine kJ ?_
      exact ⟨⟨[(0, (.msl 1 lo0p 0 (List.length aA))), (1, (eI a1)), (10, (eI i10)), (11, (eI j11)), (43, (aE x43))], by kernel_rfl, rfl, ⟨aQ.refl _, aQ.refl _, aQ.refl _, aQ.refl _, aQ.eq (congrArg aE (nU hg45 rfl).symm), trivial⟩⟩, hO⟩
    refine kJ ?_
    exact ⟨⟨[(0, (.msl 1 lo0p 0 (List.length aA))), (1, (eI a1)), (10, (eI i10)), (11, (eI j11)), (43, (aE false))], by kernel_rfl, rfl, ⟨aQ.refl _, aQ.refl _, aQ.refl _, aQ.refl _, aQ.eq (congrArg aE (nU hg45 rfl).symm), trivial⟩⟩, hO⟩
  · rintro T H ⟨hT, hO⟩
    refine dH hT ?_
    clear hT
    refine aF (aH ?_)
    refine bJ h1 (fun h1 => ?_) (fun h1 => ?_)
    · refine bM ?_
      refine bB [(0, (.msl 1 lo0p 0 (List.length aA))), (1, (eI a1)), (10, (eI i10)), (11, (eI j11))] ?_
      refine bW 1 ?_
      refine aS aB 3 ?_
      refine aZ ?_
      exact aF (aV (aH (⟨rfl, _, (oI h1).symm, .eq (by kernel_rfl), hO, hN⟩)))
    refine gG 0 ?_
    obtain rfl := oI h1
    obtain rfl : _ = rr0 := ho0
    replace h0 : jF aA a1 i10 j11 = some r := h0
    exact aF (aY (aY (bU (aH (⟨rfl, _, _, _, .eq (by kernel_rfl), hO, hN, h0⟩)))))

theorem yG  (rec : (List Int) → Int → Int → Int → Option (List Int)) (ih : ∀ (lo0p : Nat) (aA : (List Int)) (a1 : Int) (b2 : Int) (cD : Int) (r : List Int), rec aA a1 b2 cD = some r → qP Try.prog 65 lo0p 1 (List.map (eI) aA) (List.map (eI) r) [(.msl 1 lo0p 0 (List.length aA)), (eI a1), (eI b2), (eI cD)] (.tup [])) (lo0p : Nat) (aA : (List Int)) (a1 : Int) (b2 : Int) (cD : Int) (r : List Int) (h0 : gO rec aA a1 b2 cD = some r) : qP Try.prog 65 lo0p 1 (List.map (eI) aA) (List.map (eI) r) [(.msl 1 lo0p 0 (List.length aA)), (eI a1), (eI b2), (eI cD)] (.tup []) := by
  intro H0 hl0
  refine cY Try.func65 ?_
  have hO := aM.sH hl0
  clear hl0
  obtain ⟨N0, hN0⟩ : ∃ n, n = List.length aA := ⟨_, rfl⟩
  have hN : List.length aA = N0 := hN0.symm
  unfold gO at h0
  refine aX aB 1 [] [(8, (aE true))] ?_
  refine aX aB 1 [] [(9, (aE true))] ?_
  refine bW 0 ?_
  refine eE [(0, (.msl 1 lo0p 0 (List.length aA))), (1, (eI a1)), (2, (eI b2)), (3, (eI cD)), (8, (aE true)), (9, (aE true))] ?_
  refine eH (fun T H => ∃ aA : List Int, ∃ a1 : Int, ∃ b2 : Int, ∃ cD : Int, ∃ bX : Bool, ∃ bP : Bool, Has T [(0, (.msl 1 lo0p 0 (List.length aA))), (1, (eI a1)), (2, (eI b2)), (3, (eI cD)), (8, (aE bX)), (9, (aE bP))] ∧ aM ⟨H0, [lo0p], []⟩ H [(lo0p, 1, List.map (eI) aA)] ∧ List.length aA = N0 ∧ lX rec aA a1 b2 cD bX bP = some r) ?_ ⟨aA, a1, b2, cD, true, true, .eq (by kernel_rfl), hO, hN, h0⟩
  clear hO hN h0
  rintro T H ⟨aA, a1, b2, cD, bX, bP, hT, hO, hN, h0⟩
  refine bF hT ?_
  clear hT
  unfold lX at h0
  obtain ⟨rr0, hl0, h0⟩ := aW h0
  refine dM (by kernel_rfl) (fun (s : List Int × Int × Int × Int × Bool × Bool) T H => Has T [(0, (.msl 1 lo0p 0 (List.length s.1))), (1, (eI s.2.1)), (2, (eI s.2.2.1)), (3, (eI s.2.2.2.1)), (8, (aE s.2.2.2.2.1)), (9, (aE s.2.2.2.2.2))] ∧ aM ⟨H0, [lo0p], []⟩ H [(lo0p, 1, List.map (eI) s.1)] ∧ List.length s.1 = N0) hl0 ⟨.eq (by kernel_rfl), hO, hN⟩ ?_
  clear hO hN
  rintro k0 s out1 T H ⟨hT, hO, hN⟩ h1 ho0
  obtain ⟨aA, a1, b2, cD, bX, bP⟩ := s
  replace h1 : eN rec aA a1 b2 cD bX bP = some out1 := h1
  try dsimp only at hT
  refine bF hT ?_
  clear hT
  unfold eN at h1
  refine bW 1 ?_
  refine aX aB 4 [] [(10, (eI (wR (b2 - a1))))] ?_
  refine aO ?_
  refine aX aB 2 [] [(23, (aE (decide ((wR (b2 - a1)) ≤ (12 : Int)))))] ?_
  refine bJ h1 (fun h1 => ?_) (fun h1 => ?_)
  · refine aO ?_
    refine aS aB 4 ?_
    refine bE 3 ?_
    obtain ⟨x2, hx3, h1⟩ := aW h1
    refine yC [(lo0p, 1, List.map (eI) x2)] 0 (xM lo0p aA a1 b2 _ hx3) hO ?_
    intro H hO hl4
    simp only [List.length_map] at hl4
    replace hN := hl4.trans hN
    refine cX ?_
    refine dH (l := [(0, (.msl 1 lo0p 0 (List.length x2)))]) ⟨[(0, (.msl 1 lo0p 0 (List.length aA)))], by kernel_rfl, rfl, ⟨aQ.eq (by simp [hl4]), trivial⟩⟩ ?_
    refine aF (aH (?_))
    refine bH ?_
    obtain rfl := oI h1
    obtain rfl : _ = rr0 := ho0
    replace h0 : some x2 = some r := h0
    obtain rfl := oI h0
    exact aF (aU (bD (aU (bD (jV (x := (.tup [])) (by kernel_rfl) (aQ.refl _) ⟨rfl, hO.ext, hO.at 0 (by kernel_rfl), by simp only [List.length_map]; exact hN.trans hN0⟩)))))
  refine bM ?_
  refine bB [(0, (.msl 1 lo0p 0 (List.length aA))), (1, (eI a1)), (2, (eI b2)), (3, (eI cD)), (8, (aE bX)), (9, (aE bP)), (10, (eI (wR (b2 - a1))))] ?_
  refine aO ?_
  refine aX aB 2 [] [(29, (aE (decide (cD = (0 : Int)))))] ?_
  refine bJ h1 (fun h1 => ?_) (fun h1 => ?_)
  · refine aO ?_
    refine aS aB 4 ?_
    refine bE 3 ?_
    obtain ⟨x6, hx7, h1⟩ := aW h1
    refine yC [(lo0p, 1, List.map (eI) x6)] 0 (AD lo0p aA a1 b2 _ hx7) hO ?_
    intro H hO hl8
    simp only [List.length_map] at hl8
    replace hN := hl8.trans hN
    refine cX ?_
    refine dH (l := [(0, (.msl 1 lo0p 0 (List.length x6)))]) ⟨[(0, (.msl 1 lo0p 0 (List.length aA)))], by kernel_rfl, rfl, ⟨aQ.eq (by simp [hl8]), trivial⟩⟩ ?_
    refine aF (aH (?_))
    refine bH ?_
    obtain rfl := oI h1
    obtain rfl : _ = rr0 := ho0
    replace h0 : some x6 = some r := h0
    obtain rfl := oI h0
    exact aF (aU (bD (aU (bD (jV (x := (.tup [])) (by kernel_rfl) (aQ.refl _) ⟨rfl, hO.ext, hO.at 0 (by kernel_rfl), by simp only [List.length_map]; exact hN.trans hN0⟩)))))
  refine bM ?_
  refine bB [(0, (.msl 1 lo0p 0 (List.length aA))), (1, (eI a1)), (2, (eI b2)), (3, (eI cD)), (8, (aE bX)), (9, (aE bP)), (10, (eI (wR (b2 - a1))))] ?_
  refine eV (fun T H => ∃ aA : List Int, ∃ cD : Int, ∃ eA : Int, Has T [(0, (.msl 1 lo0p 0 (List.length aA))), (1, (eI a1)), (2, (eI b2)), (3, (eI cD)), (8, (aE bX)), (9, (aE bP)), (10, (eI eA))] ∧ aM ⟨H0, [lo0p], []⟩ H [(lo0p, 1, List.map (eI) aA)] ∧ List.length aA = N0 ∧ iI rec aA a1 b2 cD bX bP eA = some out1) ?_ ?_
  · clear hO hN h1
    rintro T H ⟨aA, cD, eA, hT, hO, hN, h1⟩
    refine bF hT ?_
    clear hT
    unfold iI at h1
    refine aO ?_
    refine aS aB 9 ?_
    refine bE 3 ?_
    obtain ⟨x9, hx10, h1⟩ := aW h1
    refine EB [] [0] (yP lo0p aA a1 b2 _ hx10) hO ?_
    intro r11 L12 H hP13 hO
    obtain ⟨rfl, rfl⟩ := hP13
    replace hO : aM ⟨H0, [lo0p], []⟩ H [(lo0p, 1, List.map (eI) aA)] := hO
    refine aZ ?_
    refine bO [] [(11, (eI x9.1)), (12, (eI x9.2))] ?_
    refine eV (fun T H => ∃ aA : List Int, ∃ gR : Int, ∃ EP : Int, Has T [(0, (.msl 1 lo0p 0 (List.length aA))), (1, (eI a1)), (2, (eI b2)), (3, (eI cD)), (8, (aE bX)), (9, (aE bP)), (10, (eI eA)), (11, (eI gR)), (12, (eI EP))] ∧ aM ⟨H0, [lo0p], []⟩ H [(lo0p, 1, List.map (eI) aA)] ∧ List.length aA = N0 ∧ iJ rec aA a1 b2 cD bX bP eA gR EP = some out1) ?_ ?_
    · clear hO hN h1
      rintro T H ⟨aA, gR, EP, hT, hO, hN, h1⟩
      refine bF hT ?_
      clear hT
      unfold iJ at h1
      refine eV (fun T H => ∃ aA : List Int, Has T [(0, (.msl 1 lo0p 0 (List.length aA))), (1, (eI a1)), (2, (eI b2)), (3, (eI cD)), (8, (aE bX)), (9, (aE bP)), (10, (eI eA)), (11, (eI gR))] ∧ aM ⟨H0, [lo0p], []⟩ H [(lo0p, 1, List.map (eI) aA)] ∧ List.length aA = N0 ∧ iL rec aA a1 b2 cD bX bP eA gR = some out1) ?_ ?_
      · clear hO hN h1
        rintro T H ⟨aA, hT, hO, hN, h1⟩
        refine bF hT ?_
        clear hT
        unfold iL at h1
        refine aO ?_
        refine aO ?_
        obtain ⟨c14, h1⟩ := bA h1
        obtain ⟨c15, h1⟩ := bA h1
        obtain ⟨x16, hx17, h1⟩ := aW h1
        refine fX (fZ []) aB 15 ?_
        refine rL (K := fun T H => Has (lift T) [(0, (.msl 1 lo0p 0 (List.length aA))), (1, (eI a1)), (2, (eI b2)), (3, (eI cD)), (8, (aE bX)), (9, (aE bP)), (10, (eI eA)), (11, (eI gR)), (87, (aE ((decide ((0 : Int) < a1)) && (!x16))))] ∧ aM ⟨H0, [lo0p], []⟩ H [(lo0p, 1, List.map (eI) aA)]) ?_ ?_
        · refine kE 3 ?_
          refine oR (t := 75) (e := decide ((0 : Int) < a1)) (by kernel_rfl) (fun hg18 => ?_) (fun hg18 => ?_)
          · refine cJ 7 [0 ≤ (wR (a1 - (1 : Int))) ∧ (wR (a1 - (1 : Int))) < (lN aA)] ⟨(c14 hg18), trivial⟩ ?_
            refine iZ 0 lo0p 1 (0 + Int.toNat (wR (a1 - (1 : Int)))) (eI (gD aA (wR (a1 - (1 : Int))))) (eI (gD aA (wR (a1 - (1 : Int))))) (List.map (eI) aA) (by kernel_rfl) (by kernel_rfl) (by kernel_rfl) hO (by kernel_rfl) (bZ (c14 hg18)) ?_
            refine cJ 11 [0 ≤ gR ∧ gR < (lN aA)] ⟨(c15 hg18), trivial⟩ ?_
            refine iZ 0 lo0p 1 (0 + Int.toNat gR) (eI (gD aA gR)) (eI (gD aA gR)) (List.map (eI) aA) (by kernel_rfl) (by kernel_rfl) (by kernel_rfl) hO (by kernel_rfl) (bZ (c15 hg18)) ?_
            refine pV 54 [(eI (gD aA (wR (a1 - (1 : Int))))), (eI (gD aA gR))] (aE x16) (by kernel_rfl) (by kernel_rfl) (gC (gD aA (wR (a1 - (1 : Int)))) (gD aA gR) _ (jP hx17 hg18)) hO ?_
            intro H hO
            refine kJ ?_
            exact ⟨⟨[(0, (.msl 1 lo0p 0 (List.length aA))), (1, (eI a1)), (2, (eI b2)), (3, (eI cD)), (8, (aE bX)), (9, (aE bP)), (10, (eI eA)), (11, (eI gR)), (87, (aE (!x16)))], by kernel_rfl, rfl, ⟨aQ.refl _, aQ.refl _, aQ.refl _, aQ.refl _, aQ.refl _, aQ.refl _, aQ.refl _, aQ.refl _, aQ.eq (congrArg aE (nU hg18 rfl).symm), trivial⟩⟩, hO⟩
          refine kJ ?_
          exact ⟨⟨[(0, (.msl 1 lo0p 0 (List.length aA))), (1, (eI a1)), (2, (eI b2)), (3, (eI cD)), (8, (aE bX)), (9, (aE bP)), (10, (eI eA)), (11, (eI gR)), (87, (aE false))], by kernel_rfl, rfl, ⟨aQ.refl _, aQ.refl _, aQ.refl _, aQ.refl _, aQ.refl _, aQ.refl _, aQ.refl _, aQ.refl _, aQ.eq (congrArg aE (nU hg18 rfl).symm), trivial⟩⟩, hO⟩
        · rintro T H ⟨hT, hO⟩
          refine dH hT ?_
          clear hT
          refine aF (aH ?_)
          refine bJ h1 (fun h1 => ?_) (fun h1 => ?_)
          · refine aO ?_
            refine aS aB 6 ?_
            refine bE 4 ?_
            obtain ⟨x20, hx21, h1⟩ := aW h1
            refine yC [(lo0p, 1, List.map (eI) x20.2)] 0 (wW lo0p aA a1 b2 gR _ hx21) hO ?_
            intro H hO hl22
            simp only [List.length_map] at hl22
            replace hN := hl22.trans hN
            refine aZ ?_
            refine dH (l := [(0, (.msl 1 lo0p 0 (List.length x20.2))), (2, (eI b2)), (3, (eI cD)), (8, (aE bX)), (9, (aE bP)), (13, (eI x20.1))]) ⟨[(0, (.msl 1 lo0p 0 (List.length aA))), (2, (eI b2)), (3, (eI cD)), (8, (aE bX)), (9, (aE bP)), (13, (eI x20.1))], by kernel_rfl, rfl, ⟨aQ.eq (by simp [hl22]), aQ.refl _, aQ.refl _, aQ.refl _, aQ.refl _, aQ.refl _, trivial⟩⟩ ?_
            refine aF (aH (?_))
            refine aX aB 2 [13] [(1, (eI x20.1))] ?_
            refine gG 1 ?_
            exact aF (aY (bU (aH (⟨rfl, _, (oI h1).symm, .eq (by kernel_rfl), hO, hN⟩))))
          refine bM ?_
          refine bB [(0, (.msl 1 lo0p 0 (List.length aA))), (1, (eI a1)), (2, (eI b2)), (3, (eI cD)), (10, (eI eA)), (11, (eI gR))] ?_
          refine aO ?_
          refine aS aB 10 ?_
          refine bE 4 ?_
          obtain ⟨x23, hx24, h1⟩ := aW h1
          refine yC [(lo0p, 1, List.map (eI) x23.2)] 0 (zP lo0p aA a1 b2 gR _ hx24) hO ?_
          intro H hO hl25
          simp only [List.length_map] at hl25
          replace hN := hl25.trans hN
          refine aZ ?_
          refine dH (l := [(0, (.msl 1 lo0p 0 (List.length x23.2))), (1, (eI a1)), (2, (eI b2)), (3, (eI cD)), (10, (eI eA)), (14, (eI x23.1.1)), (15, (aE x23.1.2))]) ⟨[(0, (.msl 1 lo0p 0 (List.length aA))), (1, (eI a1)), (2, (eI b2)), (3, (eI cD)), (10, (eI eA)), (14, (eI x23.1.1)), (15, (aE x23.1.2))], by kernel_rfl, rfl, ⟨aQ.eq (by simp [hl25]), aQ.refl _, aQ.refl _, aQ.refl _, aQ.refl _, aQ.refl _, aQ.refl _, trivial⟩⟩ ?_
          refine aF (aH (?_))
          refine aX aB 2 [15] [(9, (aE x23.1.2))] ?_
          refine aX aB 8 [] [(16, (eI (wR (x23.1.1 - a1)))), (17, (eI (wR (b2 - x23.1.1))))] ?_
          refine aO ?_
          refine aS aB 3 ?_
          obtain ⟨c26, h1⟩ := bA h1
          refine qK [(8 : Int) ≠ 0] ⟨c26, trivial⟩ ?_
          refine bO [10] [(18, (eI (wR (Int.tdiv eA (8 : Int)))))] ?_
          refine aX aB 3 [] [(113, (aE (decide ((wR (x23.1.1 - a1)) < (wR (b2 - x23.1.1))))))] ?_
          refine bJ h1 (fun h1 => ?_) (fun h1 => ?_)
          · refine bV aB 4 [(0, (.msl 1 lo0p 0 (List.length x23.2))), (1, (eI a1)), (2, (eI b2)), (3, (eI cD)), (8, (aE (decide ((wR (Int.tdiv eA (8 : Int))) ≤ (wR (x23.1.1 - a1)))))), (9, (aE x23.1.2)), (14, (eI x23.1.1))] ?_
            refine aO ?_
            refine aS aB 5 ?_
            refine bE 4 ?_
            obtain ⟨x28, hx29, h1⟩ := aW h1
            refine yC [(lo0p, 1, List.map (eI) x28)] 0 (ih lo0p x23.2 a1 x23.1.1 cD _ hx29) hO ?_
            intro H hO hl30
            simp only [List.length_map] at hl30
            replace hN := hl30.trans hN
            refine cX ?_
            refine dH (l := [(0, (.msl 1 lo0p 0 (List.length x28))), (2, (eI b2)), (3, (eI cD)), (8, (aE (decide ((wR (Int.tdiv eA (8 : Int))) ≤ (wR (x23.1.1 - a1)))))), (9, (aE x23.1.2)), (14, (eI x23.1.1))]) ⟨[(0, (.msl 1 lo0p 0 (List.length x23.2))), (2, (eI b2)), (3, (eI cD)), (8, (aE (decide ((wR (Int.tdiv eA (8 : Int))) ≤ (wR (x23.1.1 - a1)))))), (9, (aE x23.1.2)), (14, (eI x23.1.1))], by kernel_rfl, rfl, ⟨aQ.eq (by simp [hl30]), aQ.refl _, aQ.refl _, aQ.refl _, aQ.refl _, aQ.refl _, trivial⟩⟩ ?_
            refine aF (aH (?_))
            refine aS aB 3 ?_
            refine aZ ?_
            exact aF (aV (aH (⟨rfl, _, (oI h1).symm, .eq (by kernel_rfl), hO, hN⟩)))
          refine bV aB 4 [(0, (.msl 1 lo0p 0 (List.length x23.2))), (1, (eI a1)), (2, (eI b2)), (3, (eI cD)), (8, (aE (decide ((wR (Int.tdiv eA (8 : Int))) ≤ (wR (b2 - x23.1.1)))))), (9, (aE x23.1.2)), (14, (eI x23.1.1))] ?_
          refine aO ?_
          refine aS aB 6 ?_
          refine bE 5 ?_
          obtain ⟨x31, hx32, h1⟩ := aW h1
          refine yC [(lo0p, 1, List.map (eI) x31)] 0 (ih lo0p x23.2 (wR (x23.1.1 + (1 : Int))) b2 cD _ hx32) hO ?_
          intro H hO hl33
          simp only [List.length_map] at hl33
          replace hN := hl33.trans hN
          refine cX ?_
          refine dH (l := [(0, (.msl 1 lo0p 0 (List.length x31))), (1, (eI a1)), (3, (eI cD)), (8, (aE (decide ((wR (Int.tdiv eA (8 : Int))) ≤ (wR (b2 - x23.1.1)))))), (9, (aE x23.1.2)), (14, (eI x23.1.1))]) ⟨[(0, (.msl 1 lo0p 0 (List.length x23.2))), (1, (eI a1)), (3, (eI cD)), (8, (aE (decide ((wR (Int.tdiv eA (8 : Int))) ≤ (wR (b2 - x23.1.1)))))), (9, (aE x23.1.2)), (14, (eI x23.1.1))], by kernel_rfl, rfl, ⟨aQ.eq (by simp [hl33]), aQ.refl _, aQ.refl _, aQ.refl _, aQ.refl _, aQ.refl _, trivial⟩⟩ ?_
          refine aF (aH (?_))
          refine aS aB 2 ?_
          refine aZ ?_
          exact aF (aV (aH (⟨rfl, _, (oI h1).symm, .eq (by kernel_rfl), hO, hN⟩)))
      refine aX aB 8 [12] [(68, (aE ((bX && bP) && (decide (EP = (1 : Int))))))] ?_
      refine bJ h1 (fun h1 => ?_) (fun h1 => ?_)
      · refine aO ?_
        refine aS aB 4 ?_
        refine bE 3 ?_
        obtain ⟨x35, hx36, h1⟩ := aW h1
        refine yC [(lo0p, 1, List.map (eI) x35.2)] 0 (tF lo0p aA a1 b2 _ hx36) hO ?_
        intro H hO hl37
        simp only [List.length_map] at hl37
        replace hN := hl37.trans hN
        refine cX ?_
        refine dH (l := [(0, (.msl 1 lo0p 0 (List.length x35.2))), (1, (eI a1)), (2, (eI b2)), (3, (eI cD)), (8, (aE bX)), (9, (aE bP)), (10, (eI eA)), (11, (eI gR)), (72, (aE x35.1))]) ⟨[(0, (.msl 1 lo0p 0 (List.length aA))), (1, (eI a1)), (2, (eI b2)), (3, (eI cD)), (8, (aE bX)), (9, (aE bP)), (10, (eI eA)), (11, (eI gR)), (72, (aE x35.1))], by kernel_rfl, rfl, ⟨aQ.eq (by simp [hl37]), aQ.refl _, aQ.refl _, aQ.refl _, aQ.refl _, aQ.refl _, aQ.refl _, aQ.refl _, aQ.refl _, trivial⟩⟩ ?_
        refine aF (aH (?_))
        refine bJ h1 (fun h1 => ?_) (fun h1 => ?_)
        · refine bH ?_
          obtain rfl := oI h1
          obtain rfl : _ = rr0 := ho0
          replace h0 : some x35.2 = some r := h0
          obtain rfl := oI h0
          exact aF (aU (bD (aU (bD (jV (x := (.tup [])) (by kernel_rfl) (aQ.refl _) ⟨rfl, hO.ext, hO.at 0 (by kernel_rfl), by simp only [List.length_map]; exact hN.trans hN0⟩)))))
        refine bM ?_
        exact aF (aH (⟨rfl, _, .eq (by kernel_rfl), hO, hN, h1⟩))
      refine bM ?_
      exact aF (aH (⟨rfl, _, .eq (by kernel_rfl), hO, hN, h1⟩))
    refine aX aB 2 [] [(50, (aE (decide (x9.2 = (2 : Int)))))] ?_
    refine bJ h1 (fun h1 => ?_) (fun h1 => ?_)
    · refine aO ?_
      refine aS aB 4 ?_
      refine bE 3 ?_
      obtain ⟨x40, hx41, h1⟩ := aW h1
      refine yC [(lo0p, 1, List.map (eI) x40)] 0 (yF lo0p aA a1 b2 _ hx41) hO ?_
      intro H hO hl42
      simp only [List.length_map] at hl42
      replace hN := hl42.trans hN
      refine cX ?_
      refine dH (l := [(0, (.msl 1 lo0p 0 (List.length x40))), (1, (eI a1)), (2, (eI b2)), (3, (eI cD)), (8, (aE bX)), (9, (aE bP)), (10, (eI eA)), (11, (eI x9.1))]) ⟨[(0, (.msl 1 lo0p 0 (List.length aA))), (1, (eI a1)), (2, (eI b2)), (3, (eI cD)), (8, (aE bX)), (9, (aE bP)), (10, (eI eA)), (11, (eI x9.1))], by kernel_rfl, rfl, ⟨aQ.eq (by simp [hl42]), aQ.refl _, aQ.refl _, aQ.refl _, aQ.refl _, aQ.refl _, aQ.refl _, aQ.refl _, trivial⟩⟩ ?_
      refine aF (aH (?_))
      refine aX aB 7 [11] [(11, (eI (wR ((wR (b2 - (1 : Int))) - (wR (x9.1 - a1))))))] ?_
      refine aS aB 1 ?_
      refine aZ ?_
      exact aF (aH (⟨rfl, _, _, _, .eq (by kernel_rfl), hO, hN, h1⟩))
    refine bM ?_
    exact aF (aH (⟨rfl, _, _, _, .eq (by kernel_rfl), hO, hN, h1⟩))
  refine aX aB 2 [] [(35, (aE (!bX)))] ?_
  refine bJ h1 (fun h1 => ?_) (fun h1 => ?_)
  · refine aO ?_
    refine aS aB 4 ?_
    refine bE 3 ?_
    obtain ⟨x44, hx45, h1⟩ := aW h1
    refine yC [(lo0p, 1, List.map (eI) x44)] 0 (xD lo0p aA a1 b2 _ hx45) hO ?_
    intro H hO hl46
    simp only [List.length_map] at hl46
    replace hN := hl46.trans hN
    refine cX ?_
    refine dH (l := [(0, (.msl 1 lo0p 0 (List.length x44))), (1, (eI a1)), (2, (eI b2)), (3, (eI cD)), (8, (aE bX)), (9, (aE bP)), (10, (eI (wR (b2 - a1))))]) ⟨[(0, (.msl 1 lo0p 0 (List.length aA))), (1, (eI a1)), (2, (eI b2)), (3, (eI cD)), (8, (aE bX)), (9, (aE bP)), (10, (eI (wR (b2 - a1))))], by kernel_rfl, rfl, ⟨aQ.eq (by simp [hl46]), aQ.refl _, aQ.refl _, aQ.refl _, aQ.refl _, aQ.refl _, aQ.refl _, trivial⟩⟩ ?_
    refine aF (aH (?_))
    refine aS aB 3 ?_
    refine aZ ?_
    exact aF (aH (⟨rfl, _, _, _, .eq (by kernel_rfl), hO, hN, h1⟩))
  refine bM ?_
  exact aF (aH (⟨rfl, _, _, _, .eq (by kernel_rfl), hO, hN, h1⟩))

theorem rF  : ∀ (k : Nat) (lo0p : Nat) (aA : (List Int)) (a1 : Int) (b2 : Int) (cD : Int) (r : List Int), dP k aA a1 b2 cD = some r → qP Try.prog 65 lo0p 1 (List.map (eI) aA) (List.map (eI) r) [(.msl 1 lo0p 0 (List.length aA)), (eI a1), (eI b2), (eI cD)] (.tup [])
  | 0, _, _, _, _, _, _, h => by cases h
  | k + 1, lo0p, aA, a1, b2, cD, r, h => yG  _ (rF  k) lo0p aA a1 b2 cD r h

theorem AZ (lo0p : Nat) (aA : (List Int)) (a1 : Int) (b2 : Int) (cD : Int) (r : List Int) (h0 : kF aA a1 b2 cD = some r) : qP Try.prog 65 lo0p 1 (List.map (eI) aA) (List.map (eI) r) [(.msl 1 lo0p 0 (List.length aA)), (eI a1), (eI b2), (eI cD)] (.tup []) := by
  obtain ⟨k, hk⟩ := SA h0
  exact rF  k lo0p aA a1 b2 cD r hk

theorem sB (lo0p : Nat) (x0 : (List Int)) (r : List Int) (h0 : gQ x0 = some r) : qP Try.prog 42 lo0p 1 (List.map (eI) x0) (List.map (eI) r) [(.msl 1 lo0p 0 (List.length x0))] (.tup []) := by
  intro H0 hl0
  refine cY Try.func42 ?_
  have hO := aM.sH hl0
  clear hl0
  obtain ⟨N0, hN0⟩ : ∃ n, n = List.length x0 := ⟨_, rfl⟩
  have hN : List.length x0 = N0 := hN0.symm
  unfold gQ at h0
  refine aX aB 3 [] [(2, (eI (lN x0)))] ?_
  refine aS aB 6 ?_
  refine bE 4 ?_
  obtain ⟨x1, hx2, h0⟩ := aW h0
  refine cW (DX (IntKind.u64.wrap (lN x0)) _ hx2) hO ?_
  intro H hO
  obtain ⟨x4, hx5, h0⟩ := aW h0
  refine yC [(lo0p, 1, List.map (eI) x4)] 0 (AZ lo0p x0 (0 : Int) (lN x0) x1 _ hx5) hO ?_
  intro H hO hl6
  simp only [List.length_map] at hl6
  replace hN := hl6.trans hN
  refine cX ?_
  refine dH (l := [(0, (.msl 1 lo0p 0 (List.length x4)))]) ⟨[(0, (.msl 1 lo0p 0 (List.length x0)))], by kernel_rfl, rfl, ⟨aQ.eq (by simp [hl6]), trivial⟩⟩ ?_
  obtain rfl := oI h0
  exact aF (xY (x := (.tup [])) (by kernel_rfl) (aQ.refl _) ⟨rfl, hO.ext, hO.at 0 (by kernel_rfl), by simp only [List.length_map]; exact hN.trans hN0⟩)

theorem DF (lo0p : Nat) (s0 : (List Int)) (r : (List Int)) (h0 : kA s0 = some r) : aAo Try.prog 53 lo0p 1 (List.map (eI) s0) [(.msl 1 lo0p 0 (List.length s0))] (fun lo => .msl 1 lo 0 (List.length r)) (List.map (eI) r) := by
  intro H0 hl0
  refine cY Try.func53 ?_
  have hO := aM.sH hl0
  clear hl0
  unfold kA at h0
  refine aX aB 1 [] [] ?_
  refine aO ?_
  refine aX aB 3 [] [(8, (aE (decide ((lN s0) < (2 : Int)))))] ?_
  refine bJ h0 (fun h0 => ?_) (fun h0 => ?_)
  · refine bV aB 2 [(2, (.msl 1 lo0p 0 (List.length s0)))] ?_
    refine bH ?_
    obtain rfl := oI h0
    exact aF (aU (jV (x := (.msl 1 lo0p 0 (List.length s0))) (by kernel_rfl) (aQ.refl _) ⟨lo0p, rfl, hO⟩))
  refine bM ?_
  refine bB [(0, (.msl 1 lo0p 0 (List.length s0)))] ?_
  refine eV (fun T H => ∃ s0 : List Int, ∃ lo2 : Nat, Has T [(0, (.msl 1 lo2 0 (List.length s0)))] ∧ aM ⟨H0, [lo0p], []⟩ H [(lo2, 1, List.map (eI) s0)] ∧ lA s0 = some r) ?_ ?_
  · clear hO h0
    rintro T H ⟨s0, lo2, hT, hO, h0⟩
    refine bF hT ?_
    clear hT
    unfold lA at h0
    refine bV aB 2 [(2, (.msl 1 lo2 0 (List.length s0)))] ?_
    refine bH ?_
    obtain rfl := oI h0
    exact aF (jV (x := (.msl 1 lo2 0 (List.length s0))) (by kernel_rfl) (aQ.refl _) ⟨lo2, rfl, hO⟩)
  refine aX aB 1 [] [(3, (eI (1 : Int)))] ?_
  refine bW 0 ?_
  refine eE [(0, (.msl 1 lo0p 0 (List.length s0))), (3, (eI (1 : Int)))] ?_
  refine eH (fun T H => ∃ s0 : List Int, ∃ k3 : Int, ∃ lo4 : Nat, Has T [(0, (.msl 1 lo4 0 (List.length s0))), (3, (eI k3))] ∧ aM ⟨H0, [lo0p], []⟩ H [(lo4, 1, List.map (eI) s0)] ∧ mW s0 k3 = some r) ?_ ⟨s0, (1 : Int), lo0p, .eq (by kernel_rfl), hO, h0⟩
  clear hO h0
  rintro T H ⟨s0, k3, lo4, hT, hO, h0⟩
  refine bF hT ?_
  clear hT
  unfold mW at h0
  obtain ⟨rr0, hl0, h0⟩ := aW h0
  refine dM (by kernel_rfl) (fun (s : List Int × Int) T H => ∃ lo4 : Nat, Has T [(0, (.msl 1 lo4 0 (List.length s.1))), (3, (eI s.2))] ∧ aM ⟨H0, [lo0p], []⟩ H [(lo4, 1, List.map (eI) s.1)]) hl0 ⟨lo4, .eq (by kernel_rfl), hO⟩ ?_
  clear hO
  rintro k0 s out1 T H ⟨lo4, hT, hO⟩ h1 ho0
  obtain ⟨s0, k3⟩ := s
  replace h1 : iD s0 k3 = some out1 := h1
  try dsimp only at hT
  refine bF hT ?_
  clear hT
  unfold iD at h1
  refine aO ?_
  refine aX aB 4 [] [(13, (aE (decide (k3 < (lN s0)))))] ?_
  refine bJ h1 (fun h1 => ?_) (fun h1 => ?_)
  · refine bM ?_
    refine bB [(0, (.msl 1 lo4 0 (List.length s0))), (3, (eI k3))] ?_
    refine eV (fun T H => ∃ s0 : List Int, ∃ k3 : Int, ∃ lo6 : Nat, Has T [(0, (.msl 1 lo6 0 (List.length s0))), (3, (eI k3))] ∧ aM ⟨H0, [lo0p], []⟩ H [(lo6, 1, List.map (eI) s0)] ∧ mY s0 k3 = some out1) ?_ ?_
    · clear hO h1
      rintro T H ⟨s0, k3, lo6, hT, hO, h1⟩
      refine bF hT ?_
      clear hT
      unfold mY at h1
      refine aS aB 3 ?_
      refine aZ ?_
      exact aF (aH (⟨rfl, _, (oI h1).symm, _, .eq (by kernel_rfl), hO⟩))
    refine bW 1 ?_
    refine aO ?_
    refine fX (fZ []) aB 10 ?_
    obtain ⟨c7, h1⟩ := bA h1
    refine cJ 3 [0 ≤ k3 ∧ k3 < (lN s0)] ⟨c7, trivial⟩ ?_
    refine fU 0 lo4 1 (0 + Int.toNat k3) (eI (gD s0 k3)) (eI (gD s0 k3)) (List.map (eI) s0) hO (bZ c7) ?_
    obtain ⟨c8, h1⟩ := bA h1
    refine cJ 8 [0 ≤ (wR (k3 - (1 : Int))) ∧ (wR (k3 - (1 : Int))) < (lN s0)] ⟨c8, trivial⟩ ?_
    refine fU 0 lo4 1 (0 + Int.toNat (wR (k3 - (1 : Int)))) (eI (gD s0 (wR (k3 - (1 : Int))))) (eI (gD s0 (wR (k3 - (1 : Int))))) (List.map (eI) s0) hO (bZ c8) ?_
    refine kJ ?_
    refine bO [] [(25, (aE (decide ((gD s0 k3) = (gD s0 (wR (k3 - (1 : Int))))))))] ?_
    refine bJ h1 (fun h1 => ?_) (fun h1 => ?_)
    · refine aO ?_
      refine aS aB 4 ?_
      obtain ⟨c10, h1⟩ := bA h1
      refine qK [0 ≤ k3 ∧ k3 ≤ (lN s0)] ⟨c10, trivial⟩ ?_
      refine bO [25] [(4, (.msl 1 lo4 (0 + Int.toNat k3) (List.length s0 - Int.toNat k3)))] ?_
      refine eV (fun T H => ∃ s0 : List Int, ∃ k3 : Int, ∃ lo11 : Nat, Has T [(0, (.msl 1 lo11 0 (List.length s0))), (3, (eI k3))] ∧ aM ⟨H0, [lo0p], []⟩ H [(lo11, 1, List.map (eI) s0)] ∧ kZ s0 k3 = some out1) ?_ ?_
      · clear hO h1
        rintro T H ⟨s0, k3, lo11, hT, hO, h1⟩
        refine bF hT ?_
        clear hT
        unfold kZ at h1
        refine aO ?_
        refine aS aB 4 ?_
        obtain ⟨c12, h1⟩ := bA h1
        refine rO 3 [0 ≤ k3 ∧ k3 ≤ (lN s0)] ⟨c12, trivial⟩ ?_
        refine aEd (t := 71) (m := (0 + Int.toNat k3)) (nn := (List.length s0 - Int.toNat k3)) s0 0 lo11 [(lo11, 1, List.map (eI) (kL (0 + Int.toNat k3) s0))] hO (by omega) ?_
        intro H hO
        refine cX ?_
        refine dH (l := [(0, (.msl 1 lo11 0 (List.length (kL (0 + Int.toNat k3) s0)))), (3, (eI k3))]) ⟨[(0, (.msl 1 lo11 0 (List.length s0))), (3, (eI k3))], by kernel_rfl, rfl, ⟨aQ.eq (by simp [clearL_len]), aQ.refl _, trivial⟩⟩ ?_
        refine aF (aH (?_))
        refine aO ?_
        refine aS aB 4 ?_
        obtain ⟨c13, h1⟩ := bA h1
        obtain ⟨c14, h1⟩ := bA h1
        refine qK [0 ≤ k3 ∧ k3 ≤ (lN (kL (0 + Int.toNat k3) s0))] ⟨c13, trivial⟩ ?_
        refine bB [(2, (.msl 1 lo11 0 (Int.toNat k3)))] ?_
        refine bH ?_
        refine dH (l := [(2, (.msl 1 lo11 0 (List.length (List.take (Int.toNat k3) (kL (0 + Int.toNat k3) s0)))))]) ⟨[(2, (.msl 1 lo11 0 (Int.toNat k3)))], by kernel_rfl, rfl, ⟨aQ.eq (by rw [List.length_take, Nat.min_eq_left c14]), trivial⟩⟩ ?_
        refine aFi (en := (eI)) (kL (0 + Int.toNat k3) s0) (Int.toNat k3) 0 1 lo11 [(lo11, 1, List.map (eI) (List.take (Int.toNat k3) (kL (0 + Int.toNat k3) s0)))] hO (by kernel_rfl) (by kernel_rfl) ?_
        intro H hO
        obtain rfl := oI h1
        obtain rfl : _ = rr0 := ho0
        replace h0 : some (List.take (Int.toNat k3) (kL (0 + Int.toNat k3) s0)) = some r := h0
        obtain rfl := oI h0
        exact aF (bD (aU (aU (bD (aU (jV (x := (.msl 1 lo11 0 (List.length (List.take (Int.toNat k3) (kL (0 + Int.toNat k3) s0))))) (by kernel_rfl) (aQ.refl _) ⟨lo11, rfl, hO⟩))))))
      refine aX aB 1 [] [(5, (eI (1 : Int)))] ?_
      refine bW 2 ?_
      refine eE [(0, (.msl 1 lo4 0 (List.length s0))), (3, (eI k3)), (4, (.msl 1 lo4 (0 + Int.toNat k3) (List.length s0 - Int.toNat k3))), (5, (eI (1 : Int)))] ?_
      refine eH (fun T H => ∃ s0 : List Int, ∃ k3 : Int, ∃ k25 : Int, ∃ s24o : Nat, ∃ s24n : Nat, ∃ lo16 : Nat, Has T [(0, (.msl 1 lo16 0 (List.length s0))), (3, (eI k3)), (4, (.msl 1 lo16 s24o s24n)), (5, (eI k25))] ∧ aM ⟨H0, [lo0p], []⟩ H [(lo16, 1, List.map (eI) s0)] ∧ mV s0 k3 k25 s24o s24n = some out1) ?_ ⟨s0, k3, (1 : Int), (0 + Int.toNat k3), (List.length s0 - Int.toNat k3), lo4, .eq (by kernel_rfl), hO, h1⟩
      clear hO h1
      rintro T H ⟨s0, k3, k25, s24o, s24n, lo16, hT, hO, h1⟩
      refine bF hT ?_
      clear hT
      unfold mV at h1
      obtain ⟨rr1, hl1, h1⟩ := aW h1
      refine dM (by kernel_rfl) (fun (s : List Int × Int × Int) T H => ∃ lo16 : Nat, Has T [(0, (.msl 1 lo16 0 (List.length s.1))), (3, (eI s.2.1)), (4, (.msl 1 lo16 s24o s24n)), (5, (eI s.2.2))] ∧ aM ⟨H0, [lo0p], []⟩ H [(lo16, 1, List.map (eI) s.1)]) hl1 ⟨lo16, .eq (by kernel_rfl), hO⟩ ?_
      clear hO
      rintro k1 s out2 T H ⟨lo16, hT, hO⟩ h2 ho1
      obtain ⟨s0, k3, k25⟩ := s
      replace h2 : fR s24o s24n s0 k3 k25 = some out2 := h2
      try dsimp only at hT
      refine bF hT ?_
      clear hT
      unfold fR at h2
      refine aO ?_
      refine aX aB 4 [] [(32, (aE (decide (k25 < ((s24n : Nat) : Int)))))] ?_
      refine bJ h2 (fun h2 => ?_) (fun h2 => ?_)
      · refine bM ?_
        refine bB [(0, (.msl 1 lo16 0 (List.length s0))), (3, (eI k3)), (4, (.msl 1 lo16 s24o s24n)), (5, (eI k25))] ?_
        refine eV (fun T H => ∃ s0 : List Int, ∃ k3 : Int, ∃ lo18 : Nat, Has T [(0, (.msl 1 lo18 0 (List.length s0))), (3, (eI k3)), (4, (.msl 1 lo18 s24o s24n)), (5, (eI k25))] ∧ aM ⟨H0, [lo0p], []⟩ H [(lo18, 1, List.map (eI) s0)] ∧ jJ s0 k3 k25 s24o s24n = some out2) ?_ ?_
        · clear hO h2
          rintro T H ⟨s0, k3, lo18, hT, hO, h2⟩
          refine bF hT ?_
          clear hT
          unfold jJ at h2
          refine aS aB 3 ?_
          refine aZ ?_
          exact aF (aH (⟨rfl, _, (oI h2).symm, _, .eq (by kernel_rfl), hO⟩))
        refine bW 3 ?_
        refine aO ?_
        refine fX (fZ []) aB 10 ?_
        obtain ⟨c19, h2⟩ := bA h2
        obtain ⟨c20, h2⟩ := bA h2
        refine cJ 3 [0 ≤ k25 ∧ k25 < ((s24n : Nat) : Int)] ⟨c19, trivial⟩ ?_
        refine fU 0 lo16 1 (s24o + Int.toNat k25) (eI (List.getD s0 (s24o + Int.toNat k25) default)) (eI (List.getD s0 (s24o + Int.toNat k25) default)) (List.map (eI) s0) hO (QD c20) ?_
        obtain ⟨c21, h2⟩ := bA h2
        obtain ⟨c22, h2⟩ := bA h2
        refine cJ 8 [0 ≤ (wR (k25 - (1 : Int))) ∧ (wR (k25 - (1 : Int))) < ((s24n : Nat) : Int)] ⟨c21, trivial⟩ ?_
        refine fU 0 lo16 1 (s24o + Int.toNat (wR (k25 - (1 : Int)))) (eI (List.getD s0 (s24o + Int.toNat (wR (k25 - (1 : Int)))) default)) (eI (List.getD s0 (s24o + Int.toNat (wR (k25 - (1 : Int)))) default)) (List.map (eI) s0) hO (QD c22) ?_
        refine kJ ?_
        refine bO [] [(44, (aE (!decide ((List.getD s0 (s24o + Int.toNat k25) default) = (List.getD s0 (s24o + Int.toNat (wR (k25 - (1 : Int)))) default)))))] ?_
        refine bJ h2 (fun h2 => ?_) (fun h2 => ?_)
        · refine aO ?_
          refine aS aB 8 ?_
          obtain ⟨c24, h2⟩ := bA h2
          obtain ⟨c25, h2⟩ := bA h2
          refine rO 5 [0 ≤ k25 ∧ k25 < ((s24n : Nat) : Int)] ⟨c24, trivial⟩ ?_
          refine iS 0 lo16 1 (s24o + Int.toNat k25) (eI (List.getD s0 (s24o + Int.toNat k25) default)) (eI (List.getD s0 (s24o + Int.toNat k25) default)) (List.map (eI) s0) hO (QD c25) ?_
          obtain ⟨c26, h2⟩ := bA h2
          refine rO 7 [0 ≤ k3 ∧ k3 < (lN s0)] ⟨c26, trivial⟩ ?_
          refine gM 0 lo16 1 (0 + Int.toNat k3) (eI (gD s0 k3)) (eI (List.getD s0 (s24o + Int.toNat k25) default)) (List.map (eI) s0) [(lo16, 1, List.map (eI) (List.set s0 (Int.toNat k3) (List.getD s0 (s24o + Int.toNat k25) default)))] hO (bZ c26) (by simp only [List.set, iH]) ?_
          intro H hO
          refine cX ?_
          refine dH (l := [(0, (.msl 1 lo16 0 (List.length (List.set s0 (Int.toNat k3) (List.getD s0 (s24o + Int.toNat k25) default))))), (3, (eI k3)), (4, (.msl 1 lo16 s24o s24n)), (5, (eI k25))]) ⟨[(0, (.msl 1 lo16 0 (List.length s0))), (3, (eI k3)), (4, (.msl 1 lo16 s24o s24n)), (5, (eI k25))], by kernel_rfl, rfl, ⟨aQ.eq (by simp []), aQ.refl _, aQ.refl _, aQ.refl _, trivial⟩⟩ ?_
          refine aF (aH (?_))
          refine aS aB 3 ?_
          refine aZ ?_
          exact aF (aV (aH (⟨rfl, _, _, _, .eq (by kernel_rfl), hO, h2⟩)))
        refine bM ?_
        exact aF (aV (aH (⟨rfl, _, _, _, .eq (by kernel_rfl), hO, h2⟩)))
      refine gG 2 ?_
      obtain rfl := oI h2
      obtain rfl : _ = rr1 := ho1
      replace h1 : kZ s0 k3 = some out1 := h1
      exact aF (aY (aY (bU (aH (⟨rfl, _, _, _, .eq (by kernel_rfl), hO, h1⟩)))))
    refine bM ?_
    exact aF (aV (aH (⟨rfl, _, _, _, .eq (by kernel_rfl), hO, h1⟩)))
  refine gG 0 ?_
  obtain rfl := oI h1
  obtain rfl : _ = rr0 := ho0
  replace h0 : lA s0 = some r := h0
  exact aF (aY (aY (bU (aH (⟨rfl, _, _, .eq (by kernel_rfl), hO, h0⟩)))))

theorem DZ (l0 : (List aG)) (r : (List Int)) (h0 : oT l0 = some r) : dF Try.prog 33 [(eL aD l0)] (eL (eI) r) := by
  intro H0
  refine yM aB Try.func33 (by kernel_rfl) (by kernel_rfl) (by kernel_rfl) ?_
  have hO := aM.start H0
  unfold oT at h0
  refine aX aB 1 [] [] ?_
  refine aO ?_
  refine aS aB 3 ?_
  refine nK (xs := []) (k := 1) (by kernel_rfl) (by kernel_rfl) ?_
  refine oA 1 (.sl true 0 (fun _ => .bad)) (eL (eI) ([])) (by kernel_rfl) (by kernel_rfl) (by kernel_rfl) (eU) (by kernel_rfl) (by kernel_rfl) hO ?_
  intro lo1 H hO
  refine VW 5 1 (fun _ => .bad) (by kernel_rfl) hO (by kernel_rfl) ?_
  intro lo2 H hO
  refine gM 0 lo1 1 0 (eL (eI) ([])) (.msl 1 lo2 0 (List.length ([] : List Int))) [(eL (eI) ([]))] [(lo1, 1, [(.msl 1 lo2 0 (List.length ([] : List Int)))]), (lo2, 1, List.map (eI) ([] : List Int))] hO rfl (by kernel_rfl) ?_
  intro H hO
  refine cX ?_
  refine bO [] [(3, (.lp lo1 0 0))] ?_
  refine aO ?_
  refine aO ?_
  refine aS aB 2 ?_
  refine bE 1 ?_
  obtain ⟨x3, hx4, h0⟩ := aW h0
  refine cW (EU l0 _ hx4) hO ?_
  intro H hO
  refine cX ?_
  refine bO [0] [(7, (.fn (.func 70) [] [(.rp (eL aD x3))]))] ?_
  refine bW 0 ?_
  refine eE [(3, (.lp lo1 0 0)), (7, (.fn (.func 70) [] [(.rp (eL aD x3))]))] ?_
  refine eH (fun T H => ∃ out3 : List Int, ∃ t7c0 : (List aG), ∃ lo5 : Nat, Has T [(3, (.lp lo1 0 0)), (7, (.fn (.func 70) [] [(.rp (eL aD t7c0))]))] ∧ aM ⟨H0, [], []⟩ H [(lo1, 1, [(.msl 1 lo5 0 (List.length out3))]), (lo5, 1, List.map (eI) out3)] ∧ tQ out3 t7c0 = some r) ?_ ⟨([] : List Int), x3, lo2, .eq (by kernel_rfl), hO, h0⟩
  clear hO h0
  rintro T H ⟨out3, t7c0, lo5, hT, hO, h0⟩
  refine bF (l := [(3, (.lp lo1 0 0)), (7, (.fn (.func 70) [] [(.rp (eL aD t7c0))]))]) hT ?_
  clear hT
  unfold tQ at h0
  obtain ⟨o0, hl0, h0⟩ := aW h0
  refine vS (fid := 70) (ys := []) (cs := [(.rp (eL aD t7c0))]) #[8] (fun (A : rN) (b lL : Nat) (st : (List Int) ⊕ (List Int)) (G' : Gs) => Sum.elim (fun (s : List Int) => ∃ lo5 : Nat, G' = (lL, .raw (gL b A .ready none)) :: (up [(lo1, 1, [(.msl 1 lo5 0 (List.length s))]), (lo5, 1, List.map (eI) s)] ++ [])) (fun (s : List Int) => False) st) (.inl out3) o0 (.tup []) (by kernel_rfl) (by kernel_rfl) (by kernel_rfl) hO (fun _ _ => ⟨lo5, rfl⟩) ?_ ?_
  · intro b lL
    clear hO h0
    refine AS _ b (fun st t8 => rnd (fun (s : List Int) => qL t7c0 s t8) st) ?_ t7c0 _ _ hl0
    intro st t8 out1 rr hr
    obtain ⟨s, rfl, h1, rfl⟩ := FN hr
    clear hr
    intro Hr Gr hi hg
    obtain ⟨out3, rfl⟩ : ∃ x, x = s := ⟨_, rfl⟩
    dsimp only [Sum.elim_inl] at hi
    obtain ⟨lo5, rfl⟩ := hi
    replace h1 : qL t7c0 out3 t8 = some out1 := h1
    unfold qL at h1
    obtain ⟨E1, hE, hO⟩ := oE hg
    refine oG (tM (hO.gm 0 _ rfl).2 (by kernel_rfl) (by kernel_rfl) ?_)
    refine eE [(3, (.lp lo1 0 0)), (7, (.fn (.func 70) [] [(.rp (eL aD t7c0))])), (8, (aD t8))] ?_
    refine aS aB 2 ?_
    refine oA 3 (.agg [(.sl true 0 (fun _ => .bad)), (eI 0), (eI 0)]) (aD (aG.mk ([]) 0 0)) (by kernel_rfl) (by kernel_rfl) (by kernel_rfl) (xH (xs := [(.sl true 0 (fun _ => .bad)), (eI 0), (eI 0)]) (ys := [(eL aJ ([])), (eI 0), (eI 0)]) ⟨eU, aQ.refl _, aQ.refl _, trivial⟩) (by kernel_rfl) (by kernel_rfl) hO ?_
    intro lo6 H hO
    refine gM 2 lo6 3 0 (aD (aG.mk ([]) 0 0)) (aD t8) [(aD (aG.mk ([]) 0 0))] [(lo1, 1, [(.msl 1 lo5 0 (List.length out3))]), (lo5, 1, List.map (eI) out3), (lo6, 3, [(aD t8)])] hO rfl (by kernel_rfl) ?_
    intro H hO
    refine cX ?_
    refine dQ [(3, (.lp lo1 0 0)), (4, (.lp lo6 0 0))] ?_
    refine aF (⟨rfl, rfl, (hO.gm 0 _ rfl).2, ?_⟩)
    intro o1 ho1
    replace hO := hO.mZ o1
    refine bW 1 ?_
    refine aS aB 6 ?_
    refine iS 0 lo1 1 0 (.msl 1 lo5 0 (List.length out3)) (.msl 1 lo5 0 (List.length out3)) [(.msl 1 lo5 0 (List.length out3))] hO rfl ?_
    refine bE 2 ?_
    refine iS 2 lo6 3 0 (aD t8) (eI t8.At) [(aD t8)] hO rfl ?_
    refine nK (xs := [(eI t8.At)]) (k := 1) (by kernel_rfl) (by kernel_rfl) ?_
    obtain ⟨c8, h1⟩ := bA h1
    refine sV (e := (eI)) out3 ([t8.At]) 1 lo5 1 8 (eW [(eI t8.At)]) (fun lo7 => [(lo1, 1, [(.msl 1 lo5 0 (List.length out3))]), (lo7, 1, List.map (eI) (out3 ++ ([t8.At]))), (lo6, 3, [(aD t8)])]) (by kernel_rfl) (by kernel_rfl) hO (by kernel_rfl) (by kernel_rfl) c8 (fun _ => by kernel_rfl) ?_
    intro lo7 H hO
    refine gM 0 lo1 1 0 (.msl 1 lo5 0 (List.length out3)) (.msl 1 lo7 0 (List.length (out3 ++ ([t8.At])))) [(.msl 1 lo5 0 (List.length out3))] [(lo1, 1, [(.msl 1 lo7 0 (List.length (out3 ++ ([t8.At]))))]), (lo7, 1, List.map (eI) (out3 ++ ([t8.At]))), (lo6, 3, [(aD t8)])] hO rfl (by kernel_rfl) ?_
    intro H hO
    refine cX ?_
    refine dQ [(3, (.lp lo1 0 0))] ?_
    replace hO := hO.pick (L' := [(lo1, 1, [(.msl 1 lo7 0 (List.length (out3 ++ ([t8.At]))))]), (lo7, 1, List.map (eI) (out3 ++ ([t8.At])))]) [0, 1] (by decide) (by kernel_rfl)
    obtain rfl := oI h1
    exact aF (aV (⟨(cZ hO hE ho1 .dead).1, rfl, _, ⟨lo7, rfl⟩, (cZ hO hE ho1 _).2⟩))
  · intro b lD9 lL H' G' hi hO
    rcases o0 with s | s
    · dsimp only [Sum.elim_inl] at hi
      obtain ⟨lo5, rfl⟩ := hi
      replace h0 : ((gQ s).bind fun x10 => (kA x10).bind fun x13 => some x13) = some r := h0
      obtain ⟨hlL, hO⟩ := lY hO
      refine ⟨_, _, hlL, (by intro e; cases e), ?_⟩
      refine dQ [(3, (.lp lo1 0 0))] ?_
      refine aF (aV (aH (?_)))
      refine aO ?_
      refine aS aB 2 ?_
      refine iS 0 lo1 1 0 (.msl 1 lo5 0 (List.length s)) (.msl 1 lo5 0 (List.length s)) [(.msl 1 lo5 0 (List.length s))] hO rfl ?_
      obtain ⟨x10, hx11, h0⟩ := aW h0
      refine yC [(lo1, 1, [(.msl 1 lo5 0 (List.length s))]), (lo5, 1, List.map (eI) x10)] 1 (sB lo5 s _ hx11) hO ?_
      intro H hO hl12
      simp only [List.length_map] at hl12
      refine cX ?_
      refine dQ [(3, (.lp lo1 0 0))] ?_
      replace hO : aM ⟨H0, [], (lD9, .raw oN) :: []⟩ H [(lo1, 1, [(.msl 1 lo5 0 (List.length x10))]), (lo5, 1, List.map (eI) x10)] := by simpa only [List.length_set, hl12] using hO
      refine aF (aH (?_))
      refine aO ?_
      refine aS aB 3 ?_
      refine iS 0 lo1 1 0 (.msl 1 lo5 0 (List.length x10)) (.msl 1 lo5 0 (List.length x10)) [(.msl 1 lo5 0 (List.length x10))] hO rfl ?_
      obtain ⟨x13, hx14, h0⟩ := aW h0
      refine ZX (L' := fun lo15 => [(lo1, 1, [(.msl 1 lo5 0 (List.length x10))]), (lo15, 1, List.map (eI) x13)]) 1 lo5 1 (List.map (eI) x10) (List.map (eI) x13) 53 [(.msl 1 lo5 0 (List.length x10))] (fun lo15 => (.msl 1 lo15 0 (List.length x13))) (by kernel_rfl) (by kernel_rfl) (DF lo5 x10 _ hx14) hO (by kernel_rfl) (fun _ => by kernel_rfl) ?_
      intro lo15 H hO
      refine aZ ?_
      refine dQ [(2, (.msl 1 lo15 0 (List.length x13)))] ?_
      replace hO := hO.pick (L' := [(lo15, 1, List.map (eI) x13)]) [1] (by decide) (by kernel_rfl)
      refine aF (aH (?_))
      refine bH ?_
      refine dQ [(2, (.msl 1 lo15 0 (List.length x13)))] ?_
      refine sX (en := (eI)) x13 0 0 2 1 lo15 (List.length x13) hO (by kernel_rfl) (by kernel_rfl) (by kernel_rfl) (L' := []) (by kernel_rfl) ?_
      intro H16 hO
      obtain rfl := oI h0
      have hD := (hO.gm 0 _ rfl).2
      replace hO := (hO.mZ .dead).nC
      exact aF (QM1 (.inr rfl) hD (rs := [.tmp 2]) (xs := [(eL (eI) x13)]) (x := (eL (eI) x13)) (by kernel_rfl) (CE (x := (eL (eI) x13)) (by kernel_rfl) mT) (by kernel_rfl) ⟨rfl, hO.out⟩)
    · exact hi.elim

theorem AR (x0 : Int) (r : Bool) (h0 : oM x0 = some r) : dF Try.prog 55 [(eI x0)] (aE r) := by
  intro H0
  refine cY Try.func55 ?_
  have hO := aM.start H0
  unfold oM at h0
  refine aX aB 1 [] [] ?_
  refine bV aB 4 [(2, (aE (!decide (x0 = x0))))] ?_
  refine bH ?_
  obtain rfl := oI h0
  exact aF (Q_r hO)

theorem rT (x0 : (List Int)) (fT : Int) (r : (Int × Bool)) (h0 : fL x0 fT = some r) : dF Try.prog 34 [(eL (eI) x0), (eI fT)] (.tup [(eI r.1), (aE r.2)]) := by
  intro H0
  refine cY Try.func34 ?_
  have hO := aM.start H0
  unfold fL at h0
  refine aX aB 2 [] [] ?_
  refine aX aB 3 [] [(6, (eI (lN x0)))] ?_
  refine aX aB 3 [] [(7, (eI (0 : Int))), (8, (eI (lN x0)))] ?_
  refine eV (fun T H => ∃ n6 : Int, ∃ i7 : Int, Has T [(0, (eL (eI) x0)), (1, (eI fT)), (6, (eI n6)), (7, (eI i7))] ∧ aM ⟨H0, [], []⟩ H [] ∧ jB x0 fT n6 i7 = some r) ?_ ?_
  · clear hO h0
    rintro T H ⟨n6, i7, hT, hO, h0⟩
    refine bF hT ?_
    clear hT
    unfold jB at h0
    refine aO ?_
    refine aS aB 25 ?_
    obtain ⟨c1, h0⟩ := bA h0
    obtain ⟨c2, h0⟩ := bA h0
    refine rO 16 [(((decide (i7 < n6))) = true → 0 ≤ i7 ∧ i7 < (lN x0)), (((!(decide ((gD x0 i7) = fT))) && (decide (i7 < n6))) = true → 0 ≤ i7 ∧ i7 < (lN x0))] ⟨c1, c2, trivial⟩ ?_
    obtain ⟨x3, hx4, h0⟩ := aW h0
    refine mO [(42, false), (35, true)] 55 [(eI (gD x0 i7))] (aE x3) ((!(decide ((gD x0 i7) = fT))) && (decide (i7 < n6))) (by kernel_rfl) (by kernel_rfl) (by kernel_rfl) (fun hb5 => (AR (gD x0 i7) _ (jP hx4 hb5))) hO ?_
    intro H hO
    refine bE 19 ?_
    obtain ⟨x6, hx7, h0⟩ := aW h0
    refine mO [(48, true), (42, false), (35, true)] 55 [(eI fT)] (aE x6) (x3 && ((!(decide ((gD x0 i7) = fT))) && (decide (i7 < n6)))) (by kernel_rfl) (by kernel_rfl) (by kernel_rfl) (fun hb8 => (AR fT _ (jP hx7 hb8))) hO ?_
    intro H hO
    refine aZ ?_
    refine bB [(4, (eI i7)), (5, (aE ((decide (i7 < n6)) && ((decide ((gD x0 i7) = fT)) || (x3 && x6)))))] ?_
    refine bH ?_
    obtain rfl := oI h0
    exact aF (Q_r hO)
  refine bW 0 ?_
  refine eE [(0, (eL (eI) x0)), (1, (eI fT)), (6, (eI (lN x0))), (7, (eI (0 : Int))), (8, (eI (lN x0)))] ?_
  refine eH (fun T H => ∃ n6 : Int, ∃ i7 : Int, ∃ j8 : Int, Has T [(0, (eL (eI) x0)), (1, (eI fT)), (6, (eI n6)), (7, (eI i7)), (8, (eI j8))] ∧ aM ⟨H0, [], []⟩ H [] ∧ kX x0 fT n6 i7 j8 = some r) ?_ ⟨(lN x0), (0 : Int), (lN x0), .eq (by kernel_rfl), hO, h0⟩
  clear hO h0
  rintro T H ⟨n6, i7, j8, hT, hO, h0⟩
  refine bF hT ?_
  clear hT
  unfold kX at h0
  obtain ⟨rr0, hl0, h0⟩ := aW h0
  refine dM (by kernel_rfl) (fun (s : Int × Int) T H => Has T [(0, (eL (eI) x0)), (1, (eI fT)), (6, (eI n6)), (7, (eI s.1)), (8, (eI s.2))] ∧ aM ⟨H0, [], []⟩ H []) hl0 ⟨.eq (by kernel_rfl), hO⟩ ?_
  clear hO
  rintro k0 s out1 T H ⟨hT, hO⟩ h1 ho0
  obtain ⟨i7, j8⟩ := s
  replace h1 : fD x0 fT n6 i7 j8 = some out1 := h1
  try dsimp only at hT
  refine bF hT ?_
  clear hT
  unfold fD at h1
  refine aO ?_
  refine aX aB 3 [] [(15, (aE (decide (i7 < j8))))] ?_
  refine bJ h1 (fun h1 => ?_) (fun h1 => ?_)
  · refine bM ?_
    refine bB [(0, (eL (eI) x0)), (1, (eI fT)), (6, (eI n6)), (7, (eI i7)), (8, (eI j8))] ?_
    refine bW 1 ?_
    refine aO ?_
    refine aS aB 7 ?_
    obtain ⟨c10, h1⟩ := bA h1
    refine qK [0 ≤ (1 : Int)] ⟨c10, trivial⟩ ?_
    refine bO [] [(9, (eI (wR (Int.fdiv (IntKind.u64.wrap (wR (i7 + j8))) (2 ^ (min (Int.toNat (1 : Int)) 64))))))] ?_
    refine aO ?_
    refine aS aB 6 ?_
    obtain ⟨c11, h1⟩ := bA h1
    refine rO 5 [0 ≤ (wR (Int.fdiv (IntKind.u64.wrap (wR (i7 + j8))) (2 ^ (min (Int.toNat (1 : Int)) 64)))) ∧ (wR (Int.fdiv (IntKind.u64.wrap (wR (i7 + j8))) (2 ^ (min (Int.toNat (1 : Int)) 64)))) < (lN x0)] ⟨c11, trivial⟩ ?_
    obtain ⟨x12, hx13, h1⟩ := aW h1
    refine cW (gC (gD x0 (wR (Int.fdiv (IntKind.u64.wrap (wR (i7 + j8))) (2 ^ (min (Int.toNat (1 : Int)) 64))))) fT _ hx13) hO ?_
    intro H hO
    refine cX ?_
    refine bO [] [(27, (aE x12))] ?_
    refine bJ h1 (fun h1 => ?_) (fun h1 => ?_)
    · refine aS aB 3 ?_
      refine aZ ?_
      exact aF (aV (aH (⟨rfl, _, (oI h1).symm, .eq (by kernel_rfl), hO⟩)))
    refine aS aB 2 ?_
    refine aZ ?_
    exact aF (aV (aH (⟨rfl, _, (oI h1).symm, .eq (by kernel_rfl), hO⟩)))
  refine gG 0 ?_
  obtain rfl := oI h1
  obtain rfl : _ = rr0 := ho0
  replace h0 : jB x0 fT n6 i7 = some r := h0
  exact aF (aY (aY (bU (aH (⟨rfl, _, _, .eq (by kernel_rfl), hO, h0⟩)))))

theorem SL (l0 : (List aG)) (n1 : Int) (t2 : Int) (r : (Int × Int)) (h0 : tX l0 n1 t2 = some r) : dF Try.prog 14 [(eL aD l0), (eI n1), (eI t2)] (.tup [(eI r.1), (eI r.2)]) := by
  intro H0
  refine cY Try.func14 ?_
  have hO := aM.start H0
  unfold tX at h0
  refine aX aB 2 [] [] ?_
  refine aO ?_
  refine aO ?_
  refine aS aB 4 ?_
  refine bE 2 ?_
  obtain ⟨x1, hx2, h0⟩ := aW h0
  refine cW (JB l0 n1 _ hx2) hO ?_
  intro H hO
  refine aZ ?_
  refine bO [] [(8, (eI x1))] ?_
  refine aX aB 2 [] [(17, (aE (!decide (x1 = (0 : Int)))))] ?_
  refine bJ h0 (fun h0 => ?_) (fun h0 => ?_)
  · refine bV aB 3 [(6, (eI (0 : Int))), (7, (eI x1))] ?_
    refine bH ?_
    obtain rfl := oI h0
    exact aF (aU (Q_r hO))
  refine bM ?_
  refine bB [(0, (eL aD l0)), (1, (eI n1)), (2, (eI t2))] ?_
  refine aO ?_
  refine bW 0 ?_
  refine aX aB 7 [] [(19, (aE ((decide (t2 < (0 : Int))) || (decide ((1125899906842624 : Int) < t2)))))] ?_
  refine bJ h0 (fun h0 => ?_) (fun h0 => ?_)
  · refine bV aB 2 [(6, (eI (0 : Int))), (7, (eI (13 : Int)))] ?_
    refine bH ?_
    obtain rfl := oI h0
    exact aF (bD (aU (Q_r hO)))
  refine aX aB 3 [19] [(26, (aE (decide (t2 = (1125899906842624 : Int)))))] ?_
  refine bJ h0 (fun h0 => ?_) (fun h0 => ?_)
  · refine bV aB 3 [(6, (eI t2)), (7, (eI (0 : Int)))] ?_
    refine bH ?_
    obtain rfl := oI h0
    exact aF (bD (aU (Q_r hO)))
  refine bM ?_
  refine dQ [(0, (eL aD l0)), (1, (eI n1)), (2, (eI t2))] ?_
  refine aF (aV (aH (?_)))
  refine aO ?_
  refine aS aB 3 ?_
  refine bE 1 ?_
  obtain ⟨x7, hx8, h0⟩ := aW h0
  refine cW (DZ l0 _ hx8) hO ?_
  intro H hO
  refine aZ ?_
  refine bO [0] [(9, (eL (eI) x7))] ?_
  refine aO ?_
  refine aS aB 8 ?_
  refine bE 2 ?_
  obtain ⟨x10, hx11, h0⟩ := aW h0
  refine cW (rT x7 t2 _ hx11) hO ?_
  intro H hO
  refine aZ ?_
  refine bO [] [(10, (eI x10.1))] ?_
  refine aX aB 6 [1] [(12, (eI (if (wR ((wR (x10.1 - n1)) + (1 : Int))) > (0 : Int) then (wR ((wR (x10.1 - n1)) + (1 : Int))) else (0 : Int))))] ?_
  refine aO ?_
  refine aX aB 3 [10] [(45, (aE (decide ((if (wR ((wR (x10.1 - n1)) + (1 : Int))) > (0 : Int) then (wR ((wR (x10.1 - n1)) + (1 : Int))) else (0 : Int)) = x10.1))))] ?_
  refine bJ h0 (fun h0 => ?_) (fun h0 => ?_)
  · refine bV aB 3 [(6, (eI t2)), (7, (eI (0 : Int)))] ?_
    refine bH ?_
    obtain rfl := oI h0
    exact aF (aU (Q_r hO))
  refine bM ?_
  refine bB [(9, (eL (eI) x7)), (12, (eI (if (wR ((wR (x10.1 - n1)) + (1 : Int))) > (0 : Int) then (wR ((wR (x10.1 - n1)) + (1 : Int))) else (0 : Int))))] ?_
  refine aO ?_
  refine aS aB 6 ?_
  obtain ⟨c14, h0⟩ := bA h0
  refine qK [0 ≤ (if (wR ((wR (x10.1 - n1)) + (1 : Int))) > (0 : Int) then (wR ((wR (x10.1 - n1)) + (1 : Int))) else (0 : Int)) ∧ (if (wR ((wR (x10.1 - n1)) + (1 : Int))) > (0 : Int) then (wR ((wR (x10.1 - n1)) + (1 : Int))) else (0 : Int)) < (lN x7)] ⟨c14, trivial⟩ ?_
  refine bB [(6, (eI (gD x7 (if (wR ((wR (x10.1 - n1)) + (1 : Int))) > (0 : Int) then (wR ((wR (x10.1 - n1)) + (1 : Int))) else (0 : Int))))), (7, (eI (0 : Int)))] ?_
  refine bH ?_
  obtain rfl := oI h0
  exact aF (Q_r hO)

theorem zT (w0 : bY) (l1 : (List aG)) (t2 : Int) (r : (Int × Int)) (h0 : nZ w0 l1 t2 = some r) : dF Try.prog 5 [(cO w0), (eL aD l1), (eI t2)] (.tup [(eI r.1), (eI r.2)]) := by
  intro H0
  refine cY Try.func5 ?_
  have hO := aM.start H0
  unfold nZ at h0
  refine aO ?_
  refine aS aB 3 ?_
  refine fQ 3 (cO w0) (by kernel_rfl) (by kernel_rfl) ?_
  refine aZ ?_
  refine bO [0] [(3, (.rp (cO w0)))] ?_
  refine aO ?_
  refine aO ?_
  refine aS aB 5 ?_
  refine bE 3 ?_
  obtain ⟨x1, hx2, h0⟩ := aW h0
  refine cW (EW w0 l1 t2 _ hx2) hO ?_
  intro H hO
  refine aZ ?_
  refine bO [] [(8, (eI x1))] ?_
  refine aX aB 2 [] [(16, (aE (!decide (x1 = (0 : Int)))))] ?_
  refine bJ h0 (fun h0 => ?_) (fun h0 => ?_)
  · refine bV aB 3 [(6, (eI (0 : Int))), (7, (eI x1))] ?_
    refine bH ?_
    obtain rfl := oI h0
    exact aF (aU (Q_r hO))
  refine bM ?_
  refine bB [(1, (eL aD l1)), (2, (eI t2)), (3, (.rp (cO w0)))] ?_
  refine aO ?_
  refine aX aB 2 [] [(19, (eI w0.Kind))] ?_
  refine bW 0 ?_
  refine aX aB 2 [] [(20, (aE (decide (w0.Kind = (2 : Int)))))] ?_
  refine bJ h0 (fun h0 => ?_) (fun h0 => ?_)
  · refine aO ?_
    refine aS aB 11 ?_
    refine bE 5 ?_
    obtain ⟨x6, hx7, h0⟩ := aW h0
    refine cW (aAn w0.Size w0.Hop t2 _ hx7) hO ?_
    intro H hO
    refine aZ ?_
    refine bB [(2, (eI t2)), (9, (eI x6.1)), (10, (eI x6.2))] ?_
    refine bV aB 6 [(6, (eI (if t2 < x6.1 then t2 else x6.1))), (7, (eI x6.2))] ?_
    refine bH ?_
    obtain rfl := oI h0
    exact aF (bD (aU (Q_r hO)))
  refine aX aB 2 [19, 20] [(35, (aE (decide (w0.Kind = (3 : Int)))))] ?_
  refine bJ h0 (fun h0 => ?_) (fun h0 => ?_)
  · refine aO ?_
    refine aS aB 9 ?_
    refine bE 4 ?_
    obtain ⟨x10, hx11, h0⟩ := aW h0
    refine cW (SL l1 w0.Size t2 _ hx11) hO ?_
    intro H hO
    refine aZ ?_
    refine bB [(6, (eI x10.1)), (7, (eI x10.2))] ?_
    refine bH ?_
    obtain rfl := oI h0
    exact aF (bD (aU (Q_r hO)))
  refine bM ?_
  refine dQ [(2, (eI t2))] ?_
  refine aF (aV (aH (?_)))
  refine bV aB 3 [(6, (eI t2)), (7, (eI (0 : Int)))] ?_
  refine bH ?_
  obtain rfl := oI h0
  exact aF (Q_r hO)

theorem aAA (lo0p : Nat) (l0 : (List aG)) (r1 : (List aI)) (f2 : (List aC)) (r : (List aG)) (h0 : zI l0 r1 f2 = some r) : aAo Try.prog 57 lo0p 3 (List.map aD l0) [(.msl 3 lo0p 0 (List.length l0)), (eL aJ r1), (eL aK f2)] (fun lo => .msl 3 lo 0 (List.length r)) (List.map aD r) := by
  intro H0 hl0
  refine cY Try.func57 ?_
  have hO := aM.sH hl0
  clear hl0
  unfold zI at h0
  refine aX aB 1 [] [] ?_
  refine eV (fun T H => ∃ l0 : List aG, ∃ lo1 : Nat, Has T [(0, (.msl 3 lo1 0 (List.length l0)))] ∧ aM ⟨H0, [lo0p], []⟩ H [(lo1, 3, List.map aD l0)] ∧ AL l0 = some r) ?_ ?_
  · clear hO h0
    rintro T H ⟨l0, lo1, hT, hO, h0⟩
    refine bF hT ?_
    clear hT
    unfold AL at h0
    refine bV aB 2 [(6, (.msl 3 lo1 0 (List.length l0)))] ?_
    refine bH ?_
    obtain rfl := oI h0
    exact aF (jV (x := (.msl 3 lo1 0 (List.length l0))) (by kernel_rfl) (aQ.refl _) ⟨lo1, rfl, hO⟩)
  refine aX aB 3 [2] [(9, (eL aK f2)), (10, (eI (lN f2))), (11, (eI (0 : Int)))] ?_
  refine bW 0 ?_
  refine eE [(0, (.msl 3 lo0p 0 (List.length l0))), (1, (eL aJ r1)), (9, (eL aK f2)), (10, (eI (lN f2))), (11, (eI (0 : Int)))] ?_
  refine eH (fun T H => ∃ l0 : List aG, ∃ t9 : (List aC), ∃ t10 : Int, ∃ t11 : Int, ∃ lo3 : Nat, Has T [(0, (.msl 3 lo3 0 (List.length l0))), (1, (eL aJ r1)), (9, (eL aK t9)), (10, (eI t10)), (11, (eI t11))] ∧ aM ⟨H0, [lo0p], []⟩ H [(lo3, 3, List.map aD l0)] ∧ AM l0 r1 t9 t10 t11 = some r) ?_ ⟨l0, f2, (lN f2), (0 : Int), lo0p, .eq (by kernel_rfl), hO, h0⟩
  clear hO h0
  rintro T H ⟨l0, t9, t10, t11, lo3, hT, hO, h0⟩
  refine bF hT ?_
  clear hT
  unfold AM at h0
  obtain ⟨rr0, hl0, h0⟩ := aW h0
  refine dM (by kernel_rfl) (fun (s : List aG × Int) T H => ∃ lo3 : Nat, Has T [(0, (.msl 3 lo3 0 (List.length s.1))), (1, (eL aJ r1)), (9, (eL aK t9)), (10, (eI t10)), (11, (eI s.2))] ∧ aM ⟨H0, [lo0p], []⟩ H [(lo3, 3, List.map aD s.1)]) hl0 ⟨lo3, .eq (by kernel_rfl), hO⟩ ?_
  clear hO
  rintro k0 s out1 T H ⟨lo3, hT, hO⟩ h1 ho0
  obtain ⟨l0, t11⟩ := s
  replace h1 : pR r1 t9 t10 l0 t11 = some out1 := h1
  try dsimp only at hT
  refine bF hT ?_
  clear hT
  unfold pR at h1
  refine aX aB 1 [] [(12, (aE (decide (t11 < t10))))] ?_
  refine aO ?_
  refine bJ h1 (fun h1 => ?_) (fun h1 => ?_)
  · refine bM ?_
    refine bB [(0, (.msl 3 lo3 0 (List.length l0))), (1, (eL aJ r1)), (9, (eL aK t9)), (10, (eI t10)), (11, (eI t11))] ?_
    refine aO ?_
    refine bW 1 ?_
    refine aO ?_
    refine aS aB 4 ?_
    obtain ⟨c5, h1⟩ := bA h1
    refine rO 2 [0 ≤ t11 ∧ t11 < (lN t9)] ⟨c5, trivial⟩ ?_
    refine kK 2 (aK (aC.mk 0 0)) (by kernel_rfl) (by kernel_rfl) hO ?_
    intro lo6 H hO
    refine gM 1 lo6 2 0 (aK (aC.mk 0 0)) (aK (gD t9 t11)) [(aK (aC.mk 0 0))] [(lo3, 3, List.map aD l0), (lo6, 2, [(aK (gD t9 t11))])] hO rfl (by kernel_rfl) ?_
    intro H hO
    refine cX ?_
    refine bO [] [(8, (.lp lo6 0 0))] ?_
    refine eE [(0, (.msl 3 lo3 0 (List.length l0))), (1, (eL aJ r1)), (8, (.lp lo6 0 0)), (9, (eL aK t9)), (10, (eI t10)), (11, (eI t11))] ?_
    refine IF 2 1 8 2 lo6 (aK (gD t9 t11)) [(lo3, 3, List.map aD l0)] hO (by kernel_rfl) (by kernel_rfl) (by kernel_rfl) ?_
    intro H hO
    refine fX (fZ [19, 21, 23]) aB 11 ?_
    refine kE 2 ?_
    obtain ⟨x7, hx8, h1⟩ := aW h1
    refine zW (GY r1 _ hx8) hO ?_
    intro H hO
    refine kE 8 ?_
    refine TK (xs := [(aD (aG.mk x7 ((gD t9 t11).At) ((gD t9 t11).Net)))]) (k := 3) (by kernel_rfl) (by kernel_rfl) ?_
    obtain ⟨c11, h1⟩ := bA h1
    refine JT (e := aD) l0 ([aG.mk x7 ((gD t9 t11).At) ((gD t9 t11).Net)]) 0 lo3 3 40 (eW [(aD (aG.mk x7 ((gD t9 t11).At) ((gD t9 t11).Net)))]) (fun lo10 => [(lo10, 3, List.map aD (l0 ++ ([aG.mk x7 ((gD t9 t11).At) ((gD t9 t11).Net)])))]) (by kernel_rfl) (by kernel_rfl) hO (by kernel_rfl) (by kernel_rfl) c11 (fun _ => by kernel_rfl) ?_
    intro lo10 H hO
    refine kJ ?_
    refine dQ [(0, (.msl 3 lo10 0 (List.length (l0 ++ ([aG.mk x7 ((gD t9 t11).At) ((gD t9 t11).Net)]))))), (1, (eL aJ r1)), (9, (eL aK t9)), (10, (eI t10)), (11, (eI t11))] ?_
    refine aF (aV (aH (?_)))
    refine aS aB 2 ?_
    refine aZ ?_
    exact aF (aH (⟨rfl, _, (oI h1).symm, _, .eq (by kernel_rfl), hO⟩))
  refine gG 0 ?_
  obtain rfl := oI h1
  obtain rfl : _ = rr0 := ho0
  replace h0 : AL l0 = some r := h0
  exact aF (aY (aY (bU (aH (⟨rfl, _, _, .eq (by kernel_rfl), hO, h0⟩)))))

theorem SX (l0 : (List aG)) (by1_f : Nat) (by1_a by1_c : List V) (by1 : (List aC) → Option ((List aC) × Int)) (by1_h : ∀ a0 r, by1 a0 = some r → dF Try.prog by1_f (by1_a ++ [(eL aK a0)] ++ by1_c) (.tup [(eL aK r.1), (eI r.2)])) (r : ((List aG) × Int)) (h0 : tY l0 by1 = some r) : dF Try.prog 35 [(eL aD l0), (.fn (.func by1_f) by1_a by1_c)] (.tup [(eL aD r.1), (eI r.2)]) := by
  intro H0
  refine yM aB Try.func35 (by kernel_rfl) (by kernel_rfl) (by kernel_rfl) ?_
  have hO := aM.start H0
  unfold tY at h0
  refine aO ?_
  refine aS aB 3 ?_
  refine fQ 1 (.fn (.func by1_f) by1_a by1_c) (by kernel_rfl) (by kernel_rfl) ?_
  refine oA 1 (.sl true 0 (fun _ => .bad)) (eL aD ([])) (by kernel_rfl) (by kernel_rfl) (by kernel_rfl) (eU) (by kernel_rfl) (by kernel_rfl) hO ?_
  intro lo1 H hO
  refine kK 1 (eI 0) (by kernel_rfl) (by kernel_rfl) hO ?_
  intro lo2 H hO
  refine cX ?_
  refine bO [1] [(3, (.rp (.fn (.func by1_f) by1_a by1_c))), (4, (.lp lo1 0 0)), (5, (.lp lo2 0 0))] ?_
  refine aO ?_
  refine aS aB 3 ?_
  refine nK (xs := []) (k := 3) (by kernel_rfl) (by kernel_rfl) ?_
  refine oA 1 (.sl true 0 (fun _ => .bad)) (eL aD ([])) (by kernel_rfl) (by kernel_rfl) (by kernel_rfl) (eU) (by kernel_rfl) (by kernel_rfl) hO ?_
  intro lo3 H hO
  refine VW 11 3 (fun _ => .bad) (by kernel_rfl) hO (by kernel_rfl) ?_
  intro lo4 H hO
  refine gM 2 lo3 1 0 (eL aD ([])) (.msl 3 lo4 0 (List.length ([] : List aG))) [(eL aD ([]))] [(lo1, 1, [(eL aD ([]))]), (lo2, 1, [(eI 0)]), (lo3, 1, [(.msl 3 lo4 0 (List.length ([] : List aG)))]), (lo4, 3, List.map aD ([] : List aG))] hO rfl (by kernel_rfl) ?_
  intro H hO
  refine cX ?_
  refine bO [] [(6, (.lp lo3 0 0))] ?_
  refine aO ?_
  refine aO ?_
  refine aS aB 2 ?_
  refine bE 1 ?_
  obtain ⟨x5, hx6, h0⟩ := aW h0
  refine cW (EJ l0 _ hx6) hO ?_
  intro H hO
  refine cX ?_
  refine bO [0] [(13, (.fn (.func 72) [] [(.rp (eL aD x5))]))] ?_
  refine bW 0 ?_
  refine eE [(3, (.rp (.fn (.func by1_f) by1_a by1_c))), (4, (.lp lo1 0 0)), (5, (.lp lo2 0 0)), (6, (.lp lo3 0 0)), (13, (.fn (.func 72) [] [(.rp (eL aD x5))]))] ?_
  refine eH (fun T H => ∃ t4 : (List aG), ∃ t5 : Int, ∃ out6 : List aG, ∃ lV : (List aG), ∃ lo7 : Nat, Has T [(3, (.rp (.fn (.func by1_f) by1_a by1_c))), (4, (.lp lo1 0 0)), (5, (.lp lo2 0 0)), (6, (.lp lo3 0 0)), (13, (.fn (.func 72) [] [(.rp (eL aD lV))]))] ∧ aM ⟨H0, [], []⟩ H [(lo1, 1, [(eL aD t4)]), (lo2, 1, [(eI t5)]), (lo3, 1, [(.msl 3 lo7 0 (List.length out6))]), (lo7, 3, List.map aD out6)] ∧ wH by1 t4 t5 out6 lV = some r) ?_ ⟨[], 0, ([] : List aG), x5, lo4, .eq (by kernel_rfl), hO, h0⟩
  clear hO h0
  rintro T H ⟨t4, t5, out6, lV, lo7, hT, hO, h0⟩
  refine bF (l := [(3, (.rp (.fn (.func by1_f) by1_a by1_c))), (4, (.lp lo1 0 0)), (5, (.lp lo2 0 0)), (6, (.lp lo3 0 0)), (13, (.fn (.func 72) [] [(.rp (eL aD lV))]))]) hT ?_
  clear hT
  unfold wH at h0
  obtain ⟨o0, hl0, h0⟩ := aW h0
  refine vS (fid := 72) (ys := []) (cs := [(.rp (eL aD lV))]) #[14, 15] (fun (A : rN) (b lL : Nat) (st : ((List aG) × Int × List aG) ⊕ ((List aG) × Int × List aG)) (G' : Gs) => Sum.elim (fun (s : (List aG) × Int × List aG) => ∃ lo7 : Nat, G' = (lL, .raw (gL b A .ready none)) :: (up [(lo1, 1, [(eL aD s.1)]), (lo2, 1, [(eI s.2.1)]), (lo3, 1, [(.msl 3 lo7 0 (List.length s.2.2))]), (lo7, 3, List.map aD s.2.2)] ++ [])) (fun (s : (List aG) × Int × List aG) => ∃ lo7 : Nat, G' = (lL, .raw (gL b A .done (some .ret))) :: (up [(lo1, 1, [(eL aD s.1)]), (lo2, 1, [(eI s.2.1)]), (lo3, 1, [(.msl 3 lo7 0 (List.length s.2.2))]), (lo7, 3, List.map aD s.2.2)] ++ [])) st) (.inl (t4, t5, out6)) o0 (.tup []) (by kernel_rfl) (by kernel_rfl) (by kernel_rfl) hO (fun _ _ => ⟨lo7, rfl⟩) ?_ ?_
  · intro b lL
    clear hO h0
    refine zB _ b (fun st t14 t15 => rnd (fun (s : (List aG) × Int × List aG) => oC by1 lV s.1 s.2.1 s.2.2 t14 t15) st) ?_ lV _ _ hl0
    intro st t14 t15 out1 rr hr
    obtain ⟨s, rfl, h1, rfl⟩ := FN hr
    clear hr
    intro Hr Gr hi hg
    obtain ⟨t4, t5, out6⟩ := s
    dsimp only [Sum.elim_inl] at hi
    obtain ⟨lo7, rfl⟩ := hi
    replace h1 : oC by1 lV t4 t5 out6 t14 t15 = some out1 := h1
    unfold oC at h1
    obtain ⟨E1, hE, hO⟩ := oE hg
    refine oG (tM (hO.gm 0 _ rfl).2 (by kernel_rfl) (by kernel_rfl) ?_)
    refine eE [(3, (.rp (.fn (.func by1_f) by1_a by1_c))), (4, (.lp lo1 0 0)), (5, (.lp lo2 0 0)), (6, (.lp lo3 0 0)), (13, (.fn (.func 72) [] [(.rp (eL aD lV))])), (14, (eL aJ t14)), (15, (eL aK t15))] ?_
    refine aX aB 1 [13, 14] [(7, (eL aJ t14))] ?_
    refine aS aB 1 ?_
    refine aZ ?_
    refine dQ [(3, (.rp (.fn (.func by1_f) by1_a by1_c))), (4, (.lp lo1 0 0)), (5, (.lp lo2 0 0)), (6, (.lp lo3 0 0)), (7, (eL aJ t14)), (8, (eL aK t15))] ?_
    refine aF (⟨rfl, rfl, (hO.gm 0 _ rfl).2, ?_⟩)
    intro o1 ho1
    replace hO := hO.mZ o1
    refine bW 1 ?_
    refine aO ?_
    refine aS aB 8 ?_
    refine bE 2 ?_
    obtain ⟨x8, hx9, h1⟩ := aW h1
    refine cW (by1_h t15 _ hx9) hO ?_
    intro H hO
    refine aZ ?_
    refine bO [3, 8] [(9, (eL aK x8.1)), (10, (eI x8.2))] ?_
    refine aO ?_
    refine aX aB 2 [] [(23, (aE (!decide (x8.2 = (0 : Int)))))] ?_
    refine bJ h1 (fun h1 => ?_) (fun h1 => ?_)
    · refine aO ?_
      refine aS aB 3 ?_
      refine bE 1 ?_
      refine gM 0 lo1 1 0 (eL aD t4) (.sl true 0 (fun _ => .bad)) [(eL aD t4)] [(lo1, 1, [(.sl true 0 (fun _ => .bad))]), (lo2, 1, [(eI t5)]), (lo3, 1, [(.msl 3 lo7 0 (List.length out6))]), (lo7, 3, List.map aD out6)] hO rfl (by kernel_rfl) ?_
      intro H hO
      refine gM 1 lo2 1 0 (eI t5) (eI x8.2) [(eI t5)] [(lo1, 1, [(.sl true 0 (fun _ => .bad))]), (lo2, 1, [(eI x8.2)]), (lo3, 1, [(.msl 3 lo7 0 (List.length out6))]), (lo7, 3, List.map aD out6)] hO rfl (by kernel_rfl) ?_
      intro H hO
      refine cX ?_
      refine AE 0 lo1 1 (.sl true 0 (fun _ => .bad)) (eL aD ([])) [(lo1, 1, [(eL aD ([]))]), (lo2, 1, [(eI x8.2)]), (lo3, 1, [(.msl 3 lo7 0 (List.length out6))]), (lo7, 3, List.map aD out6)] hO (by kernel_rfl) (by kernel_rfl) eU (by kernel_rfl) ?_
      intro H hO
      refine bB [(4, (.lp lo1 0 0)), (5, (.lp lo2 0 0)), (6, (.lp lo3 0 0))] ?_
      refine bH ?_
      refine dQ [(4, (.lp lo1 0 0)), (5, (.lp lo2 0 0)), (6, (.lp lo3 0 0))] ?_
      obtain rfl := oI h1
      exact aF (aU (bD (⟨(cZ hO hE ho1 .dead).1, rfl, _, ⟨lo7, rfl⟩, (cZ hO hE ho1 _).2⟩)))
    refine bM ?_
    refine bB [(4, (.lp lo1 0 0)), (5, (.lp lo2 0 0)), (6, (.lp lo3 0 0)), (7, (eL aJ t14)), (9, (eL aK x8.1))] ?_
    refine aO ?_
    refine aS aB 5 ?_
    refine iS 2 lo3 1 0 (.msl 3 lo7 0 (List.length out6)) (.msl 3 lo7 0 (List.length out6)) [(.msl 3 lo7 0 (List.length out6))] hO rfl ?_
    refine bE 3 ?_
    obtain ⟨x12, hx13, h1⟩ := aW h1
    refine ZX (L' := fun lo14 => [(lo1, 1, [(eL aD t4)]), (lo2, 1, [(eI t5)]), (lo3, 1, [(.msl 3 lo7 0 (List.length out6))]), (lo14, 3, List.map aD x12)]) 3 lo7 3 (List.map aD out6) (List.map aD x12) 57 [(.msl 3 lo7 0 (List.length out6)), (eL aJ t14), (eL aK x8.1)] (fun lo14 => (.msl 3 lo14 0 (List.length x12))) (by kernel_rfl) (by kernel_rfl) (aAA lo7 out6 t14 x8.1 _ hx13) hO (by kernel_rfl) (fun _ => by kernel_rfl) ?_
    intro lo14 H hO
    refine gM 2 lo3 1 0 (.msl 3 lo7 0 (List.length out6)) (.msl 3 lo14 0 (List.length x12)) [(.msl 3 lo7 0 (List.length out6))] [(lo1, 1, [(eL aD t4)]), (lo2, 1, [(eI t5)]), (lo3, 1, [(.msl 3 lo14 0 (List.length x12))]), (lo14, 3, List.map aD x12)] hO rfl (by kernel_rfl) ?_
    intro H hO
    refine cX ?_
    refine bO [7, 9] [] ?_
    refine aO ?_
    refine aS aB 3 ?_
    refine iS 2 lo3 1 0 (.msl 3 lo14 0 (List.length x12)) (.msl 3 lo14 0 (List.length x12)) [(.msl 3 lo14 0 (List.length x12))] hO rfl ?_
    refine aZ ?_
    refine bO [] [(31, (aE (decide ((4096 : Int) < (lN x12)))))] ?_
    refine bJ h1 (fun h1 => ?_) (fun h1 => ?_)
    · refine aO ?_
      refine aS aB 2 ?_
      refine gM 0 lo1 1 0 (eL aD t4) (.sl true 0 (fun _ => .bad)) [(eL aD t4)] [(lo1, 1, [(.sl true 0 (fun _ => .bad))]), (lo2, 1, [(eI t5)]), (lo3, 1, [(.msl 3 lo14 0 (List.length x12))]), (lo14, 3, List.map aD x12)] hO rfl (by kernel_rfl) ?_
      intro H hO
      refine gM 1 lo2 1 0 (eI t5) (eI (7 : Int)) [(eI t5)] [(lo1, 1, [(.sl true 0 (fun _ => .bad))]), (lo2, 1, [(eI (7 : Int))]), (lo3, 1, [(.msl 3 lo14 0 (List.length x12))]), (lo14, 3, List.map aD x12)] hO rfl (by kernel_rfl) ?_
      intro H hO
      refine cX ?_
      refine AE 0 lo1 1 (.sl true 0 (fun _ => .bad)) (eL aD ([])) [(lo1, 1, [(eL aD ([]))]), (lo2, 1, [(eI (7 : Int))]), (lo3, 1, [(.msl 3 lo14 0 (List.length x12))]), (lo14, 3, List.map aD x12)] hO (by kernel_rfl) (by kernel_rfl) eU (by kernel_rfl) ?_
      intro H hO
      refine bB [(4, (.lp lo1 0 0)), (5, (.lp lo2 0 0)), (6, (.lp lo3 0 0))] ?_
      refine bH ?_
      refine dQ [(4, (.lp lo1 0 0)), (5, (.lp lo2 0 0)), (6, (.lp lo3 0 0))] ?_
      obtain rfl := oI h1
      exact aF (bD (⟨(cZ hO hE ho1 .dead).1, rfl, _, ⟨lo14, rfl⟩, (cZ hO hE ho1 _).2⟩))
    refine bM ?_
    refine dQ [(4, (.lp lo1 0 0)), (5, (.lp lo2 0 0)), (6, (.lp lo3 0 0))] ?_
    obtain rfl := oI h1
    exact aF (aV (⟨(cZ hO hE ho1 .dead).1, rfl, _, ⟨lo14, rfl⟩, (cZ hO hE ho1 _).2⟩))
  · intro b lD16 lL H' G' hi hO
    rcases o0 with s | s
    · dsimp only [Sum.elim_inl] at hi
      obtain ⟨lo7, rfl⟩ := hi
      replace h0 : (some (s.2.2, (0 : Int))) = some r := h0
      obtain ⟨hlL, hO⟩ := lY hO
      refine ⟨_, _, hlL, (by intro e; cases e), ?_⟩
      refine dQ [(4, (.lp lo1 0 0)), (5, (.lp lo2 0 0)), (6, (.lp lo3 0 0))] ?_
      refine aF (aV (aH (?_)))
      refine aO ?_
      refine OH (e := aD) s.2.2 2 3 1 3 lo3 lo7 (List.length s.2.2) [(lo1, 1, [(eL aD s.1)]), (lo2, 1, [(eI s.2.1)]), (lo3, 1, [(eL aD s.2.2)])] hO (by kernel_rfl) (by kernel_rfl) (by kernel_rfl) (.inr (by decide)) (by kernel_rfl) ?_
      intro H hO
      refine aS aB 3 ?_
      refine iS 2 lo3 1 0 (eL aD s.2.2) (eL aD s.2.2) [(eL aD s.2.2)] hO rfl ?_
      refine gM 0 lo1 1 0 (eL aD s.1) (eL aD s.2.2) [(eL aD s.1)] [(lo1, 1, [(eL aD s.2.2)]), (lo2, 1, [(eI s.2.1)]), (lo3, 1, [(eL aD s.2.2)])] hO rfl (by kernel_rfl) ?_
      intro H hO
      refine gM 1 lo2 1 0 (eI s.2.1) (eI (0 : Int)) [(eI s.2.1)] [(lo1, 1, [(eL aD s.2.2)]), (lo2, 1, [(eI (0 : Int))]), (lo3, 1, [(eL aD s.2.2)])] hO rfl (by kernel_rfl) ?_
      intro H hO
      refine cX ?_
      replace hO := hO.pick (L' := [(lo1, 1, [(eL aD s.2.2)]), (lo2, 1, [(eI (0 : Int))])]) [0, 1] (by decide) (by kernel_rfl)
      refine bO [6] [] ?_
      refine bH ?_
      obtain rfl := oI h0
      have hD := (hO.gm 0 _ rfl).2
      replace hO := (hO.mZ .dead).nC
      exact aF (QM1 (.inr rfl) hD (rs := [.cell 4 25, .cell 5 26]) (xs := [(eL aD s.2.2), (eI (0 : Int))]) (x := (.tup [(eL aD s.2.2), (eI (0 : Int))])) (by kernel_rfl) (lH (lo := lo1) (k := 1) (y := (eL aD s.2.2)) (x := (eL aD s.2.2)) 0 hO (by kernel_rfl) (by kernel_rfl) (by kernel_rfl) (by kernel_rfl) (lH (lo := lo2) (k := 1) (y := (eI (0 : Int))) (x := (eI (0 : Int))) 1 hO (by kernel_rfl) (by kernel_rfl) (by kernel_rfl) (by kernel_rfl) mT)) (by kernel_rfl) ⟨rfl, hO.out⟩)
    · dsimp only [Sum.elim_inr] at hi
      obtain ⟨lo7, rfl⟩ := hi
      replace h0 : (some (s.1, s.2.1)) = some r := h0
      obtain ⟨hlL, hO⟩ := lY hO
      refine ⟨_, _, hlL, (by intro e; cases e), ?_⟩
      refine bH ?_
      replace hO := hO.pick (L' := [(lo1, 1, [(eL aD s.1)]), (lo2, 1, [(eI s.2.1)])]) [0, 1] (by decide) (by kernel_rfl)
      obtain rfl := oI h0
      have hD := (hO.gm 0 _ rfl).2
      replace hO := (hO.mZ .dead).nC
      exact aF (bD (aU (QM1 (.inr rfl) hD (rs := [.cell 4 25, .cell 5 26]) (xs := [(eL aD s.1), (eI s.2.1)]) (x := (.tup [(eL aD s.1), (eI s.2.1)])) (by kernel_rfl) (lH (lo := lo1) (k := 1) (y := (eL aD s.1)) (x := (eL aD s.1)) 0 hO (by kernel_rfl) (by kernel_rfl) (by kernel_rfl) (by kernel_rfl) (lH (lo := lo2) (k := 1) (y := (eI s.2.1)) (x := (eI s.2.1)) 1 hO (by kernel_rfl) (by kernel_rfl) (by kernel_rfl) (by kernel_rfl) mT)) (by kernel_rfl) ⟨rfl, hO.out⟩)))

theorem aA0 (l0 : (List aG)) (by1_f : Nat) (by1_a by1_c : List V) (by1 : (List aC) → Option ((List aC) × Int)) (by1_h : ∀ a0 r, by1 a0 = some r → dF Try.prog by1_f (by1_a ++ [(eL aK a0)] ++ by1_c) (.tup [(eL aK r.1), (eI r.2)])) (r : ((List aG) × Int)) (h0 : zN l0 by1 = some r) : dF Try.prog 15 [(eL aD l0), (.fn (.func by1_f) by1_a by1_c)] (.tup [(eL aD r.1), (eI r.2)]) := by
  intro H0
  refine cY Try.func15 ?_
  have hO := aM.start H0
  unfold zN at h0
  refine aX aB 2 [] [] ?_
  refine aO ?_
  refine aO ?_
  refine aS aB 3 ?_
  refine bE 1 ?_
  obtain ⟨x1, hx2, h0⟩ := aW h0
  refine cW (wN l0 _ hx2) hO ?_
  intro H hO
  refine aZ ?_
  refine bO [] [(8, (aE (!x1)))] ?_
  refine bJ h0 (fun h0 => ?_) (fun h0 => ?_)
  · refine bV aB 2 [(4, (.sl true 0 (fun _ => .bad))), (5, (eI (2 : Int)))] ?_
    refine bH ?_
    refine dH (l := [(4, (eL aD ([]))), (5, (eI (2 : Int)))]) ⟨[(4, (.sl true 0 (fun _ => .bad))), (5, (eI (2 : Int)))], by kernel_rfl, rfl, ⟨eU, aQ.refl _, trivial⟩⟩ ?_
    obtain rfl := oI h0
    exact aF (aU (Q_r hO))
  refine bM ?_
  refine bB [(0, (eL aD l0)), (1, (.fn (.func by1_f) by1_a by1_c))] ?_
  refine aO ?_
  refine aS aB 7 ?_
  refine bE 2 ?_
  obtain ⟨x5, hx6, h0⟩ := aW h0
  refine cW (SX l0 by1_f by1_a by1_c by1 by1_h _ hx6) hO ?_
  intro H hO
  refine aZ ?_
  refine bB [(4, (eL aD x5.1)), (5, (eI x5.2))] ?_
  refine bH ?_
  obtain rfl := oI h0
  exact aF (Q_r hO)

theorem yA (s0 : (List aC)) (r : (List aC)) (h0 : iO s0 = some r) : DV Try.prog 37 [(eL aK s0)] (fun lo => (.msl 2 lo 0 (List.length r))) 2 (List.map aK r) := by
  intro H0
  refine cY Try.func37 ?_
  have hO := aM.start H0
  unfold iO at h0
  refine aX aB 1 [] [] ?_
  refine aO ?_
  refine aO ?_
  refine aS aB 2 ?_
  refine bE 1 ?_
  refine aDW false (List.length s0) (fun i => aK (List.getD s0 i default)) (by kernel_rfl) (by kernel_rfl) ?_
  intro b1 hn2
  refine cX ?_
  refine bO [] [(4, (aE b1))] ?_
  refine mJ (b1) (fun hc3 => ?_) (fun hc3 => ?_)
  · replace h0 : some ([] : List aC) = some r := by
      have hl := List.eq_nil_of_length_eq_zero (hn2 hc3)
      rw [hl] at h0
      exact (bA h0).2
    refine bV aB 1 [(2, (.sl true 0 (fun _ => .bad)))] ?_
    refine bH ?_
    refine dQ [(2, (.sl true 0 (fun _ => .bad)))] ?_
    refine aB8 (el := (fun _ => .bad)) 0 2 2 hO (by kernel_rfl) ?_
    intro lo4 H5 hO
    obtain rfl := oI h0
    exact aF (aU (jV (x := (.msl 2 lo4 0 (List.length ([] : List aC)))) (by kernel_rfl) (aQ.refl _) ⟨lo4, rfl, hO⟩))
  · refine bM ?_
    refine bB [(0, (eL aK s0))] ?_
    refine aO ?_
    refine aS aB 4 ?_
    refine nK (xs := []) (k := 2) (by kernel_rfl) (by kernel_rfl) ?_
    refine bE 2 ?_
    obtain ⟨c7, h0⟩ := bA h0
    refine ZT (e := aK) s0 (fun _ => .bad) 2 16 (eL aK s0) (fun lo6 => [(lo6, 2, List.map aK s0)]) (by kernel_rfl) (by kernel_rfl) hO (PM (fun _ => by kernel_rfl)) c7 (fun _ => by kernel_rfl) ?_
    intro lo6 H hO
    refine aZ ?_
    refine bB [(2, (.msl 2 lo6 0 (List.length s0)))] ?_
    refine bH ?_
    obtain rfl := oI h0
    exact aF (jV (x := (.msl 2 lo6 0 (List.length s0))) (by kernel_rfl) (aQ.refl _) ⟨lo6, rfl, hO⟩)

theorem YM (f0 : (List aC)) (r : ((List aC) × Int)) (h0 : uQ f0 = some r) : dF Try.prog 38 [(eL aK f0)] (.tup [(eL aK r.1), (eI r.2)]) := by
  intro H0
  refine cY Try.func38 ?_
  have hO := aM.start H0
  unfold uQ at h0
  refine aX aB 2 [] [] ?_
  refine aO ?_
  refine aO ?_
  refine aS aB 3 ?_
  refine bE 1 ?_
  obtain ⟨x1, hx2, h0⟩ := aW h0
  refine cW (wI f0 _ hx2) hO ?_
  intro H hO
  refine aZ ?_
  refine bO [] [(6, (aE (!x1)))] ?_
  refine bJ h0 (fun h0 => ?_) (fun h0 => ?_)
  · refine bV aB 2 [(2, (.sl true 0 (fun _ => .bad))), (3, (eI (7 : Int)))] ?_
    refine bH ?_
    refine dH (l := [(2, (eL aK ([]))), (3, (eI (7 : Int)))]) ⟨[(2, (.sl true 0 (fun _ => .bad))), (3, (eI (7 : Int)))], by kernel_rfl, rfl, ⟨eU, aQ.refl _, trivial⟩⟩ ?_
    obtain rfl := oI h0
    exact aF (aU (Q_r hO))
  refine bM ?_
  refine bB [(0, (eL aK f0))] ?_
  refine bV aB 3 [(2, (eL aK f0)), (3, (eI (0 : Int)))] ?_
  refine bH ?_
  obtain rfl := oI h0
  exact aF (Q_r hO)

theorem QC (l0 : (List aG)) (t1 : Int) (r : Int) (h0 : sK l0 t1 = some r) : dF Try.prog 20 [(eL aD l0), (eI t1)] (eI r) := by
  intro H0
  refine cY Try.func20 ?_
  have hO := aM.start H0
  unfold sK at h0
  refine aX aB 1 [] [] ?_
  refine eV (fun T H => ∃ t1 : Int, Has T [(1, (eI t1))] ∧ aM ⟨H0, [], []⟩ H [] ∧ uU t1 = some r) ?_ ?_
  · clear hO h0
    rintro T H ⟨t1, hT, hO, h0⟩
    refine bF hT ?_
    clear hT
    unfold uU at h0
    refine bV aB 2 [(4, (eI t1))] ?_
    refine bH ?_
    obtain rfl := oI h0
    exact aF (Q_r hO)
  refine aX aB 3 [0] [(7, (eL aD l0)), (8, (eI (lN l0))), (9, (eI (0 : Int)))] ?_
  refine bW 0 ?_
  refine eE [(1, (eI t1)), (7, (eL aD l0)), (8, (eI (lN l0))), (9, (eI (0 : Int)))] ?_
  refine eH (fun T H => ∃ t1 : Int, ∃ t7 : (List aG), ∃ t8 : Int, ∃ t9 : Int, Has T [(1, (eI t1)), (7, (eL aD t7)), (8, (eI t8)), (9, (eI t9))] ∧ aM ⟨H0, [], []⟩ H [] ∧ uV t1 t7 t8 t9 = some r) ?_ ⟨t1, l0, (lN l0), (0 : Int), .eq (by kernel_rfl), hO, h0⟩
  clear hO h0
  rintro T H ⟨t1, t7, t8, t9, hT, hO, h0⟩
  refine bF hT ?_
  clear hT
  unfold uV at h0
  obtain ⟨rr0, hl0, h0⟩ := aW h0
  refine dM (by kernel_rfl) (fun (s : Int × Int) T H => Has T [(1, (eI s.1)), (7, (eL aD t7)), (8, (eI t8)), (9, (eI s.2))] ∧ aM ⟨H0, [], []⟩ H []) hl0 ⟨.eq (by kernel_rfl), hO⟩ ?_
  clear hO
  rintro k0 s out1 T H ⟨hT, hO⟩ h1 ho0
  obtain ⟨t1, t9⟩ := s
  replace h1 : oX t7 t8 t1 t9 = some out1 := h1
  try dsimp only at hT
  refine bF hT ?_
  clear hT
  unfold oX at h1
  refine aX aB 1 [] [(10, (aE (decide (t9 < t8))))] ?_
  refine aO ?_
  refine bJ h1 (fun h1 => ?_) (fun h1 => ?_)
  · refine bM ?_
    refine bB [(1, (eI t1)), (7, (eL aD t7)), (8, (eI t8)), (9, (eI t9))] ?_
    refine eV (fun T H => ∃ t1 : Int, Has T [(1, (eI t1)), (7, (eL aD t7)), (8, (eI t8)), (9, (eI t9))] ∧ aM ⟨H0, [], []⟩ H [] ∧ rH t1 t7 t8 t9 = some out1) ?_ ?_
    · clear hO h1
      rintro T H ⟨t1, hT, hO, h1⟩
      refine bF hT ?_
      clear hT
      unfold rH at h1
      refine aS aB 2 ?_
      refine aZ ?_
      exact aF (aH (⟨rfl, _, (oI h1).symm, .eq (by kernel_rfl), hO⟩))
    refine bW 1 ?_
    refine aO ?_
    refine aS aB 4 ?_
    obtain ⟨c2, h1⟩ := bA h1
    refine rO 2 [0 ≤ t9 ∧ t9 < (lN t7)] ⟨c2, trivial⟩ ?_
    refine oA 3 (.agg [(.sl true 0 (fun _ => .bad)), (eI 0), (eI 0)]) (aD (aG.mk ([]) 0 0)) (by kernel_rfl) (by kernel_rfl) (by kernel_rfl) (xH (xs := [(.sl true 0 (fun _ => .bad)), (eI 0), (eI 0)]) (ys := [(eL aJ ([])), (eI 0), (eI 0)]) ⟨eU, aQ.refl _, aQ.refl _, trivial⟩) (by kernel_rfl) (by kernel_rfl) hO ?_
    intro lo3 H hO
    refine gM 0 lo3 3 0 (aD (aG.mk ([]) 0 0)) (aD (gD t7 t9)) [(aD (aG.mk ([]) 0 0))] [(lo3, 3, [(aD (gD t7 t9))])] hO rfl (by kernel_rfl) ?_
    intro H hO
    refine cX ?_
    refine bO [] [(6, (.lp lo3 0 0))] ?_
    refine aO ?_
    refine aS aB 3 ?_
    refine bE 1 ?_
    refine iS 0 lo3 3 0 (aD (gD t7 t9)) (eI ((gD t7 t9).Net)) [(aD (gD t7 t9))] hO rfl ?_
    refine aZ ?_
    refine bO [] [(15, (aE (decide ((0 : Int) < ((gD t7 t9).Net)))))] ?_
    refine bJ h1 (fun h1 => ?_) (fun h1 => ?_)
    · refine aS aB 6 ?_
      refine bE 2 ?_
      refine iS 0 lo3 3 0 (aD (gD t7 t9)) (eI ((gD t7 t9).At)) [(aD (gD t7 t9))] hO rfl ?_
      refine aZ ?_
      replace hO := hO.pick (L' := []) [] (by decide) (by kernel_rfl)
      exact aF (aV (aH (⟨rfl, _, .eq (by kernel_rfl), hO, h1⟩)))
    refine bM ?_
    replace hO := hO.pick (L' := []) [] (by decide) (by kernel_rfl)
    exact aF (aV (aH (⟨rfl, _, .eq (by kernel_rfl), hO, h1⟩)))
  refine gG 0 ?_
  obtain rfl := oI h1
  obtain rfl : _ = rr0 := ho0
  replace h0 : uU t1 = some r := h0
  exact aF (aY (aY (bU (aH (⟨rfl, _, .eq (by kernel_rfl), hO, h0⟩)))))

theorem GZ (l0 : (List aG)) (r : (List aG)) (h0 : qW l0 = some r) : dF Try.prog 40 [(eL aD l0)] (.fn (.func 59) [] [(.rp (eL aD r))]) := by
  intro H0
  refine cY Try.func40 ?_
  have hO := aM.start H0
  unfold qW at h0
  refine aO ?_
  refine aS aB 2 ?_
  refine fQ 1 (eL aD l0) (by kernel_rfl) (by kernel_rfl) ?_
  refine aZ ?_
  refine bB [(1, (.rp (eL aD l0)))] ?_
  refine bV aB 2 [(2, (.fn (.func 59) [] [(.rp (eL aD l0))]))] ?_
  refine bH ?_
  obtain rfl := oI h0
  exact aF (jV (x := (.fn (.func 59) [] [(.rp (eL aD l0))])) (by kernel_rfl) (aQ.refl _) ⟨rfl, hO.out⟩)

theorem BH {σ : Type} (I : σ → Gs → Prop) (yield0_b : Nat) (cG : σ → (List aI) → (List aC) → Option (σ × Bool)) (yield0_h : ∀ st a0 a1 st2 r, cG st a0 a1 = some (st2, r) → AO Try.prog (yv yield0_b) I st [(eL aJ a0), (eL aK a1)] st2 (aE r)) (t1 : (List aG)) (sg0 : σ) (r : σ) (h0 : nP cG t1 sg0 = some r) : wS Try.prog 59 I sg0 [(yv yield0_b), (.rp (eL aD t1))] r (.tup []) := by
  intro H0 G0 hI hg
  refine yM aB Try.func59 (by kernel_rfl) (by kernel_rfl) (by kernel_rfl) ?_
  obtain ⟨G, hO, hI⟩ : ∃ G, aM ⟨H0, List.map (fun p : Nat × dK => p.1) G0, G⟩ H0 [] ∧ I sg0 G := ⟨G0, aM.CQ hg, hI⟩
  clear hg
  unfold nP at h0
  refine aO ?_
  refine aS aB 1 ?_
  refine fQ 1 (yv yield0_b) (by kernel_rfl) (by kernel_rfl) ?_
  refine cX ?_
  refine bO [0] [(2, (.rp (yv yield0_b)))] ?_
  refine aO ?_
  refine aO ?_
  refine aS aB 3 ?_
  refine bE 1 ?_
  obtain ⟨x1, hx2, h0⟩ := aW h0
  refine cW (wN t1 _ hx2) hO ?_
  intro H hO
  refine aZ ?_
  refine bO [] [(7, (aE (!x1)))] ?_
  refine bJ h0 (fun h0 => ?_) (fun h0 => ?_)
  · refine bH ?_
    obtain rfl := oI h0
    exact aF (aU (QM0 (.inr rfl) (rs := []) (xs := []) (x := (.tup [])) (by kernel_rfl) mT (by kernel_rfl) ⟨rfl, G, hI, hO.yD⟩))
  refine bM ?_
  refine bB [(1, (.rp (eL aD t1))), (2, (.rp (yv yield0_b)))] ?_
  refine aO ?_
  refine aS aB 2 ?_
  refine bE 1 ?_
  obtain ⟨x5, hx6, h0⟩ := aW h0
  refine cW (EJ t1 _ hx6) hO ?_
  intro H hO
  refine cX ?_
  refine bO [1] [(9, (.fn (.func 72) [] [(.rp (eL aD x5))]))] ?_
  refine bW 0 ?_
  refine eE [(2, (.rp (yv yield0_b))), (9, (.fn (.func 72) [] [(.rp (eL aD x5))]))] ?_
  refine eH (fun T H => ∃ sg : σ, ∃ t9c0 : (List aG), ∃ G : Gs, Has T [(2, (.rp (yv yield0_b))), (9, (.fn (.func 72) [] [(.rp (eL aD t9c0))]))] ∧ aM ⟨H0, List.map (fun p : Nat × dK => p.1) G0, G⟩ H [] ∧ I sg G ∧ rJ cG sg t9c0 = some r) ?_ ⟨sg0, x5, G, .eq (by kernel_rfl), hO, hI, h0⟩
  clear hO hI h0
  rintro T H ⟨sg, t9c0, G, hT, hO, hI, h0⟩
  refine bF (l := [(2, (.rp (yv yield0_b))), (9, (.fn (.func 72) [] [(.rp (eL aD t9c0))]))]) hT ?_
  clear hT
  unfold rJ at h0
  obtain ⟨o0, hl0, h0⟩ := aW h0
  refine vS (fid := 72) (ys := []) (cs := [(.rp (eL aD t9c0))]) #[10, 11] (fun (A : rN) (b lL : Nat) (st : (σ) ⊕ (σ)) (G' : Gs) => Sum.elim (fun (s : σ) => ∃ G : Gs, I s G ∧ G' = (lL, .raw (gL b A .ready none)) :: (up [] ++ G)) (fun (s : σ) => ∃ G : Gs, I s G ∧ G' = (lL, .raw (gL b A .done (some .ret))) :: (up [] ++ G)) st) (.inl sg) o0 (.tup []) (by kernel_rfl) (by kernel_rfl) (by kernel_rfl) hO (fun _ _ => ⟨G, hI, rfl⟩) ?_ ?_
  · intro b lL
    clear hO hI h0
    refine zB _ b (fun st t10 t11 => rnd (fun (s : σ) => lO cG t9c0 s t10 t11) st) ?_ t9c0 _ _ hl0
    intro st t10 t11 out1 rr hr
    obtain ⟨s, rfl, h1, rfl⟩ := FN hr
    clear hr
    intro Hr Gr hi hg
    obtain ⟨sg, rfl⟩ : ∃ x, x = s := ⟨_, rfl⟩
    dsimp only [Sum.elim_inl] at hi
    obtain ⟨G, hI, rfl⟩ := hi
    replace h1 : lO cG t9c0 sg t10 t11 = some out1 := h1
    unfold lO at h1
    obtain ⟨E1, hE, hO⟩ := oE hg
    refine oG (tM (hO.gm 0 _ rfl).2 (by kernel_rfl) (by kernel_rfl) ?_)
    refine eE [(2, (.rp (yv yield0_b))), (9, (.fn (.func 72) [] [(.rp (eL aD t9c0))])), (10, (eL aJ t10)), (11, (eL aK t11))] ?_
    refine aX aB 1 [9, 10] [(3, (eL aJ t10))] ?_
    refine aS aB 1 ?_
    refine aZ ?_
    refine dQ [(2, (.rp (yv yield0_b))), (3, (eL aJ t10)), (4, (eL aK t11))] ?_
    refine aF (⟨rfl, rfl, (hO.gm 0 _ rfl).2, ?_⟩)
    intro o1 ho1
    replace hO := hO.mZ o1
    refine bW 1 ?_
    refine aO ?_
    refine aS aB 5 ?_
    refine bE 3 ?_
    obtain ⟨x7, hx8, h1⟩ := aW h1
    refine aDs (I := I) (yv yield0_b) [(eL aJ t10), (eL aK t11)] (aE x7.2) (by kernel_rfl) (by kernel_rfl) (yield0_h _ t10 t11 x7.1 x7.2 hx8) hO hI ?_
    intro G H hO hI
    refine aZ ?_
    refine bB [(16, (aE (!x7.2)))] ?_
    refine bJ h1 (fun h1 => ?_) (fun h1 => ?_)
    · refine bH ?_
      refine dQ [] ?_
      obtain rfl := oI h1
      exact aF (bD (⟨(cZ hO hE ho1 .dead).1, rfl, _, ⟨G, hI, rfl⟩, (cZ hO hE ho1 _).2⟩))
    refine bM ?_
    refine dQ [] ?_
    obtain rfl := oI h1
    exact aF (aV (⟨(cZ hO hE ho1 .dead).1, rfl, _, ⟨G, hI, rfl⟩, (cZ hO hE ho1 _).2⟩))
  · intro b lD10 lL H' G' hi hO
    rcases o0 with s | s
    · dsimp only [Sum.elim_inl] at hi
      obtain ⟨G, hI, rfl⟩ := hi
      replace h0 : (some s) = some r := h0
      obtain ⟨hlL, hO⟩ := lY hO
      refine ⟨_, _, hlL, (by intro e; cases e), ?_⟩
      obtain rfl := oI h0
      have hD := (hO.gm 0 _ rfl).2
      replace hO := (hO.mZ .dead).nC
      exact aF (aV (QM1 (.inl rfl) hD (rs := []) (xs := []) (x := (.tup [])) (by kernel_rfl) mT (by kernel_rfl) ⟨rfl, G, hI, hO.yD⟩))
    · dsimp only [Sum.elim_inr] at hi
      obtain ⟨G, hI, rfl⟩ := hi
      replace h0 : (some s) = some r := h0
      obtain ⟨hlL, hO⟩ := lY hO
      refine ⟨_, _, hlL, (by intro e; cases e), ?_⟩
      refine bH ?_
      obtain rfl := oI h0
      have hD := (hO.gm 0 _ rfl).2
      replace hO := (hO.mZ .dead).nC
      exact aF (bD (QM1 (.inr rfl) hD (rs := []) (xs := []) (x := (.tup [])) (by kernel_rfl) mT (by kernel_rfl) ⟨rfl, G, hI, hO.yD⟩))

theorem YO (f0 : (List aC)) (r : (List aC)) (h0 : AF f0 = some r) : dF Try.prog 60 [(eL aK f0)] (.fn (.func 73) [] [(.rp (eL aK r))]) := by
  intro H0
  refine cY Try.func60 ?_
  have hO := aM.start H0
  unfold AF at h0
  refine aO ?_
  refine aS aB 2 ?_
  refine fQ 1 (eL aK f0) (by kernel_rfl) (by kernel_rfl) ?_
  refine aZ ?_
  refine bB [(1, (.rp (eL aK f0)))] ?_
  refine bV aB 2 [(2, (.fn (.func 73) [] [(.rp (eL aK f0))]))] ?_
  refine bH ?_
  obtain rfl := oI h0
  exact aF (jV (x := (.fn (.func 73) [] [(.rp (eL aK f0))])) (by kernel_rfl) (aQ.refl _) ⟨rfl, hO.out⟩)

theorem ML {σ : Type} (I : σ → Gs → Prop) (yield0_b : Nat) (cG : σ → bI → Option (σ × Bool)) (yield0_h : ∀ st a0 st2 r, cG st a0 = some (st2, r) → AO Try.prog (yv yield0_b) I st [(cU a0)] st2 (aE r)) (t1 : (List aC)) (sg0 : σ) (r : σ) (h0 : rG cG t1 sg0 = some r) : wS Try.prog 73 I sg0 [(yv yield0_b), (.rp (eL aK t1))] r (.tup []) := by
  intro H0 G0 hI hg
  refine cY Try.func73 ?_
  obtain ⟨G, hO, hI⟩ : ∃ G, aM ⟨H0, List.map (fun p : Nat × dK => p.1) G0, G⟩ H0 [] ∧ I sg0 G := ⟨G0, aM.CQ hg, hI⟩
  clear hg
  unfold rG at h0
  refine aX aB 2 [] [(3, (eI (0 : Int))), (4, (eI (0 : Int)))] ?_
  refine eV (fun T H => ∃ sg : σ, ∃ n3 : Int, ∃ kM : Int, ∃ G : Gs, Has T [(0, (yv yield0_b)), (3, (eI n3)), (4, (eI kM))] ∧ aM ⟨H0, List.map (fun p : Nat × dK => p.1) G0, G⟩ H [] ∧ I sg G ∧ nX cG sg n3 kM = some r) ?_ ?_
  · clear hO hI h0
    rintro T H ⟨sg, n3, kM, G, hT, hO, hI, h0⟩
    refine bF hT ?_
    clear hT
    unfold nX at h0
    refine aX aB 2 [3] [(34, (aE (decide ((0 : Int) < n3))))] ?_
    refine bJ h0 (fun h0 => ?_) (fun h0 => ?_)
    · refine aS aB 4 ?_
      refine bE 3 ?_
      obtain ⟨x2, hx3, h0⟩ := aW h0
      refine JW (I := I) (yv yield0_b) [(cU (bI.mk kM (1125899906842624 : Int)))] (aE x2.2) (by kernel_rfl) (by kernel_rfl) (yield0_h _ (bI.mk kM (1125899906842624 : Int)) x2.1 x2.2 hx3) hO hI ?_
      intro G H hO hI
      refine cX ?_
      obtain rfl := oI h0
      exact aF (xY (x := (.tup [])) (by kernel_rfl) (aQ.refl _) ⟨rfl, G, hI, hO.yD⟩)
    refine bM ?_
    obtain rfl := oI h0
    exact aF (xY (x := (.tup [])) (by kernel_rfl) (aQ.refl _) ⟨rfl, G, hI, hO.yD⟩)
  refine aX aB 3 [1] [(7, (eL aK t1)), (8, (eI (lN t1))), (9, (eI (0 : Int)))] ?_
  refine bW 0 ?_
  refine eE [(0, (yv yield0_b)), (3, (eI (0 : Int))), (4, (eI (0 : Int))), (7, (eL aK t1)), (8, (eI (lN t1))), (9, (eI (0 : Int)))] ?_
  refine eH (fun T H => ∃ sg : σ, ∃ n3 : Int, ∃ kM : Int, ∃ t7 : (List aC), ∃ t8 : Int, ∃ t9 : Int, ∃ G : Gs, Has T [(0, (yv yield0_b)), (3, (eI n3)), (4, (eI kM)), (7, (eL aK t7)), (8, (eI t8)), (9, (eI t9))] ∧ aM ⟨H0, List.map (fun p : Nat × dK => p.1) G0, G⟩ H [] ∧ I sg G ∧ tJ cG sg n3 kM t7 t8 t9 = some r) ?_ ⟨sg0, (0 : Int), (0 : Int), t1, (lN t1), (0 : Int), G, .eq (by kernel_rfl), hO, hI, h0⟩
  clear hO hI h0
  rintro T H ⟨sg, n3, kM, t7, t8, t9, G, hT, hO, hI, h0⟩
  refine bF hT ?_
  clear hT
  unfold tJ at h0
  obtain ⟨rr0, hl0, h0⟩ := aW h0
  refine dM (by kernel_rfl) (fun (s : σ × Int × Int × Int) T H => ∃ G : Gs, Has T [(0, (yv yield0_b)), (3, (eI s.2.1)), (4, (eI s.2.2.1)), (7, (eL aK t7)), (8, (eI t8)), (9, (eI s.2.2.2))] ∧ aM ⟨H0, List.map (fun p : Nat × dK => p.1) G0, G⟩ H [] ∧ I s.1 G) hl0 ⟨G, .eq (by kernel_rfl), hO, hI⟩ ?_
  clear hO hI
  rintro k0 s out1 T H ⟨G, hT, hO, hI⟩ h1 ho0
  obtain ⟨sg, n3, kM, t9⟩ := s
  replace h1 : gT cG t7 t8 sg n3 kM t9 = some out1 := h1
  try dsimp only at hT
  refine bF hT ?_
  clear hT
  unfold gT at h1
  refine aX aB 1 [] [(10, (aE (decide (t9 < t8))))] ?_
  refine aO ?_
  refine bJ h1 (fun h1 => ?_) (fun h1 => ?_)
  · refine bM ?_
    refine bB [(0, (yv yield0_b)), (3, (eI n3)), (4, (eI kM)), (7, (eL aK t7)), (8, (eI t8)), (9, (eI t9))] ?_
    refine aO ?_
    refine bW 1 ?_
    refine aO ?_
    refine aS aB 4 ?_
    obtain ⟨c5, h1⟩ := bA h1
    refine rO 2 [0 ≤ t9 ∧ t9 < (lN t7)] ⟨c5, trivial⟩ ?_
    refine kK 2 (aK (aC.mk 0 0)) (by kernel_rfl) (by kernel_rfl) hO ?_
    intro lo6 H hO
    refine gM 0 lo6 2 0 (aK (aC.mk 0 0)) (aK (gD t7 t9)) [(aK (aC.mk 0 0))] [(lo6, 2, [(aK (gD t7 t9))])] hO rfl (by kernel_rfl) ?_
    intro H hO
    refine cX ?_
    refine bO [] [(6, (.lp lo6 0 0))] ?_
    refine eV (fun T H => ∃ sg : σ, ∃ kM : Int, ∃ j6 : aC, ∃ G : Gs, Has T [(0, (yv yield0_b)), (3, (eI n3)), (4, (eI kM)), (6, (.lp lo6 0 0)), (7, (eL aK t7)), (8, (eI t8)), (9, (eI t9))] ∧ aM ⟨H0, List.map (fun p : Nat × dK => p.1) G0, G⟩ H [(lo6, 2, [(aK j6)])] ∧ I sg G ∧ mN cG sg n3 kM j6 t7 t8 t9 = some out1) ?_ ?_
    · clear hO hI h1
      rintro T H ⟨sg, kM, j6, G, hT, hO, hI, h1⟩
      refine bF hT ?_
      clear hT
      unfold mN at h1
      refine aO ?_
      refine aS aB 5 ?_
      refine bE 2 ?_
      refine iS 0 lo6 2 0 (aK j6) (eI j6.Net) [(aK j6)] hO rfl ?_
      refine aZ ?_
      refine bO [3] [(3, (eI (wR (n3 + j6.Net))))] ?_
      refine aO ?_
      refine aS aB 11 ?_
      refine bE 6 ?_
      refine qZ [(23, true)] 0 lo6 2 0 (aK j6) (eI j6.At) [(aK j6)] (by kernel_rfl) (by kernel_rfl) hO (by kernel_rfl) (decide ((wR (n3 + j6.Net)) = (0 : Int))) (by kernel_rfl) (fun hb7 => rfl) ?_
      refine bE 8 ?_
      obtain ⟨⟨x10, x11⟩, hx9, h1⟩ := aW h1
      replace hx9 := ZU hx9
      refine WZ (I := I) [(23, true)] (decide ((wR (n3 + j6.Net)) = (0 : Int))) (yv yield0_b) [(cU (bI.mk kM j6.At))] (aE x11) ⟨fun hb => yield0_h _ (bI.mk kM j6.At) x10 x11 (hx9.1 hb), hx9.2⟩ hO hI ?_
      intro G H hO hI
      refine aZ ?_
      replace hO := hO.pick (L' := []) [] (by decide) (by kernel_rfl)
      refine bO [6] [(31, (aE ((decide ((wR (n3 + j6.Net)) = (0 : Int))) && (!x11))))] ?_
      refine bJ h1 (fun h1 => ?_) (fun h1 => ?_)
      · refine bH ?_
        obtain rfl := oI h1
        obtain rfl : _ = rr0 := ho0
        replace h0 : some x10 = some r := h0
        obtain rfl := oI h0
        exact aF (bD (aU (aU (bD (aU (jV (x := (.tup [])) (by kernel_rfl) (aQ.refl _) ⟨rfl, G, hI, hO.yD⟩))))))
      refine bM ?_
      refine dQ [(0, (yv yield0_b)), (3, (eI (wR (n3 + j6.Net)))), (4, (eI kM)), (7, (eL aK t7)), (8, (eI t8)), (9, (eI t9))] ?_
      refine aF (aV (aH (?_)))
      refine aS aB 2 ?_
      refine aZ ?_
      exact aF (aH (⟨rfl, _, (oI h1).symm, _, .eq (by kernel_rfl), hO, hI⟩))
    refine aX aB 2 [] [(14, (aE (decide (n3 = (0 : Int)))))] ?_
    refine bJ h1 (fun h1 => ?_) (fun h1 => ?_)
    · refine aS aB 3 ?_
      refine bE 1 ?_
      refine iS 0 lo6 2 0 (aK (gD t7 t9)) (eI ((gD t7 t9).At)) [(aK (gD t7 t9))] hO rfl ?_
      refine aZ ?_
      exact aF (aH (⟨rfl, _, _, _, _, .eq (by kernel_rfl), hO, hI, h1⟩))
    refine bM ?_
    exact aF (aH (⟨rfl, _, _, _, _, .eq (by kernel_rfl), hO, hI, h1⟩))
  refine gG 0 ?_
  obtain rfl := oI h1
  obtain rfl : _ = rr0 := ho0
  replace h0 : nX cG sg n3 kM = some r := h0
  exact aF (aY (aY (bU (aH (⟨rfl, _, _, _, _, .eq (by kernel_rfl), hO, hI, h0⟩)))))

theorem UD (mK : Int) (hop1 : Int) (s2 : bI) (mF : Int) (jZ : Int) (r : (Int × bI × Int × Int × Int)) (h0 : zD mK hop1 s2 mF jZ = some r) : dF Try.prog 61 [(eI mK), (eI hop1), (cU s2), (eI mF), (eI jZ)] (.fn (.func 74) [] [(.rp (eI r.1)), (.rp (cU r.2.1)), (.rp (eI r.2.2.1)), (.rp (eI r.2.2.2.1)), (.rp (eI r.2.2.2.2))]) := by
  intro H0
  refine cY Try.func61 ?_
  have hO := aM.start H0
  unfold zD at h0
  refine aO ?_
  refine aS aB 6 ?_
  refine fQ 1 (eI mK) (by kernel_rfl) (by kernel_rfl) ?_
  refine fQ 1 (eI hop1) (by kernel_rfl) (by kernel_rfl) ?_
  refine fQ 2 (cU s2) (by kernel_rfl) (by kernel_rfl) ?_
  refine fQ 1 (eI mF) (by kernel_rfl) (by kernel_rfl) ?_
  refine fQ 1 (eI jZ) (by kernel_rfl) (by kernel_rfl) ?_
  refine aZ ?_
  refine bB [(5, (.rp (eI mK))), (6, (.rp (eI hop1))), (7, (.rp (cU s2))), (8, (.rp (eI mF))), (9, (.rp (eI jZ)))] ?_
  refine bV aB 2 [(10, (.fn (.func 74) [] [(.rp (eI hop1)), (.rp (cU s2)), (.rp (eI mK)), (.rp (eI mF)), (.rp (eI jZ))]))] ?_
  refine bH ?_
  obtain rfl := oI h0
  exact aF (jV (x := (.fn (.func 74) [] [(.rp (eI hop1)), (.rp (cU s2)), (.rp (eI mK)), (.rp (eI mF)), (.rp (eI jZ))])) (by kernel_rfl) (aQ.refl _) ⟨rfl, hO.out⟩)

theorem LW {σ : Type} (I : σ → Gs → Prop) (yield0_b : Nat) (cG : σ → Int → Option (σ × Bool)) (yield0_h : ∀ st a0 st2 r, cG st a0 = some (st2, r) → AO Try.prog (yv yield0_b) I st [(eI a0)] st2 (aE r)) (t1 : Int) (t2 : bI) (t3 : Int) (t4 : Int) (t5 : Int) (sg0 : σ) (r : σ) (h0 : qG cG t1 t2 t3 t4 t5 sg0 = some r) : wS Try.prog 74 I sg0 [(yv yield0_b), (.rp (eI t1)), (.rp (cU t2)), (.rp (eI t3)), (.rp (eI t4)), (.rp (eI t5))] r (.tup []) := by
  intro H0 G0 hI hg
  refine cY Try.func74 ?_
  obtain ⟨G, hO, hI⟩ : ∃ G, aM ⟨H0, List.map (fun p : Nat × dK => p.1) G0, G⟩ H0 [] ∧ I sg0 G := ⟨G0, aM.CQ hg, hI⟩
  clear hg
  unfold qG at h0
  refine aO ?_
  refine fX (fZ [9, 11, 12, 14, 15, 16, 18]) aB 12 ?_
  refine kE 5 ?_
  obtain ⟨x1, hx2, h0⟩ := aW h0
  refine zW (CM t1 (wR (t2.From - t3)) _ hx2) hO ?_
  intro H hO
  refine kE 9 ?_
  obtain ⟨x4, hx5, h0⟩ := aW h0
  refine zW (CM t1 (wR (t4 - (1 : Int))) _ hx5) hO ?_
  intro H hO
  refine kJ ?_
  refine bO [3, 4] [(7, (eI (if x4 > x1 then x4 else x1)))] ?_
  refine aX aB 2 [7] [(8, (eI (if x4 > x1 then x4 else x1)))] ?_
  refine bW 0 ?_
  refine eE [(0, (yv yield0_b)), (1, (.rp (eI t1))), (2, (.rp (cU t2))), (5, (.rp (eI t5))), (8, (eI (if x4 > x1 then x4 else x1)))] ?_
  refine eH (fun T H => ∃ sg : σ, ∃ t8 : Int, ∃ G : Gs, Has T [(0, (yv yield0_b)), (1, (.rp (eI t1))), (2, (.rp (cU t2))), (5, (.rp (eI t5))), (8, (eI t8))] ∧ aM ⟨H0, List.map (fun p : Nat × dK => p.1) G0, G⟩ H [] ∧ I sg G ∧ pM cG sg t1 t2 t5 t8 = some r) ?_ ⟨sg0, if x4 > x1 then x4 else x1, G, .eq (by kernel_rfl), hO, hI, h0⟩
  clear hO hI h0
  rintro T H ⟨sg, t8, G, hT, hO, hI, h0⟩
  refine bF hT ?_
  clear hT
  unfold pM at h0
  obtain ⟨rr0, hl0, h0⟩ := aW h0
  refine dM (by kernel_rfl) (fun (s : σ × Int) T H => ∃ G : Gs, Has T [(0, (yv yield0_b)), (1, (.rp (eI t1))), (2, (.rp (cU t2))), (5, (.rp (eI t5))), (8, (eI s.2))] ∧ aM ⟨H0, List.map (fun p : Nat × dK => p.1) G0, G⟩ H [] ∧ I s.1 G) hl0 ⟨G, .eq (by kernel_rfl), hO, hI⟩ ?_
  clear hO hI
  rintro k0 s out1 T H ⟨G, hT, hO, hI⟩ h1 ho0
  obtain ⟨sg, t8⟩ := s
  replace h1 : jT cG t1 t2 t5 sg t8 = some out1 := h1
  try dsimp only at hT
  refine bF hT ?_
  clear hT
  unfold jT at h1
  refine aO ?_
  refine aX aB 6 [] [(26, (aE (decide (t8 < (if (1125899906842624 : Int) < (if t5 < t2.To then t5 else t2.To) then (1125899906842624 : Int) else (if t5 < t2.To then t5 else t2.To))))))] ?_
  refine bJ h1 (fun h1 => ?_) (fun h1 => ?_)
  · refine bM ?_
    refine bB [(0, (yv yield0_b)), (1, (.rp (eI t1))), (2, (.rp (cU t2))), (5, (.rp (eI t5))), (8, (eI t8))] ?_
    refine aO ?_
    refine bW 1 ?_
    refine aO ?_
    refine aS aB 4 ?_
    refine bE 2 ?_
    obtain ⟨x8, hx9, h1⟩ := aW h1
    refine JW (I := I) (yv yield0_b) [(eI t8)] (aE x8.2) (by kernel_rfl) (by kernel_rfl) (yield0_h _ t8 x8.1 x8.2 hx9) hO hI ?_
    intro G H hO hI
    refine aZ ?_
    refine bO [] [(33, (aE (!x8.2)))] ?_
    refine bJ h1 (fun h1 => ?_) (fun h1 => ?_)
    · refine bH ?_
      obtain rfl := oI h1
      obtain rfl : _ = rr0 := ho0
      replace h0 : some x8.1 = some r := h0
      obtain rfl := oI h0
      exact aF (bD (aU (aU (bD (jV (x := (.tup [])) (by kernel_rfl) (aQ.refl _) ⟨rfl, G, hI, hO.yD⟩)))))
    refine bM ?_
    refine dQ [(0, (yv yield0_b)), (1, (.rp (eI t1))), (2, (.rp (cU t2))), (5, (.rp (eI t5))), (8, (eI t8))] ?_
    refine aF (aV (aH (?_)))
    refine aS aB 4 ?_
    refine aZ ?_
    exact aF (aH (⟨rfl, _, (oI h1).symm, _, .eq (by kernel_rfl), hO, hI⟩))
  refine gG 0 ?_
  obtain rfl := oI h1
  obtain rfl : _ = rr0 := ho0
  replace h0 : some sg = some r := h0
  obtain rfl := oI h0
  exact aF (aY (aY (bU (xY (x := (.tup [])) (by kernel_rfl) (aQ.refl _) ⟨rfl, G, hI, hO.yD⟩))))

theorem QT (f0 : (List aC)) (t1 : Int) (r : Int) (h0 : yH f0 t1 = some r) : dF Try.prog 46 [(eL aK f0), (eI t1)] (eI r) := by
  intro H0
  refine cY Try.func46 ?_
  have hO := aM.start H0
  unfold yH at h0
  refine aX aB 1 [] [] ?_
  refine aO ?_
  refine aO ?_
  refine aS aB 3 ?_
  refine bE 1 ?_
  obtain ⟨x1, hx2, h0⟩ := aW h0
  refine cW (wI f0 _ hx2) hO ?_
  intro H hO
  refine aZ ?_
  refine bO [] [(10, (aE (!x1)))] ?_
  refine bJ h0 (fun h0 => ?_) (fun h0 => ?_)
  · refine bV aB 1 [(4, (eI (0 : Int)))] ?_
    refine bH ?_
    obtain rfl := oI h0
    exact aF (aU (Q_r hO))
  refine bM ?_
  refine bB [(0, (eL aK f0)), (1, (eI t1))] ?_
  refine aX aB 1 [] [(5, (eI (0 : Int)))] ?_
  refine eV (fun T H => ∃ v5 : Int, Has T [(5, (eI v5))] ∧ aM ⟨H0, [], []⟩ H [] ∧ wP v5 = some r) ?_ ?_
  · clear hO h0
    rintro T H ⟨v5, hT, hO, h0⟩
    refine bF hT ?_
    clear hT
    unfold wP at h0
    refine bV aB 2 [(4, (eI v5))] ?_
    refine bH ?_
    obtain rfl := oI h0
    exact aF (Q_r hO)
  refine aX aB 3 [0] [(11, (eL aK f0)), (12, (eI (lN f0))), (13, (eI (0 : Int)))] ?_
  refine bW 0 ?_
  refine eE [(1, (eI t1)), (5, (eI (0 : Int))), (11, (eL aK f0)), (12, (eI (lN f0))), (13, (eI (0 : Int)))] ?_
  refine eH (fun T H => ∃ v5 : Int, ∃ t11 : (List aC), ∃ t12 : Int, ∃ t13 : Int, Has T [(1, (eI t1)), (5, (eI v5)), (11, (eL aK t11)), (12, (eI t12)), (13, (eI t13))] ∧ aM ⟨H0, [], []⟩ H [] ∧ BQ t1 v5 t11 t12 t13 = some r) ?_ ⟨(0 : Int), f0, (lN f0), (0 : Int), .eq (by kernel_rfl), hO, h0⟩
  clear hO h0
  rintro T H ⟨v5, t11, t12, t13, hT, hO, h0⟩
  refine bF hT ?_
  clear hT
  unfold BQ at h0
  obtain ⟨rr0, hl0, h0⟩ := aW h0
  refine dM (by kernel_rfl) (fun (s : Int × Int) T H => Has T [(1, (eI t1)), (5, (eI s.1)), (11, (eL aK t11)), (12, (eI t12)), (13, (eI s.2))] ∧ aM ⟨H0, [], []⟩ H []) hl0 ⟨.eq (by kernel_rfl), hO⟩ ?_
  clear hO
  rintro k0 s out1 T H ⟨hT, hO⟩ h1 ho0
  obtain ⟨v5, t13⟩ := s
  replace h1 : oD t1 t11 t12 v5 t13 = some out1 := h1
  try dsimp only at hT
  refine bF hT ?_
  clear hT
  unfold oD at h1
  refine aX aB 1 [] [(14, (aE (decide (t13 < t12))))] ?_
  refine aO ?_
  refine bJ h1 (fun h1 => ?_) (fun h1 => ?_)
  · refine bM ?_
    refine bB [(1, (eI t1)), (5, (eI v5)), (11, (eL aK t11)), (12, (eI t12)), (13, (eI t13))] ?_
    refine aO ?_
    refine bW 1 ?_
    refine aO ?_
    refine aS aB 4 ?_
    obtain ⟨c6, h1⟩ := bA h1
    refine rO 2 [0 ≤ t13 ∧ t13 < (lN t11)] ⟨c6, trivial⟩ ?_
    refine kK 2 (aK (aC.mk 0 0)) (by kernel_rfl) (by kernel_rfl) hO ?_
    intro lo7 H hO
    refine gM 0 lo7 2 0 (aK (aC.mk 0 0)) (aK (gD t11 t13)) [(aK (aC.mk 0 0))] [(lo7, 2, [(aK (gD t11 t13))])] hO rfl (by kernel_rfl) ?_
    intro H hO
    refine cX ?_
    refine bO [] [(7, (.lp lo7 0 0))] ?_
    refine aO ?_
    refine aO ?_
    refine aS aB 4 ?_
    refine bE 1 ?_
    refine iS 0 lo7 2 0 (aK (gD t11 t13)) (eI ((gD t11 t13).At)) [(aK (gD t11 t13))] hO rfl ?_
    refine aZ ?_
    refine bO [] [(20, (aE (decide (t1 < ((gD t11 t13).At)))))] ?_
    refine bJ h1 (fun h1 => ?_) (fun h1 => ?_)
    · refine gG 0 ?_
      replace hO := hO.pick (L' := []) [] (by decide) (by kernel_rfl)
      obtain rfl := oI h1
      obtain rfl : _ = rr0 := ho0
      replace h0 : wP v5 = some r := h0
      exact aF (aY (rS (by kernel_rfl) (aY (aY (bU (aH (⟨rfl, _, .eq (by kernel_rfl), hO, h0⟩)))))))
    refine bM ?_
    refine bB [(1, (eI t1)), (5, (eI v5)), (7, (.lp lo7 0 0)), (11, (eL aK t11)), (12, (eI t12)), (13, (eI t13))] ?_
    refine aS aB 5 ?_
    refine bE 2 ?_
    refine iS 0 lo7 2 0 (aK (gD t11 t13)) (eI ((gD t11 t13).Net)) [(aK (gD t11 t13))] hO rfl ?_
    refine aZ ?_
    refine dQ [(1, (eI t1)), (5, (eI (wR (v5 + ((gD t11 t13).Net))))), (11, (eL aK t11)), (12, (eI t12)), (13, (eI t13))] ?_
    replace hO := hO.pick (L' := []) [] (by decide) (by kernel_rfl)
    refine aF (aV (aH (?_)))
    refine aS aB 2 ?_
    refine aZ ?_
    exact aF (aH (⟨rfl, _, (oI h1).symm, .eq (by kernel_rfl), hO⟩))
  refine gG 0 ?_
  obtain rfl := oI h1
  obtain rfl : _ = rr0 := ho0
  replace h0 : wP v5 = some r := h0
  exact aF (aY (aY (bU (aH (⟨rfl, _, .eq (by kernel_rfl), hO, h0⟩)))))

theorem SW (f0 : (List aC)) (w1 : bI) (r : Int) (h0 : uE f0 w1 = some r) : dF Try.prog 64 [(eL aK f0), (cU w1)] (eI r) := by
  intro H0
  refine cY Try.func64 ?_
  have hO := aM.start H0
  unfold uE at h0
  refine aO ?_
  refine aS aB 2 ?_
  refine fQ 2 (cU w1) (by kernel_rfl) (by kernel_rfl) ?_
  refine aZ ?_
  refine bO [1] [(3, (.rp (cU w1)))] ?_
  refine aO ?_
  refine aS aB 5 ?_
  refine bE 3 ?_
  obtain ⟨x1, hx2, h0⟩ := aW h0
  refine cW (QT f0 w1.From _ hx2) hO ?_
  intro H hO
  refine aZ ?_
  refine bO [] [(5, (eI x1))] ?_
  refine eV (fun T H => ∃ n5 : Int, Has T [(5, (eI n5))] ∧ aM ⟨H0, [], []⟩ H [] ∧ wJ n5 = some r) ?_ ?_
  · clear hO h0
    rintro T H ⟨n5, hT, hO, h0⟩
    refine bF hT ?_
    clear hT
    unfold wJ at h0
    refine bV aB 2 [(4, (eI n5))] ?_
    refine bH ?_
    obtain rfl := oI h0
    exact aF (Q_r hO)
  refine aX aB 3 [0] [(12, (eL aK f0)), (13, (eI (lN f0))), (14, (eI (0 : Int)))] ?_
  refine bW 0 ?_
  refine eE [(3, (.rp (cU w1))), (5, (eI x1)), (12, (eL aK f0)), (13, (eI (lN f0))), (14, (eI (0 : Int)))] ?_
  refine eH (fun T H => ∃ w3 : bI, ∃ n5 : Int, ∃ t12 : (List aC), ∃ t13 : Int, ∃ t14 : Int, Has T [(3, (.rp (cU w3))), (5, (eI n5)), (12, (eL aK t12)), (13, (eI t13)), (14, (eI t14))] ∧ aM ⟨H0, [], []⟩ H [] ∧ wU w3 n5 t12 t13 t14 = some r) ?_ ⟨w1, x1, f0, (lN f0), (0 : Int), .eq (by kernel_rfl), hO, h0⟩
  clear hO h0
  rintro T H ⟨w3, n5, t12, t13, t14, hT, hO, h0⟩
  refine bF hT ?_
  clear hT
  unfold wU at h0
  obtain ⟨rr0, hl0, h0⟩ := aW h0
  refine dM (by kernel_rfl) (fun (s : Int × Int) T H => Has T [(3, (.rp (cU w3))), (5, (eI s.1)), (12, (eL aK t12)), (13, (eI t13)), (14, (eI s.2))] ∧ aM ⟨H0, [], []⟩ H []) hl0 ⟨.eq (by kernel_rfl), hO⟩ ?_
  clear hO
  rintro k0 s out1 T H ⟨hT, hO⟩ h1 ho0
  obtain ⟨n5, t14⟩ := s
  replace h1 : pW w3 t12 t13 n5 t14 = some out1 := h1
  try dsimp only at hT
  refine bF hT ?_
  clear hT
  unfold pW at h1
  refine aX aB 1 [] [(15, (aE (decide (t14 < t13))))] ?_
  refine aO ?_
  refine bJ h1 (fun h1 => ?_) (fun h1 => ?_)
  · refine bM ?_
    refine bB [(3, (.rp (cU w3))), (5, (eI n5)), (12, (eL aK t12)), (13, (eI t13)), (14, (eI t14))] ?_
    refine eV (fun T H => ∃ n5 : Int, Has T [(3, (.rp (cU w3))), (5, (eI n5)), (12, (eL aK t12)), (13, (eI t13)), (14, (eI t14))] ∧ aM ⟨H0, [], []⟩ H [] ∧ pY w3 n5 t12 t13 t14 = some out1) ?_ ?_
    · clear hO h1
      rintro T H ⟨n5, hT, hO, h1⟩
      refine bF hT ?_
      clear hT
      unfold pY at h1
      refine aS aB 2 ?_
      refine aZ ?_
      exact aF (aH (⟨rfl, _, (oI h1).symm, .eq (by kernel_rfl), hO⟩))
    refine bW 1 ?_
    refine aO ?_
    refine aS aB 4 ?_
    obtain ⟨c5, h1⟩ := bA h1
    refine rO 2 [0 ≤ t14 ∧ t14 < (lN t12)] ⟨c5, trivial⟩ ?_
    refine kK 2 (aK (aC.mk 0 0)) (by kernel_rfl) (by kernel_rfl) hO ?_
    intro lo6 H hO
    refine gM 0 lo6 2 0 (aK (aC.mk 0 0)) (aK (gD t12 t14)) [(aK (aC.mk 0 0))] [(lo6, 2, [(aK (gD t12 t14))])] hO rfl (by kernel_rfl) ?_
    intro H hO
    refine cX ?_
    refine bO [] [(7, (.lp lo6 0 0))] ?_
    refine aO ?_
    refine aS aB 12 ?_
    refine bE 1 ?_
    refine iS 0 lo6 2 0 (aK (gD t12 t14)) (eI ((gD t12 t14).At)) [(aK (gD t12 t14))] hO rfl ?_
    refine bE 7 ?_
    refine qZ [(23, true)] 0 lo6 2 0 (aK (gD t12 t14)) (eI ((gD t12 t14).At)) [(aK (gD t12 t14))] (by kernel_rfl) (by kernel_rfl) hO (by kernel_rfl) (decide (w3.From < ((gD t12 t14).At))) (by kernel_rfl) (fun hb7 => rfl) ?_
    refine aZ ?_
    refine bO [] [(29, (aE ((decide (w3.From < ((gD t12 t14).At))) && (decide (((gD t12 t14).At) < w3.To)))))] ?_
    refine bJ h1 (fun h1 => ?_) (fun h1 => ?_)
    · refine aS aB 6 ?_
      refine bE 2 ?_
      refine iS 0 lo6 2 0 (aK (gD t12 t14)) (eI ((gD t12 t14).Net)) [(aK (gD t12 t14))] hO rfl ?_
      refine aZ ?_
      replace hO := hO.pick (L' := []) [] (by decide) (by kernel_rfl)
      exact aF (aV (aH (⟨rfl, _, .eq (by kernel_rfl), hO, h1⟩)))
    refine bM ?_
    replace hO := hO.pick (L' := []) [] (by decide) (by kernel_rfl)
    exact aF (aV (aH (⟨rfl, _, .eq (by kernel_rfl), hO, h1⟩)))
  refine gG 0 ?_
  obtain rfl := oI h1
  obtain rfl : _ = rr0 := ho0
  replace h0 : wJ n5 = some r := h0
  exact aF (aY (aY (bU (aH (⟨rfl, _, .eq (by kernel_rfl), hO, h0⟩)))))

theorem VE (lm : Nat) (los : List (Nat × Nat)) (m : List (Int × aN)) (hl : los.length = m.length) (r : List aI) (f : List aC) (size hop frm front : Int) (out : Bool × List (Int × aN)) (h0 : vO m r f size hop frm front = some out) :
    aDN Try.prog 41 [(.mp lm), (eL aJ r), (eL aK f), (eI size), (eI hop), (eI frm), (eI front)] (pmG shP lm los m) [] (fun x M L => ∃ los' : List (Nat × Nat), los'.length = out.2.length ∧ x = aE out.1 ∧ M = pmG shP lm los' out.2 ∧ L = []) := by
  intro F H0 hO
  obtain ⟨Fh, Fe, Fg⟩ := F
  refine yM aB Try.func41 (by kernel_rfl) (by kernel_rfl) (by kernel_rfl) ?_
  unfold vO at h0
  refine aO ?_
  refine aS aB 8 ?_
  refine fQ 1 (.mp lm) (by kernel_rfl) (by kernel_rfl) ?_
  refine fQ 1 (eL aJ r) (by kernel_rfl) (by kernel_rfl) ?_
  refine fQ 1 (eL aK f) (by kernel_rfl) (by kernel_rfl) ?_
  refine fQ 1 (eI size) (by kernel_rfl) (by kernel_rfl) ?_
  refine fQ 1 (eI hop) (by kernel_rfl) (by kernel_rfl) ?_
  refine fQ 1 (eI frm) (by kernel_rfl) (by kernel_rfl) ?_
  refine fQ 1 (eI front) (by kernel_rfl) (by kernel_rfl) ?_
  refine kK 1 (aE false) (by kernel_rfl) (by kernel_rfl) hO ?_
  intro lo1 H hO
  replace hO : aM ⟨Fh, Fe, pmG shP lm los m ++ Fg⟩ H [(lo1, 1, [(aE false)])] := hO
  refine cX ?_
  refine bB [(7, (.rp (.mp lm))), (8, (.rp (eL aJ r))), (9, (.rp (eL aK f))), (10, (.rp (eI size))), (11, (.rp (eI hop))), (12, (.rp (eI frm))), (13, (.rp (eI front))), (14, (.lp lo1 0 0))] ?_
  refine aO ?_
  refine aO ?_
  refine aS aB 2 ?_
  refine bE 1 ?_
  obtain ⟨x1, hx1, h0⟩ := aW h0
  refine cW (YO f _ hx1) hO ?_
  intro H hO
  refine cX ?_
  refine bB [(7, (.rp (.mp lm))), (8, (.rp (eL aJ r))), (9, (.rp (eL aK f))), (10, (.rp (eI size))), (11, (.rp (eI hop))), (12, (.rp (eI frm))), (13, (.rp (eI front))), (14, (.lp lo1 0 0)), (20, (.fn (.func 73) [] [(.rp (eL aK x1))]))] ?_
  refine bW 0 ?_
  obtain ⟨o0, hl0, h0⟩ := aW h0
  refine vS (fid := 73) (ys := []) (cs := [(.rp (eL aK x1))]) #[21] (fun (A : rN) (b lL : Nat) (st : (Bool × List (Int × aN)) ⊕ (Bool × List (Int × aN))) (G' : Gs) => Sum.elim (fun (s : Bool × List (Int × aN)) => ∃ los : List (Nat × Nat), los.length = s.2.length ∧ G' = (lL, .raw (gL b A .ready none)) :: (up [(lo1, 1, [(aE s.1)])] ++ (pmG shP lm los s.2 ++ Fg))) (fun (s : Bool × List (Int × aN)) => ∃ los : List (Nat × Nat), los.length = s.2.length ∧ G' = (lL, .raw (gL b A .done (some .ret))) :: (up [(lo1, 1, [(aE s.1)])] ++ (pmG shP lm los s.2 ++ Fg))) st) (.inl (false, m)) o0 (.tup []) (by kernel_rfl) (by kernel_rfl) (by kernel_rfl) hO (fun _ _ => ⟨los, hl, rfl⟩) ?_ ?_
  · intro b lL
    clear hO h0
    refine ML _ b (fun st s => rnd (fun (q : Bool × List (Int × aN)) => pG r f size hop frm front q.1 q.2 s) st) ?_ x1 _ _ hl0
    intro st s21 out1 rr hr
    obtain ⟨s, rfl, h1, rfl⟩ := FN hr
    clear hr
    intro Hr Gr hi hg
    obtain ⟨t14, m1⟩ := s
    dsimp only [Sum.elim_inl] at hi
    obtain ⟨los1, hl1, rfl⟩ := hi
    replace h1 : pG r f size hop frm front t14 m1 s21 = some out1 := h1
    unfold pG at h1
    obtain ⟨E1, hE, hO⟩ := oE hg
    refine oG (tM (hO.gm 0 _ rfl).2 (by kernel_rfl) (by kernel_rfl) ?_)
    refine eE [(7, (.rp (.mp lm))), (8, (.rp (eL aJ r))), (9, (.rp (eL aK f))), (10, (.rp (eI size))), (11, (.rp (eI hop))), (12, (.rp (eI frm))), (13, (.rp (eI front))), (14, (.lp lo1 0 0)), (21, (cU s21))] ?_
    refine aS aB 2 ?_
    refine kK 2 (cU (bI.mk 0 0)) (by kernel_rfl) (by kernel_rfl) hO ?_
    intro lo2 H hO
    refine gM 1 lo2 2 0 (cU (bI.mk 0 0)) (cU s21) [(cU (bI.mk 0 0))] [(lo1, 1, [(aE t14)]), (lo2, 2, [(cU s21)])] hO rfl (by kernel_rfl) ?_
    intro H hO
    refine cX ?_
    refine dQ [(7, (.rp (.mp lm))), (8, (.rp (eL aJ r))), (9, (.rp (eL aK f))), (10, (.rp (eI size))), (11, (.rp (eI hop))), (12, (.rp (eI frm))), (13, (.rp (eI front))), (14, (.lp lo1 0 0)), (15, (.lp lo2 0 0))] ?_
    refine aF (⟨rfl, rfl, (hO.gm 0 _ rfl).2, ?_⟩)
    intro o1 ho1
    replace hO := hO.mZ o1
    refine bW 1 ?_
    refine aO ?_
    refine aS aB 6 ?_
    refine bE 2 ?_
    refine iS 1 lo2 2 0 (cU s21) (cU s21) [(cU s21)] hO rfl ?_
    refine bE 5 ?_
    obtain ⟨x2, hx2, h1⟩ := aW h1
    refine cW (UD size hop s21 frm front _ hx2) hO ?_
    intro H hO
    refine cX ?_
    refine bB [(7, (.rp (.mp lm))), (8, (.rp (eL aJ r))), (9, (.rp (eL aK f))), (10, (.rp (eI size))), (11, (.rp (eI hop))), (12, (.rp (eI frm))), (13, (.rp (eI front))), (14, (.lp lo1 0 0)), (27, (.fn (.func 74) [] [(.rp (eI x2.1)), (.rp (cU x2.2.1)), (.rp (eI x2.2.2.1)), (.rp (eI x2.2.2.2.1)), (.rp (eI x2.2.2.2.2))]))] ?_
    replace hO := hO.pick (L' := [(lo1, 1, [(aE t14)])]) [0] (by decide) (by kernel_rfl)
    refine bW 2 ?_
    obtain ⟨oi, hli, h1⟩ := aW h1
    refine aC5 (fid := 74) (ys := []) (cs := [(.rp (eI x2.1)), (.rp (cU x2.2.1)), (.rp (eI x2.2.2.1)), (.rp (eI x2.2.2.2.1)), (.rp (eI x2.2.2.2.2))]) #[28] (fun (A2 : rN) (b2 lL2 : Nat) (st : (Bool × List (Int × aN)) ⊕ (Bool × List (Int × aN))) (G' : Gs) => Sum.elim (fun (s : Bool × List (Int × aN)) => ∃ los : List (Nat × Nat), los.length = s.2.length ∧ G' = (lL2, .raw (gL b2 A2 .ready none)) :: (up [(lo1, 1, [(aE s.1)])] ++ ((lL, o1) :: (pmG shP lm los s.2 ++ Fg)))) (fun (s : Bool × List (Int × aN)) => ∃ los : List (Nat × Nat), los.length = s.2.length ∧ G' = (lL2, .raw (gL b2 A2 .done (some .ret))) :: (up [(lo1, 1, [(aE s.1)])] ++ ((lL, o1) :: (pmG shP lm los s.2 ++ Fg)))) st) (.inl (t14, m1)) oi (.tup []) ((hO.gm 0 _ rfl).2.trans (congrArg some ho1)) (by kernel_rfl) (by kernel_rfl) (by kernel_rfl) hO (fun _ _ => ⟨los1, hl1, rfl⟩) ?_ ?_
    · intro b2 lL2
      clear hO h1
      refine LW _ b2 (fun st t => rnd (fun (q : Bool × List (Int × aN)) => nR r f size q.1 q.2 t) st) ?_ x2.1 x2.2.1 x2.2.2.1 x2.2.2.2.1 x2.2.2.2.2 _ _ hli
      clear hE
      intro st t28 out2 rr hr
      obtain ⟨s, rfl, h2, rfl⟩ := FN hr
      clear hr
      intro Hr2 Gr2 hi hg2
      obtain ⟨t14, m2⟩ := s
      dsimp only [Sum.elim_inl] at hi
      obtain ⟨los2, hl2, rfl⟩ := hi
      replace h2 : nR r f size t14 m2 t28 = some out2 := h2
      unfold nR at h2
      obtain ⟨E2, hE2, hO⟩ := oE hg2
      refine oG (tM (hO.gm 0 _ rfl).2 (by kernel_rfl) (by kernel_rfl) ?_)
      refine eE [(7, (.rp (.mp lm))), (8, (.rp (eL aJ r))), (9, (.rp (eL aK f))), (10, (.rp (eI size))), (11, (.rp (eI hop))), (12, (.rp (eI frm))), (13, (.rp (eI front))), (14, (.lp lo1 0 0)), (28, (eI t28))] ?_
      refine aS aB 1 ?_
      refine aZ ?_
      refine dQ [(7, (.rp (.mp lm))), (8, (.rp (eL aJ r))), (9, (.rp (eL aK f))), (10, (.rp (eI size))), (11, (.rp (eI hop))), (12, (.rp (eI frm))), (13, (.rp (eI front))), (14, (.lp lo1 0 0)), (16, (eI t28))] ?_
      refine aF (⟨rfl, rfl, (hO.gm 0 _ rfl).2, ?_⟩)
      intro o2 ho2
      replace hO := hO.mZ o2
      refine bW 3 ?_
      replace hO : aM ⟨Hr2, E2, (lm, pF sU (pmM los2 m2)) :: (up (pmL shP los2 m2) ++ ((lL2, o2) :: (lL, o1) :: Fg))⟩ _ [(lo1, 1, [(aE t14)])] := hO.pP (List.perm_middle.trans (List.Perm.cons _ List.perm_middle)).symm
      refine aO ?_
      refine aS aB 4 ?_
      refine bE 2 ?_
      refine XL (f := sU) (mty := 79) (ok := false) aB t28 none hO ?_
      refine aZ ?_
      refine bB [(7, (.rp (.mp lm))), (8, (.rp (eL aJ r))), (9, (.rp (eL aK f))), (10, (.rp (eI size))), (11, (.rp (eI hop))), (12, (.rp (eI frm))), (13, (.rp (eI front))), (14, (.lp lo1 0 0)), (16, (eI t28)), (17, (sU ((gH (pmM los2 m2) t28).getD none)))] ?_
      refine eV (fun T H => ∃ (a bb : Nat) (MM : List (Int × Option Nat)) (R : List (Nat × Nat × List V)) (p0 : aN), Has T [(7, (.rp (.mp lm))), (8, (.rp (eL aJ r))), (9, (.rp (eL aK f))), (10, (.rp (eI size))), (11, (.rp (eI hop))), (12, (.rp (eI frm))), (13, (.rp (eI front))), (14, (.lp lo1 0 0)), (17, (.lp a 0 0))] ∧ Put shP m2 t28 a MM R ∧ aM ⟨Hr2, E2, (lm, pF sU MM) :: (up R ++ ((lL2, o2) :: (lL, o1) :: Fg))⟩ H [(a, 3, [(.agg [(eI p0.Span.From), (eI p0.Span.To), (.msl 2 bb 0 (List.length p0.Rows))])]), (bb, 2, List.map bT p0.Rows), (lo1, 1, [(aE t14)])] ∧ ((pH r f p0).bind fun p => some (.inl (t14, fB m2 t28 p))) = some out2) ?_ ?_
      · clear hO h2
        rintro T H ⟨a, bb, MM, R, p0, hT, hP, hO, h2⟩
        refine bF hT ?_
        clear hT
        obtain ⟨p1, hp, h2⟩ := aW h2
        have fin : ∀ (H : aT) (bb : Nat), aM ⟨Hr2, E2, (lm, pF sU MM) :: (up R ++ ((lL2, o2) :: (lL, o1) :: Fg))⟩ H (shP a bb p1 ++ [(lo1, 1, [(aE t14)])]) → ∃ los' : List (Nat × Nat), los'.length = (fB m2 t28 p1).length ∧ aM ⟨Hr2, E2, (lL2, o2) :: ((lL, o1) :: (pmG shP lm los' (fB m2 t28 p1) ++ Fg))⟩ H [(lo1, 1, [(aE t14)])] := by
          intro H bb hO
          obtain ⟨los', hl', hO⟩ := hO.ZG hP
          exact ⟨los', hl', hO.pP (List.perm_middle.trans (List.Perm.cons _ List.perm_middle))⟩
        unfold pH at hp
        refine aO ?_
        refine aS aB 7 ?_
        refine bE 3 ?_
        refine iS 0 a 3 0 (.agg [(eI p0.Span.From), (eI p0.Span.To), (.msl 2 bb 0 (List.length p0.Rows))]) (.msl 2 bb 0 (List.length p0.Rows)) [(.agg [(eI p0.Span.From), (eI p0.Span.To), (.msl 2 bb 0 (List.length p0.Rows))])] hO rfl ?_
        refine aZ ?_
        refine bB [(7, (.rp (.mp lm))), (8, (.rp (eL aJ r))), (9, (.rp (eL aK f))), (10, (.rp (eI size))), (11, (.rp (eI hop))), (12, (.rp (eI frm))), (13, (.rp (eI front))), (14, (.lp lo1 0 0)), (17, (.lp a 0 0)), (18, (eI (wR ((lN p0.Rows) - (1 : Int)))))] ?_
        refine aO ?_
        obtain ⟨c12, hp⟩ := bA hp
        obtain ⟨x13, hx14, hp⟩ := aW hp
        refine fX (fZ [65]) aB 15 ?_
        refine rL (K := fun T H => Has (lift T) [(7, (.rp (.mp lm))), (8, (.rp (eL aJ r))), (9, (.rp (eL aK f))), (10, (.rp (eI size))), (11, (.rp (eI hop))), (12, (.rp (eI frm))), (13, (.rp (eI front))), (14, (.lp lo1 0 0)), (17, (.lp a 0 0)), (18, (eI (wR ((lN p0.Rows) - (1 : Int))))), (68, (aE ((decide ((wR ((lN p0.Rows) - (1 : Int))) < (0 : Int))) || (!x13))))] ∧ aM ⟨Hr2, E2, (lm, pF sU MM) :: (up R ++ ((lL2, o2) :: (lL, o1) :: Fg))⟩ H [(a, 3, [(.agg [(eI p0.Span.From), (eI p0.Span.To), (.msl 2 bb 0 (List.length p0.Rows))])]), (bb, 2, List.map bT p0.Rows), (lo1, 1, [(aE t14)])]) ?_ ?_
        · refine kE 3 ?_
          refine oR (t := 56) (e := decide ((wR ((lN p0.Rows) - (1 : Int))) < (0 : Int))) (by kernel_rfl) (fun hg15 => ?_) (fun hg15 => ?_)
          · refine kJ ?_
            exact ⟨⟨[(7, (.rp (.mp lm))), (8, (.rp (eL aJ r))), (9, (.rp (eL aK f))), (10, (.rp (eI size))), (11, (.rp (eI hop))), (12, (.rp (eI frm))), (13, (.rp (eI front))), (14, (.lp lo1 0 0)), (17, (.lp a 0 0)), (18, (eI (wR ((lN p0.Rows) - (1 : Int))))), (68, (aE true))], by kernel_rfl, rfl, ⟨aQ.refl _, aQ.refl _, aQ.refl _, aQ.refl _, aQ.refl _, aQ.refl _, aQ.refl _, aQ.refl _, aQ.refl _, aQ.refl _, aQ.eq (congrArg aE (by rw [hg15]; rfl)), trivial⟩⟩, hO⟩
          · refine kE 6 ?_
            refine iZ 0 a 3 0 (.agg [(eI p0.Span.From), (eI p0.Span.To), (.msl 2 bb 0 (List.length p0.Rows))]) (.msl 2 bb 0 (List.length p0.Rows)) [(.agg [(eI p0.Span.From), (eI p0.Span.To), (.msl 2 bb 0 (List.length p0.Rows))])] (by kernel_rfl) (by kernel_rfl) (by kernel_rfl) hO (by kernel_rfl) rfl ?_
            have c13 := c12 (by rw [hg15]; rfl)
            refine cJ 10 [0 ≤ (wR ((lN p0.Rows) - (1 : Int))) ∧ (wR ((lN p0.Rows) - (1 : Int))) < (lN p0.Rows)] ⟨c13, trivial⟩ ?_
            refine iZ 1 bb 2 (0 + Int.toNat (wR ((lN p0.Rows) - (1 : Int)))) (bT (gD p0.Rows (wR ((lN p0.Rows) - (1 : Int))))) (eL aJ ((gD p0.Rows (wR ((lN p0.Rows) - (1 : Int)))).Row)) (List.map bT p0.Rows) (by kernel_rfl) (by kernel_rfl) (by kernel_rfl) hO (by kernel_rfl) (bZ c13) ?_
            refine kE 12 ?_
            refine pV 62 [(eL aJ ((gD p0.Rows (wR ((lN p0.Rows) - (1 : Int)))).Row)), (eL aJ r)] (aE x13) (by kernel_rfl) (by kernel_rfl) (NN ((gD p0.Rows (wR ((lN p0.Rows) - (1 : Int)))).Row) r _ (jP hx14 (by rw [hg15]; rfl))) hO ?_
            intro H hO
            refine kJ ?_
            exact ⟨⟨[(7, (.rp (.mp lm))), (8, (.rp (eL aJ r))), (9, (.rp (eL aK f))), (10, (.rp (eI size))), (11, (.rp (eI hop))), (12, (.rp (eI frm))), (13, (.rp (eI front))), (14, (.lp lo1 0 0)), (17, (.lp a 0 0)), (18, (eI (wR ((lN p0.Rows) - (1 : Int))))), (68, (aE (!x13)))], by kernel_rfl, rfl, ⟨aQ.refl _, aQ.refl _, aQ.refl _, aQ.refl _, aQ.refl _, aQ.refl _, aQ.refl _, aQ.refl _, aQ.refl _, aQ.refl _, aQ.eq (congrArg aE (by rw [hg15]; rfl)), trivial⟩⟩, hO⟩
        · rintro T H ⟨hT, hO⟩
          refine dH hT ?_
          clear hT
          refine aF (aH ?_)
          refine bJ hp (fun hp => ?_) (fun hp => ?_)
          · obtain ⟨x15, hx15, hp⟩ := aW hp
            obtain ⟨x16, hx16, hp⟩ := aW hp
            obtain ⟨c17, hp⟩ := bA hp
            refine fX (fZ [74, 75, 76, 81, 83, 84]) aB 19 ?_
            refine kE 4 ?_
            refine fU 0 a 3 0 (.agg [(eI p0.Span.From), (eI p0.Span.To), (.msl 2 bb 0 (List.length p0.Rows))]) (.msl 2 bb 0 (List.length p0.Rows)) [(.agg [(eI p0.Span.From), (eI p0.Span.To), (.msl 2 bb 0 (List.length p0.Rows))])] hO rfl ?_
            refine kE 6 ?_
            refine zW (GY r _ hx15) hO ?_
            intro H hO
            refine kE 11 ?_
            refine fU 0 a 3 0 (.agg [(eI p0.Span.From), (eI p0.Span.To), (.msl 2 bb 0 (List.length p0.Rows))]) (cU p0.Span) [(.agg [(eI p0.Span.From), (eI p0.Span.To), (.msl 2 bb 0 (List.length p0.Rows))])] hO rfl ?_
            refine zW (SW f p0.Span _ hx16) hO ?_
            intro H hO
            refine kE 14 ?_
            refine TK (xs := [(bT (bG.mk x15 x16))]) (k := 2) (by kernel_rfl) (by kernel_rfl) ?_
            refine JT (e := bT) p0.Rows ([bG.mk x15 x16]) 1 bb 2 32 (eW [(bT (bG.mk x15 x16))]) (fun bc => [(a, 3, [(.agg [(eI p0.Span.From), (eI p0.Span.To), (.msl 2 bb 0 (List.length p0.Rows))])]), (bc, 2, List.map bT (p0.Rows ++ ([bG.mk x15 x16]))), (lo1, 1, [(aE t14)])]) (by kernel_rfl) (by kernel_rfl) hO (by kernel_rfl) (by kernel_rfl) c17 (fun _ => by kernel_rfl) ?_
            intro bc H hO
            refine kE 18 ?_
            refine kS 0 a 3 0 (.agg [(eI p0.Span.From), (eI p0.Span.To), (.msl 2 bb 0 (List.length p0.Rows))]) (.agg [(eI p0.Span.From), (eI p0.Span.To), (.msl 2 bc 0 (List.length (p0.Rows ++ ([bG.mk x15 x16]))))]) [(.agg [(eI p0.Span.From), (eI p0.Span.To), (.msl 2 bb 0 (List.length p0.Rows))])] [(a, 3, [(.agg [(eI p0.Span.From), (eI p0.Span.To), (.msl 2 bc 0 (List.length (p0.Rows ++ ([bG.mk x15 x16]))))])]), (bc, 2, List.map bT (p0.Rows ++ ([bG.mk x15 x16]))), (lo1, 1, [(aE t14)])] hO rfl (by kernel_rfl) ?_
            intro H hO
            refine nE (by kernel_rfl) ?_
            obtain rfl := oI hp
            refine dQ [(7, (.rp (.mp lm))), (8, (.rp (eL aJ r))), (9, (.rp (eL aK f))), (10, (.rp (eI size))), (11, (.rp (eI hop))), (12, (.rp (eI frm))), (13, (.rp (eI front))), (14, (.lp lo1 0 0))] ?_
            obtain ⟨los', hl', hO⟩ := fin H bc hO
            obtain rfl := oI h2
            exact aF (aV (⟨(cZ hO hE2 ho2 .dead).1, rfl, _, ⟨los', hl', rfl⟩, (cZ hO hE2 ho2 _).2⟩))
          · refine bM ?_
            obtain rfl := oI hp
            refine dQ [(7, (.rp (.mp lm))), (8, (.rp (eL aJ r))), (9, (.rp (eL aK f))), (10, (.rp (eI size))), (11, (.rp (eI hop))), (12, (.rp (eI frm))), (13, (.rp (eI front))), (14, (.lp lo1 0 0))] ?_
            obtain ⟨los', hl', hO⟩ := fin H bb hO
            obtain rfl := oI h2
            exact aF (aV (⟨(cZ hO hE2 ho2 .dead).1, rfl, _, ⟨los', hl', rfl⟩, (cZ hO hE2 ho2 _).2⟩))
      cases hg : gH m2 t28 with
      | none =>
        rw [hg] at h2
        replace h2 : cond (decide ((lN m2) = (1024 : Int))) (some (.inr (false, m2))) ((pH r f (aN.mk (bI.mk t28 (if (1125899906842624 : Int) < (wR (t28 + size)) then (1125899906842624 : Int) else (wR (t28 + size)))) [])).bind fun p => some (.inl (t14, fB m2 t28 p))) = some out2 := h2
        rw [aAh hg]
        refine eE [(7, (.rp (.mp lm))), (8, (.rp (eL aJ r))), (9, (.rp (eL aK f))), (10, (.rp (eI size))), (11, (.rp (eI hop))), (12, (.rp (eI frm))), (13, (.rp (eI front))), (14, (.lp lo1 0 0)), (16, (eI t28)), (17, (.lit (.pointer none)))] ?_
        refine aO ?_
        refine aS aB 2 ?_
        refine bE 1 ?_
        refine XH true ?_
        refine cX ?_
        refine bB [(7, (.rp (.mp lm))), (8, (.rp (eL aJ r))), (9, (.rp (eL aK f))), (10, (.rp (eI size))), (11, (.rp (eI hop))), (12, (.rp (eI frm))), (13, (.rp (eI front))), (14, (.lp lo1 0 0)), (16, (eI t28)), (33, (aE true))] ?_
        refine mJ (true) (fun hc => ?_) (fun hc => by cases hc)
        refine aO ?_
        refine aO ?_
        refine aS aB 3 ?_
        refine bE 1 ?_
        refine KY (mty := 79) hO ?_
        rw [PG hl2]
        refine aZ ?_
        refine bB [(7, (.rp (.mp lm))), (8, (.rp (eL aJ r))), (9, (.rp (eL aK f))), (10, (.rp (eI size))), (11, (.rp (eI hop))), (12, (.rp (eI frm))), (13, (.rp (eI front))), (14, (.lp lo1 0 0)), (16, (eI t28)), (36, (aE (decide ((lN m2) = (1024 : Int)))))] ?_
        refine bJ h2 (fun h2 => ?_) (fun h2 => ?_)
        · refine aO ?_
          refine aS aB 1 ?_
          refine gM 0 lo1 1 0 (aE t14) (aE false) [(aE t14)] [(lo1, 1, [(aE false)])] hO rfl (by kernel_rfl) ?_
          intro H hO
          refine cX ?_
          refine bB [(14, (.lp lo1 0 0))] ?_
          refine bH ?_
          obtain rfl := oI h2
          replace hO : aM ⟨Hr2, E2, (lL2, o2) :: ((lL, o1) :: (pmG shP lm los2 m2 ++ Fg))⟩ H [(lo1, 1, [(aE false)])] := (show aM ⟨Hr2, E2, pmG shP lm los2 m2 ++ ((lL2, o2) :: (lL, o1) :: Fg)⟩ H [(lo1, 1, [(aE false)])] from hO).pP (List.perm_middle.trans (List.Perm.cons _ List.perm_middle))
          exact aF (aU (aU (bD (⟨(cZ hO hE2 ho2 .dead).1, rfl, _, ⟨los2, hl2, rfl⟩, (cZ hO hE2 ho2 _).2⟩))))
        refine bM ?_
        refine bB [(7, (.rp (.mp lm))), (8, (.rp (eL aJ r))), (9, (.rp (eL aK f))), (10, (.rp (eI size))), (11, (.rp (eI hop))), (12, (.rp (eI frm))), (13, (.rp (eI front))), (14, (.lp lo1 0 0)), (16, (eI t28))] ?_
        refine aO ?_
        refine aS aB 9 ?_
        refine bE 7 ?_
        refine kK 3 (.agg [(eI (bI.mk t28 (if (1125899906842624 : Int) < (wR (t28 + size)) then (1125899906842624 : Int) else (wR (t28 + size)))).From), (eI (bI.mk t28 (if (1125899906842624 : Int) < (wR (t28 + size)) then (1125899906842624 : Int) else (wR (t28 + size)))).To), (.sl true 0 (fun _ => .bad))]) (by kernel_rfl) (by kernel_rfl) hO ?_
        intro lo3 H hO
        refine aZ ?_
        refine aBI 1 3 lo3 2 2 [(eI (bI.mk t28 (if (1125899906842624 : Int) < (wR (t28 + size)) then (1125899906842624 : Int) else (wR (t28 + size)))).From), (eI (bI.mk t28 (if (1125899906842624 : Int) < (wR (t28 + size)) then (1125899906842624 : Int) else (wR (t28 + size)))).To), (.sl true 0 (fun _ => .bad))] (fun _ => .bad) (fun lo4 => [(lo1, 1, [(aE t14)]), (lo3, 3, [(.agg [(eI (bI.mk t28 (if (1125899906842624 : Int) < (wR (t28 + size)) then (1125899906842624 : Int) else (wR (t28 + size)))).From), (eI (bI.mk t28 (if (1125899906842624 : Int) < (wR (t28 + size)) then (1125899906842624 : Int) else (wR (t28 + size)))).To), (.msl 2 lo4 0 0)])]), (lo4, 2, [])]) hO (by kernel_rfl) (by kernel_rfl) (fun _ => by kernel_rfl) ?_
        intro lo4 H hO
        refine bB [(7, (.rp (.mp lm))), (8, (.rp (eL aJ r))), (9, (.rp (eL aK f))), (10, (.rp (eI size))), (11, (.rp (eI hop))), (12, (.rp (eI frm))), (13, (.rp (eI front))), (14, (.lp lo1 0 0)), (16, (eI t28)), (17, (.lp lo3 0 0))] ?_
        refine aS aB 4 ?_
        refine bE 3 ?_
        refine LJ (f := sU) (mty := 79) t28 (some lo3) hO ?_
        intro H hO
        refine cX ?_
        replace hO := hO.pick (L' := [(lo3, 3, [(.agg [(eI (bI.mk t28 (if (1125899906842624 : Int) < (wR (t28 + size)) then (1125899906842624 : Int) else (wR (t28 + size)))).From), (eI (bI.mk t28 (if (1125899906842624 : Int) < (wR (t28 + size)) then (1125899906842624 : Int) else (wR (t28 + size)))).To), (.msl 2 lo4 0 0)])]), (lo4, 2, []), (lo1, 1, [(aE t14)])]) [1, 2, 0] (by decide) (by kernel_rfl)
        exact aF (aH ⟨rfl, lo3, lo4, _, _, (aN.mk (bI.mk t28 (if (1125899906842624 : Int) < (wR (t28 + size)) then (1125899906842624 : Int) else (wR (t28 + size)))) []), .eq (by kernel_rfl), aBG hl2 hg, hO, h2⟩)
      | some p0 =>
        rw [hg] at h2
        obtain ⟨a, bb, R, e1, hP, hO⟩ := aM.focus (sh := shP) (los := los2) (m := m2) (G := (lL2, o2) :: (lL, o1) :: Fg) hO hl2 hg
        rw [e1]
        refine eE [(7, (.rp (.mp lm))), (8, (.rp (eL aJ r))), (9, (.rp (eL aK f))), (10, (.rp (eI size))), (11, (.rp (eI hop))), (12, (.rp (eI frm))), (13, (.rp (eI front))), (14, (.lp lo1 0 0)), (16, (eI t28)), (17, (.lp a 0 0))] ?_
        refine aO ?_
        refine aS aB 2 ?_
        refine bE 1 ?_
        refine XH false ?_
        refine cX ?_
        refine bB [(7, (.rp (.mp lm))), (8, (.rp (eL aJ r))), (9, (.rp (eL aK f))), (10, (.rp (eI size))), (11, (.rp (eI hop))), (12, (.rp (eI frm))), (13, (.rp (eI front))), (14, (.lp lo1 0 0)), (16, (eI t28)), (17, (.lp a 0 0)), (33, (aE false))] ?_
        refine mJ (false) (fun hc => by cases hc) (fun hc => ?_)
        refine bM ?_
        exact aF (aH ⟨rfl, a, bb, _, R, p0, .eq (by kernel_rfl), hP, hO, h2⟩)
    · intro b2 lL2 H' G' hi hO
      rcases oi with s | s
      · dsimp only [Sum.elim_inl] at hi
        obtain ⟨los2, hl2, rfl⟩ := hi
        obtain rfl := oI h1
        obtain ⟨hlL, hO⟩ := KN hO
        refine ⟨_, _, hlL, (by intro e; cases e), ?_⟩
        refine dQ [(7, (.rp (.mp lm))), (8, (.rp (eL aJ r))), (9, (.rp (eL aK f))), (10, (.rp (eI size))), (11, (.rp (eI hop))), (12, (.rp (eI frm))), (13, (.rp (eI front))), (14, (.lp lo1 0 0))] ?_
        exact aF (aV (aV (⟨(cZ hO hE ho1 .dead).1, rfl, _, ⟨los2, hl2, rfl⟩, (cZ hO hE ho1 _).2⟩)))
      · dsimp only [Sum.elim_inr] at hi
        obtain ⟨los2, hl2, rfl⟩ := hi
        obtain rfl := oI h1
        obtain ⟨hlL, hO⟩ := KN hO
        refine ⟨_, _, hlL, (by intro e; cases e), ?_⟩
        refine bH ?_
        exact aF (bD (bD (⟨(cZ hO hE ho1 .dead).1, rfl, _, ⟨los2, hl2, rfl⟩, (cZ hO hE ho1 _).2⟩)))
  · intro b lD lL H' G' hi hO
    rcases o0 with s | s
    · dsimp only [Sum.elim_inl] at hi
      obtain ⟨los1, hl1, rfl⟩ := hi
      obtain rfl := oI h0
      obtain ⟨hlL, hO⟩ := lY hO
      refine ⟨_, _, hlL, (by intro e; cases e), ?_⟩
      refine dQ [(14, (.lp lo1 0 0))] ?_
      refine aF (aV (aH (?_)))
      refine aO ?_
      refine aS aB 1 ?_
      refine gM 0 lo1 1 0 (aE s.1) (aE true) [(aE s.1)] [(lo1, 1, [(aE true)])] hO rfl (by kernel_rfl) ?_
      intro H hO
      refine cX ?_
      refine bB [(14, (.lp lo1 0 0))] ?_
      refine bH ?_
      have hD := (hO.gm 0 _ rfl).2
      replace hO := (hO.mZ .dead).nC
      exact aF (QM1 (.inr rfl) hD (rs := [.cell 14 4]) (xs := [(aE true)]) (x := (aE true)) (by kernel_rfl) (lH (lo := lo1) (k := 1) (y := (aE true)) (x := (aE true)) 0 hO (by kernel_rfl) (by kernel_rfl) (by kernel_rfl) (by kernel_rfl) mT) (by kernel_rfl) ⟨_, [], ⟨los1, hl1, rfl, rfl, rfl⟩, hO.pick (L' := []) [] (by decide) (by kernel_rfl)⟩)
    · dsimp only [Sum.elim_inr] at hi
      obtain ⟨los1, hl1, rfl⟩ := hi
      obtain rfl := oI h0
      obtain ⟨hlL, hO⟩ := lY hO
      refine ⟨_, _, hlL, (by intro e; cases e), ?_⟩
      refine bH ?_
      refine aF (bD (aU ?_))
      have hD := (hO.gm 0 _ rfl).2
      replace hO := (hO.mZ .dead).nC
      exact QM1 (.inr rfl) hD (rs := [.cell 14 4]) (xs := [(aE s.1)]) (x := (aE s.1)) (by kernel_rfl) (lH (lo := lo1) (k := 1) (y := (aE s.1)) (x := (aE s.1)) 0 hO (by kernel_rfl) (by kernel_rfl) (by kernel_rfl) (by kernel_rfl) mT) (by kernel_rfl) ⟨_, [], ⟨los1, hl1, rfl, rfl, rfl⟩, hO.pick (L' := []) [] (by decide) (by kernel_rfl)⟩

end Go.Abs
