/- What the law WindowForgets stands on: the framework, the given functions as plain functions, their walks, and the plain laws; part 4. -/
import Derived.Test.YteecjdpicjpnfabWindowForgetsZ3
set_option linter.unusedSimpArgs false
set_option linter.unusedVariables false
namespace Go.Abs
open Go Go.RowKit Go.Proofs
theorem BK (lo0p : Nat) (aA : (List Int)) (a1 : Int) (b2 : Int) (r : List Int) (h0 : kE aA a1 b2 = some r) : rF Try.prog 76 lo0p 1 (List.map (eI) aA) (List.map (eI) r) [(.msl 1 lo0p 0 (List.length aA)), (eI a1), (eI b2)] (.tup []) := by
 intro H0 hl0
 refine cY Try.func76 ?_
 have hO := aM.tH hl0
 clear hl0
 obtain ⟨N0, hN0⟩ : ∃ n, n = List.length aA := ⟨_, rfl⟩
 have hN : List.length aA = N0 := hN0.symm
 unfold kE at h0
 refine aX aC 2 [] [(6, (eI a1))] ?_
 refine aX aC 1 [] [(7, (eI (0 : Int)))] ?_
 refine aX aC 4 [1, 2] [(8, (eI (wR (b2 - a1))))] ?_
 refine eR (fun T H => ∃ aA : List Int, ∃ bT : Int, ∃ lo7 : Int, ∃ hi8 : Int, Has T [(0, (.msl 1 lo0p 0 (List.length aA))), (6, (eI bT)), (7, (eI lo7)), (8, (eI hi8))] ∧ aM ⟨H0, [lo0p], []⟩ H [(lo0p, 1, List.map (eI) aA)] ∧ List.length aA = N0 ∧ jV aA bT lo7 hi8 = some r) ?_ ?_
 ·clear hO hN h0
  rintro T H ⟨aA, bT, lo7, hi8, hT, hO, hN, h0⟩
  refine bF hT ?_
  clear hT
  unfold jV at h0
  refine aX aC 3 [8] [(10, (eI (wR (hi8 - (1 : Int)))))] ?_
  refine bX 2 ?_
  refine eD [(0, (.msl 1 lo0p 0 (List.length aA))), (6, (eI bT)), (7, (eI lo7)), (10, (eI (wR (hi8 - (1 : Int)))))] ?_
  refine eE (fun T H => ∃ aA : List Int, ∃ i10 : Int, Has T [(0, (.msl 1 lo0p 0 (List.length aA))), (6, (eI bT)), (7, (eI lo7)), (10, (eI i10))] ∧ aM ⟨H0, [lo0p], []⟩ H [(lo0p, 1, List.map (eI) aA)] ∧ List.length aA = N0 ∧ lU aA bT lo7 i10 = some r) ?_ ⟨aA, wR (hi8 - (1 : Int)), .eq (by kernel_rfl), hO, hN, h0⟩
  clear hO hN h0
  rintro T H ⟨aA, i10, hT, hO, hN, h0⟩
  refine bF hT ?_
  clear hT
  unfold lU at h0
  obtain ⟨rr0, hl0, h0⟩ := aW h0
  refine dK (by kernel_rfl) (fun (s : List Int × Int) T H => Has T [(0, (.msl 1 lo0p 0 (List.length s.1))), (6, (eI bT)), (7, (eI lo7)), (10, (eI s.2))] ∧ aM ⟨H0, [lo0p], []⟩ H [(lo0p, 1, List.map (eI) s.1)] ∧ List.length s.1 = N0) hl0 ⟨.eq (by kernel_rfl), hO, hN⟩ ?_
  clear hO hN
  rintro k0 s out1 T H ⟨hT, hO, hN⟩ h1 ho0
  obtain ⟨aA, i10⟩ := s
  replace h1 : eG bT lo7 aA i10 = some out1 := h1
  try dsimp only at hT
  refine bF hT ?_
  clear hT
  unfold eG at h1
  refine aO ?_
  refine aX aC 2 [] [(30, (aD (decide ((0 : Int) ≤ i10))))] ?_
  refine bK h1 (fun h1 => ?_) (fun h1 => ?_)
  ·refine bN ?_
   refine bD [(0, (.msl 1 lo0p 0 (List.length aA))), (6, (eI bT)), (7, (eI lo7)), (10, (eI i10))] ?_
   refine aO ?_
   refine bX 3 ?_
   refine aO ?_
   refine fS (fR []) aC 20 ?_
   obtain ⟨c2, h1⟩ := aZ h1
   refine cJ 11 [0 ≤ (wR (bT + i10)) ∧ (wR (bT + i10)) < (lN aA)] ⟨c2, trivial⟩ ?_
   refine fY 0 lo0p 1 (0 + Int.toNat (wR (bT + i10))) (eI (gD aA (wR (bT + i10)))) (eI (gD aA (wR (bT + i10)))) (List.map (eI) aA) hO (cA c2) ?_
   obtain ⟨c3, h1⟩ := aZ h1
   refine cJ 15 [0 ≤ bT ∧ bT < (lN aA)] ⟨c3, trivial⟩ ?_
   refine fY 0 lo0p 1 (0 + Int.toNat bT) (eI (gD aA bT)) (eI (gD aA bT)) (List.map (eI) aA) hO (cA c3) ?_
   obtain ⟨c4, h1⟩ := aZ h1
   refine cJ 17 [0 ≤ bT ∧ bT < (lN aA)] ⟨c4, trivial⟩ ?_
   refine kZ 0 lo0p 1 (0 + Int.toNat bT) (eI (gD aA bT)) (eI (gD aA (wR (bT + i10)))) (List.map (eI) aA) [(lo0p, 1, List.map (eI) (List.set aA (Int.toNat bT) (gD aA (wR (bT + i10)))))] hO (cA c4) (by simp only [List.set, iI]) ?_
   intro H hO
   replace hN : List.length (List.set aA (Int.toNat bT) (gD aA (wR (bT + i10)))) = N0 := by simpa using hN
   obtain ⟨c5, h1⟩ := aZ h1
   refine cJ 19 [0 ≤ (wR (bT + i10)) ∧ (wR (bT + i10)) < (lN aA)] ⟨c5, trivial⟩ ?_
   refine kZ 0 lo0p 1 (0 + Int.toNat (wR (bT + i10))) (eI (gD (List.set aA (Int.toNat bT) (gD aA (wR (bT + i10)))) (wR (bT + i10)))) (eI (gD aA bT)) (List.map (eI) (List.set aA (Int.toNat bT) (gD aA (wR (bT + i10))))) [(lo0p, 1, List.map (eI) (List.set (List.set aA (Int.toNat bT) (gD aA (wR (bT + i10)))) (Int.toNat (wR (bT + i10))) (gD aA bT)))] hO (oS c5 (by simp [])) (by simp only [List.set, iI]) ?_
   intro H hO
   replace hN : List.length (List.set (List.set aA (Int.toNat bT) (gD aA (wR (bT + i10)))) (Int.toNat (wR (bT + i10))) (gD aA bT)) = N0 := by simpa using hN
   refine nO (by kernel_rfl) ?_
   refine dJ (l := [(0, (.msl 1 lo0p 0 (List.length (List.set (List.set aA (Int.toNat bT) (gD aA (wR (bT + i10)))) (Int.toNat (wR (bT + i10))) (gD aA bT))))), (6, (eI bT)), (7, (eI lo7)), (10, (eI i10))]) ⟨[(0, (.msl 1 lo0p 0 (List.length aA))), (6, (eI bT)), (7, (eI lo7)), (10, (eI i10))], by kernel_rfl, rfl, ⟨aR.eq (by simp []), aR.refl _, aR.refl _, aR.refl _, trivial⟩⟩ ?_
   refine aF (aG (?_))
   refine aS aC 5 ?_
   refine bI 4 ?_
   obtain ⟨x6, hx7, h1⟩ := aW h1
   refine zF [(lo0p, 1, List.map (eI) x6)] 0 (sZ lo0p (List.set (List.set aA (Int.toNat bT) (gD aA (wR (bT + i10)))) (Int.toNat (wR (bT + i10))) (gD aA bT)) lo7 i10 bT _ hx7) hO ?_
   intro H hO hl8
   simp only [List.length_map] at hl8
   replace hN := hl8.trans hN
   refine dG ?_
   refine dJ (l := [(0, (.msl 1 lo0p 0 (List.length x6))), (6, (eI bT)), (7, (eI lo7)), (10, (eI i10))]) ⟨[(0, (.msl 1 lo0p 0 (List.length (List.set (List.set aA (Int.toNat bT) (gD aA (wR (bT + i10)))) (Int.toNat (wR (bT + i10))) (gD aA bT))))), (6, (eI bT)), (7, (eI lo7)), (10, (eI i10))], by kernel_rfl, rfl, ⟨aR.eq (by simp [hl8]), aR.refl _, aR.refl _, aR.refl _, trivial⟩⟩ ?_
   refine aF (aV (aG (?_)))
   refine aS aC 3 ?_
   refine bA ?_
   exact aF (aG (⟨rfl, _, (oI h1).symm, .eq (by kernel_rfl), hO, hN⟩))
  refine gJ 2 ?_
  obtain rfl := oI h1
  obtain rfl : _ = rr0 := ho0
  replace h0 : some aA = some r := h0
  obtain rfl := oI h0
  exact aF (aY (aY (bV (yU (x := (.tup [])) (by kernel_rfl) (aR.refl _) ⟨rfl, hO.ext, hO.at 0 (by kernel_rfl), by first | rfl | (simp only [List.length_map]; exact hN.trans hN0)⟩))))
 refine aO ?_
 refine aS aC 4 ?_
 obtain ⟨c9, h0⟩ := aZ h0
 refine pZ [(2 : Int) ≠ 0] ⟨c9, trivial⟩ ?_
 refine bP [] [(9, (eI (wR (Int.tdiv (wR ((wR (b2 - a1)) - (1 : Int))) (2 : Int)))))] ?_
 refine bX 0 ?_
 refine eD [(0, (.msl 1 lo0p 0 (List.length aA))), (6, (eI a1)), (7, (eI (0 : Int))), (8, (eI (wR (b2 - a1)))), (9, (eI (wR (Int.tdiv (wR ((wR (b2 - a1)) - (1 : Int))) (2 : Int)))))] ?_
 refine eE (fun T H => ∃ aA : List Int, ∃ bT : Int, ∃ lo7 : Int, ∃ hi8 : Int, ∃ i9 : Int, Has T [(0, (.msl 1 lo0p 0 (List.length aA))), (6, (eI bT)), (7, (eI lo7)), (8, (eI hi8)), (9, (eI i9))] ∧ aM ⟨H0, [lo0p], []⟩ H [(lo0p, 1, List.map (eI) aA)] ∧ List.length aA = N0 ∧ lS aA bT lo7 hi8 i9 = some r) ?_ ⟨aA, a1, (0 : Int), wR (b2 - a1), wR (Int.tdiv (wR ((wR (b2 - a1)) - (1 : Int))) (2 : Int)), .eq (by kernel_rfl), hO, hN, h0⟩
 clear hO hN h0
 rintro T H ⟨aA, bT, lo7, hi8, i9, hT, hO, hN, h0⟩
 refine bF hT ?_
 clear hT
 unfold lS at h0
 obtain ⟨rr0, hl0, h0⟩ := aW h0
 refine dK (by kernel_rfl) (fun (s : List Int × Int) T H => Has T [(0, (.msl 1 lo0p 0 (List.length s.1))), (6, (eI bT)), (7, (eI lo7)), (8, (eI hi8)), (9, (eI s.2))] ∧ aM ⟨H0, [lo0p], []⟩ H [(lo0p, 1, List.map (eI) s.1)] ∧ List.length s.1 = N0) hl0 ⟨.eq (by kernel_rfl), hO, hN⟩ ?_
 clear hO hN
 rintro k0 s out1 T H ⟨hT, hO, hN⟩ h1 ho0
 obtain ⟨aA, i9⟩ := s
 replace h1 : eH bT lo7 hi8 aA i9 = some out1 := h1
 try dsimp only at hT
 refine bF hT ?_
 clear hT
 unfold eH at h1
 refine aO ?_
 refine aX aC 2 [] [(19, (aD (decide ((0 : Int) ≤ i9))))] ?_
 refine bK h1 (fun h1 => ?_) (fun h1 => ?_)
 ·refine bN ?_
  refine bD [(0, (.msl 1 lo0p 0 (List.length aA))), (6, (eI bT)), (7, (eI lo7)), (8, (eI hi8)), (9, (eI i9))] ?_
  refine aO ?_
  refine bX 1 ?_
  refine aS aC 5 ?_
  refine bI 4 ?_
  obtain ⟨x11, hx12, h1⟩ := aW h1
  refine zF [(lo0p, 1, List.map (eI) x11)] 0 (sZ lo0p aA i9 hi8 bT _ hx12) hO ?_
  intro H hO hl13
  simp only [List.length_map] at hl13
  replace hN := hl13.trans hN
  refine dG ?_
  refine dJ (l := [(0, (.msl 1 lo0p 0 (List.length x11))), (6, (eI bT)), (7, (eI lo7)), (8, (eI hi8)), (9, (eI i9))]) ⟨[(0, (.msl 1 lo0p 0 (List.length aA))), (6, (eI bT)), (7, (eI lo7)), (8, (eI hi8)), (9, (eI i9))], by kernel_rfl, rfl, ⟨aR.eq (by simp [hl13]), aR.refl _, aR.refl _, aR.refl _, aR.refl _, trivial⟩⟩ ?_
  refine aF (aV (aG (?_)))
  refine aS aC 3 ?_
  refine bA ?_
  exact aF (aG (⟨rfl, _, (oI h1).symm, .eq (by kernel_rfl), hO, hN⟩))
 refine gJ 0 ?_
 obtain rfl := oI h1
 obtain rfl : _ = rr0 := ho0
 replace h0 : jV aA bT lo7 hi8 = some r := h0
 exact aF (aY (aY (bV (aG (⟨rfl, _, _, _, _, .eq (by kernel_rfl), hO, hN, h0⟩)))))

theorem EU (GO : Int) (r : Int) (h0 : mH GO = some r) : cZ Try.prog 94 [(eI GO)] (cR .u64 r) := by
 intro H0
 refine cY Try.func94 ?_
 have hO := aM.start H0
 unfold mH at h0
 refine aX aC 1 [] [] ?_
 refine aO ?_
 refine aS aC 5 ?_
 refine bI 2 ?_
 obtain ⟨x1, hx2, h0⟩ := aW h0
 refine cX (FU (IntKind.u64.wrap GO) _ hx2) hO ?_
 intro H hO
 obtain ⟨c4, h0⟩ := aZ h0
 refine pZ [0 ≤ x1] ⟨c4, trivial⟩ ?_
 refine bD [(2, (cR .u64 (IntKind.u64.wrap ((1 : Int) * 2 ^ (min (Int.toNat x1) 64)))))] ?_
 refine bG ?_
 obtain rfl := oI h0
 exact aF (Q_r hO)

theorem FV (lo0p : Nat) (r0 : Int) (r : (Int × Int)) (h0 : mS r0 = some r) : LJ Try.prog 95 [(.lp lo0p 0 0)] [(lo0p, 1, [(cR .u64 r0)])] (fun x L => x = (cR .u64 r.1) ∧ L = [(lo0p, 1, [(cR .u64 r.2)])]) := by
 intro F H0 hO
 obtain ⟨Fh, Fe, Fg⟩ := F
 refine cY Try.func95 ?_
 unfold mS at h0
 refine aX aC 1 [] [] ?_
 refine aO ?_
 refine fS (fR []) aC 10 ?_
 refine kJ 2 ?_
 refine fY 0 lo0p 1 0 (cR .u64 r0) (cR .u64 r0) [(cR .u64 r0)] hO rfl ?_
 refine kJ 5 ?_
 refine fY 0 lo0p 1 0 (cR .u64 r0) (cR .u64 r0) [(cR .u64 r0)] hO rfl ?_
 obtain ⟨c1, h0⟩ := aZ h0
 refine cJ 9 [0 ≤ (13 : Int)] ⟨c1, trivial⟩ ?_
 refine kZ 0 lo0p 1 0 (cR .u64 r0) (cR .u64 (bS .xor .u64 r0 (IntKind.u64.wrap (r0 * 2 ^ (min (Int.toNat (13 : Int)) 64))))) [(cR .u64 r0)] [(lo0p, 1, [(cR .u64 (bS .xor .u64 r0 (IntKind.u64.wrap (r0 * 2 ^ (min (Int.toNat (13 : Int)) 64)))))])] hO rfl (by kernel_rfl) ?_
 intro H hO
 refine nO (by kernel_rfl) ?_
 refine bP [] [] ?_
 refine aO ?_
 refine fS (fR []) aC 10 ?_
 refine kJ 2 ?_
 refine fY 0 lo0p 1 0 (cR .u64 (bS .xor .u64 r0 (IntKind.u64.wrap (r0 * 2 ^ (min (Int.toNat (13 : Int)) 64))))) (cR .u64 (bS .xor .u64 r0 (IntKind.u64.wrap (r0 * 2 ^ (min (Int.toNat (13 : Int)) 64))))) [(cR .u64 (bS .xor .u64 r0 (IntKind.u64.wrap (r0 * 2 ^ (min (Int.toNat (13 : Int)) 64)))))] hO rfl ?_
 refine kJ 5 ?_
 refine fY 0 lo0p 1 0 (cR .u64 (bS .xor .u64 r0 (IntKind.u64.wrap (r0 * 2 ^ (min (Int.toNat (13 : Int)) 64))))) (cR .u64 (bS .xor .u64 r0 (IntKind.u64.wrap (r0 * 2 ^ (min (Int.toNat (13 : Int)) 64))))) [(cR .u64 (bS .xor .u64 r0 (IntKind.u64.wrap (r0 * 2 ^ (min (Int.toNat (13 : Int)) 64)))))] hO rfl ?_
 obtain ⟨c2, h0⟩ := aZ h0
 refine cJ 9 [0 ≤ (7 : Int)] ⟨c2, trivial⟩ ?_
 refine kZ 0 lo0p 1 0 (cR .u64 (bS .xor .u64 r0 (IntKind.u64.wrap (r0 * 2 ^ (min (Int.toNat (13 : Int)) 64))))) (cR .u64 (bS .xor .u64 (bS .xor .u64 r0 (IntKind.u64.wrap (r0 * 2 ^ (min (Int.toNat (13 : Int)) 64)))) (Int.fdiv (bS .xor .u64 r0 (IntKind.u64.wrap (r0 * 2 ^ (min (Int.toNat (13 : Int)) 64)))) (2 ^ (min (Int.toNat (7 : Int)) 64))))) [(cR .u64 (bS .xor .u64 r0 (IntKind.u64.wrap (r0 * 2 ^ (min (Int.toNat (13 : Int)) 64)))))] [(lo0p, 1, [(cR .u64 (bS .xor .u64 (bS .xor .u64 r0 (IntKind.u64.wrap (r0 * 2 ^ (min (Int.toNat (13 : Int)) 64)))) (Int.fdiv (bS .xor .u64 r0 (IntKind.u64.wrap (r0 * 2 ^ (min (Int.toNat (13 : Int)) 64)))) (2 ^ (min (Int.toNat (7 : Int)) 64)))))])] hO rfl (by kernel_rfl) ?_
 intro H hO
 refine nO (by kernel_rfl) ?_
 refine bP [] [] ?_
 refine aO ?_
 refine fS (fR []) aC 10 ?_
 refine kJ 2 ?_
 refine fY 0 lo0p 1 0 (cR .u64 (bS .xor .u64 (bS .xor .u64 r0 (IntKind.u64.wrap (r0 * 2 ^ (min (Int.toNat (13 : Int)) 64)))) (Int.fdiv (bS .xor .u64 r0 (IntKind.u64.wrap (r0 * 2 ^ (min (Int.toNat (13 : Int)) 64)))) (2 ^ (min (Int.toNat (7 : Int)) 64))))) (cR .u64 (bS .xor .u64 (bS .xor .u64 r0 (IntKind.u64.wrap (r0 * 2 ^ (min (Int.toNat (13 : Int)) 64)))) (Int.fdiv (bS .xor .u64 r0 (IntKind.u64.wrap (r0 * 2 ^ (min (Int.toNat (13 : Int)) 64)))) (2 ^ (min (Int.toNat (7 : Int)) 64))))) [(cR .u64 (bS .xor .u64 (bS .xor .u64 r0 (IntKind.u64.wrap (r0 * 2 ^ (min (Int.toNat (13 : Int)) 64)))) (Int.fdiv (bS .xor .u64 r0 (IntKind.u64.wrap (r0 * 2 ^ (min (Int.toNat (13 : Int)) 64)))) (2 ^ (min (Int.toNat (7 : Int)) 64)))))] hO rfl ?_
 refine kJ 5 ?_
 refine fY 0 lo0p 1 0 (cR .u64 (bS .xor .u64 (bS .xor .u64 r0 (IntKind.u64.wrap (r0 * 2 ^ (min (Int.toNat (13 : Int)) 64)))) (Int.fdiv (bS .xor .u64 r0 (IntKind.u64.wrap (r0 * 2 ^ (min (Int.toNat (13 : Int)) 64)))) (2 ^ (min (Int.toNat (7 : Int)) 64))))) (cR .u64 (bS .xor .u64 (bS .xor .u64 r0 (IntKind.u64.wrap (r0 * 2 ^ (min (Int.toNat (13 : Int)) 64)))) (Int.fdiv (bS .xor .u64 r0 (IntKind.u64.wrap (r0 * 2 ^ (min (Int.toNat (13 : Int)) 64)))) (2 ^ (min (Int.toNat (7 : Int)) 64))))) [(cR .u64 (bS .xor .u64 (bS .xor .u64 r0 (IntKind.u64.wrap (r0 * 2 ^ (min (Int.toNat (13 : Int)) 64)))) (Int.fdiv (bS .xor .u64 r0 (IntKind.u64.wrap (r0 * 2 ^ (min (Int.toNat (13 : Int)) 64)))) (2 ^ (min (Int.toNat (7 : Int)) 64)))))] hO rfl ?_
 obtain ⟨c3, h0⟩ := aZ h0
 refine cJ 9 [0 ≤ (17 : Int)] ⟨c3, trivial⟩ ?_
 refine kZ 0 lo0p 1 0 (cR .u64 (bS .xor .u64 (bS .xor .u64 r0 (IntKind.u64.wrap (r0 * 2 ^ (min (Int.toNat (13 : Int)) 64)))) (Int.fdiv (bS .xor .u64 r0 (IntKind.u64.wrap (r0 * 2 ^ (min (Int.toNat (13 : Int)) 64)))) (2 ^ (min (Int.toNat (7 : Int)) 64))))) (cR .u64 (bS .xor .u64 (bS .xor .u64 (bS .xor .u64 r0 (IntKind.u64.wrap (r0 * 2 ^ (min (Int.toNat (13 : Int)) 64)))) (Int.fdiv (bS .xor .u64 r0 (IntKind.u64.wrap (r0 * 2 ^ (min (Int.toNat (13 : Int)) 64)))) (2 ^ (min (Int.toNat (7 : Int)) 64)))) (IntKind.u64.wrap ((bS .xor .u64 (bS .xor .u64 r0 (IntKind.u64.wrap (r0 * 2 ^ (min (Int.toNat (13 : Int)) 64)))) (Int.fdiv (bS .xor .u64 r0 (IntKind.u64.wrap (r0 * 2 ^ (min (Int.toNat (13 : Int)) 64)))) (2 ^ (min (Int.toNat (7 : Int)) 64)))) * 2 ^ (min (Int.toNat (17 : Int)) 64))))) [(cR .u64 (bS .xor .u64 (bS .xor .u64 r0 (IntKind.u64.wrap (r0 * 2 ^ (min (Int.toNat (13 : Int)) 64)))) (Int.fdiv (bS .xor .u64 r0 (IntKind.u64.wrap (r0 * 2 ^ (min (Int.toNat (13 : Int)) 64)))) (2 ^ (min (Int.toNat (7 : Int)) 64)))))] [(lo0p, 1, [(cR .u64 (bS .xor .u64 (bS .xor .u64 (bS .xor .u64 r0 (IntKind.u64.wrap (r0 * 2 ^ (min (Int.toNat (13 : Int)) 64)))) (Int.fdiv (bS .xor .u64 r0 (IntKind.u64.wrap (r0 * 2 ^ (min (Int.toNat (13 : Int)) 64)))) (2 ^ (min (Int.toNat (7 : Int)) 64)))) (IntKind.u64.wrap ((bS .xor .u64 (bS .xor .u64 r0 (IntKind.u64.wrap (r0 * 2 ^ (min (Int.toNat (13 : Int)) 64)))) (Int.fdiv (bS .xor .u64 r0 (IntKind.u64.wrap (r0 * 2 ^ (min (Int.toNat (13 : Int)) 64)))) (2 ^ (min (Int.toNat (7 : Int)) 64)))) * 2 ^ (min (Int.toNat (17 : Int)) 64)))))])] hO rfl (by kernel_rfl) ?_
 intro H hO
 refine nO (by kernel_rfl) ?_
 refine bP [] [] ?_
 refine aO ?_
 refine aS aC 4 ?_
 refine bI 2 ?_
 refine jJ 0 lo0p 1 0 (cR .u64 (bS .xor .u64 (bS .xor .u64 (bS .xor .u64 r0 (IntKind.u64.wrap (r0 * 2 ^ (min (Int.toNat (13 : Int)) 64)))) (Int.fdiv (bS .xor .u64 r0 (IntKind.u64.wrap (r0 * 2 ^ (min (Int.toNat (13 : Int)) 64)))) (2 ^ (min (Int.toNat (7 : Int)) 64)))) (IntKind.u64.wrap ((bS .xor .u64 (bS .xor .u64 r0 (IntKind.u64.wrap (r0 * 2 ^ (min (Int.toNat (13 : Int)) 64)))) (Int.fdiv (bS .xor .u64 r0 (IntKind.u64.wrap (r0 * 2 ^ (min (Int.toNat (13 : Int)) 64)))) (2 ^ (min (Int.toNat (7 : Int)) 64)))) * 2 ^ (min (Int.toNat (17 : Int)) 64))))) (cR .u64 (bS .xor .u64 (bS .xor .u64 (bS .xor .u64 r0 (IntKind.u64.wrap (r0 * 2 ^ (min (Int.toNat (13 : Int)) 64)))) (Int.fdiv (bS .xor .u64 r0 (IntKind.u64.wrap (r0 * 2 ^ (min (Int.toNat (13 : Int)) 64)))) (2 ^ (min (Int.toNat (7 : Int)) 64)))) (IntKind.u64.wrap ((bS .xor .u64 (bS .xor .u64 r0 (IntKind.u64.wrap (r0 * 2 ^ (min (Int.toNat (13 : Int)) 64)))) (Int.fdiv (bS .xor .u64 r0 (IntKind.u64.wrap (r0 * 2 ^ (min (Int.toNat (13 : Int)) 64)))) (2 ^ (min (Int.toNat (7 : Int)) 64)))) * 2 ^ (min (Int.toNat (17 : Int)) 64))))) [(cR .u64 (bS .xor .u64 (bS .xor .u64 (bS .xor .u64 r0 (IntKind.u64.wrap (r0 * 2 ^ (min (Int.toNat (13 : Int)) 64)))) (Int.fdiv (bS .xor .u64 r0 (IntKind.u64.wrap (r0 * 2 ^ (min (Int.toNat (13 : Int)) 64)))) (2 ^ (min (Int.toNat (7 : Int)) 64)))) (IntKind.u64.wrap ((bS .xor .u64 (bS .xor .u64 r0 (IntKind.u64.wrap (r0 * 2 ^ (min (Int.toNat (13 : Int)) 64)))) (Int.fdiv (bS .xor .u64 r0 (IntKind.u64.wrap (r0 * 2 ^ (min (Int.toNat (13 : Int)) 64)))) (2 ^ (min (Int.toNat (7 : Int)) 64)))) * 2 ^ (min (Int.toNat (17 : Int)) 64)))))] hO rfl ?_
 refine bA ?_
 refine bD [(0, (.lp lo0p 0 0)), (2, (cR .u64 (bS .xor .u64 (bS .xor .u64 (bS .xor .u64 r0 (IntKind.u64.wrap (r0 * 2 ^ (min (Int.toNat (13 : Int)) 64)))) (Int.fdiv (bS .xor .u64 r0 (IntKind.u64.wrap (r0 * 2 ^ (min (Int.toNat (13 : Int)) 64)))) (2 ^ (min (Int.toNat (7 : Int)) 64)))) (IntKind.u64.wrap ((bS .xor .u64 (bS .xor .u64 r0 (IntKind.u64.wrap (r0 * 2 ^ (min (Int.toNat (13 : Int)) 64)))) (Int.fdiv (bS .xor .u64 r0 (IntKind.u64.wrap (r0 * 2 ^ (min (Int.toNat (13 : Int)) 64)))) (2 ^ (min (Int.toNat (7 : Int)) 64)))) * 2 ^ (min (Int.toNat (17 : Int)) 64))))))] ?_
 refine bG ?_
 obtain rfl := oI h0
 exact aF (KK hO ⟨rfl, rfl⟩)

theorem xW (lo0p : Nat) (aA : (List Int)) (a1 : Int) (b2 : Int) (r : List Int) (h0 : iJ aA a1 b2 = some r) : rF Try.prog 77 lo0p 1 (List.map (eI) aA) (List.map (eI) r) [(.msl 1 lo0p 0 (List.length aA)), (eI a1), (eI b2)] (.tup []) := by
 intro H0 hl0
 refine cY Try.func77 ?_
 have hO := aM.tH hl0
 clear hl0
 obtain ⟨N0, hN0⟩ : ∃ n, n = List.length aA := ⟨_, rfl⟩
 have hN : List.length aA = N0 := hN0.symm
 unfold iJ at h0
 refine aX aC 4 [2] [(6, (eI (wR (b2 - a1))))] ?_
 refine aX aC 2 [] [(15, (aD (decide ((8 : Int) ≤ (wR (b2 - a1))))))] ?_
 refine bK h0 (fun h0 => ?_) (fun h0 => ?_)
 ·refine aO ?_
  refine aS aC 4 ?_
  refine bI 2 ?_
  refine kY 1 (cR .u64 0) (by kernel_rfl) (by kernel_rfl) hO ?_
  intro lo2 H hO
  refine gY 1 lo2 1 0 (cR .u64 0) (cR .u64 (IntKind.u64.wrap (wR (b2 - a1)))) [(cR .u64 0)] [(lo0p, 1, List.map (eI) aA), (lo2, 1, [(cR .u64 (IntKind.u64.wrap (wR (b2 - a1))))])] hO rfl (by kernel_rfl) ?_
  intro H hO
  refine dG ?_
  refine bP [15] [(7, (.lp lo2 0 0))] ?_
  refine aO ?_
  refine aS aC 3 ?_
  refine bI 1 ?_
  obtain ⟨x3, hx4, h0⟩ := aW h0
  refine cX (EU (wR (b2 - a1)) _ hx4) hO ?_
  intro H hO
  refine bA ?_
  refine bP [] [(8, (cR .u64 x3))] ?_
  refine aO ?_
  refine aS aC 7 ?_
  obtain ⟨c6, h0⟩ := aZ h0
  refine pZ [(4 : Int) ≠ 0] ⟨c6, trivial⟩ ?_
  refine bD [(0, (.msl 1 lo0p 0 (List.length aA))), (1, (eI a1)), (6, (eI (wR (b2 - a1)))), (7, (.lp lo2 0 0)), (8, (cR .u64 x3)), (9, (eI (wR ((wR (a1 + (wR ((wR (Int.tdiv (wR (b2 - a1)) (4 : Int))) * (2 : Int))))) - (1 : Int)))))] ?_
  refine bX 0 ?_
  refine eD [(0, (.msl 1 lo0p 0 (List.length aA))), (1, (eI a1)), (6, (eI (wR (b2 - a1)))), (7, (.lp lo2 0 0)), (8, (cR .u64 x3)), (9, (eI (wR ((wR (a1 + (wR ((wR (Int.tdiv (wR (b2 - a1)) (4 : Int))) * (2 : Int))))) - (1 : Int)))))] ?_
  refine eE (fun T H => ∃ aA : List Int, ∃ kV : Int, ∃ mP : Int, ∃ jL : Int, ∃ idx9 : Int, Has T [(0, (.msl 1 lo0p 0 (List.length aA))), (1, (eI a1)), (6, (eI kV)), (7, (.lp lo2 0 0)), (8, (cR .u64 jL)), (9, (eI idx9))] ∧ aM ⟨H0, [lo0p], []⟩ H [(lo0p, 1, List.map (eI) aA), (lo2, 1, [(cR .u64 mP)])] ∧ List.length aA = N0 ∧ jY aA a1 kV mP jL idx9 = some r) ?_ ⟨aA, wR (b2 - a1), IntKind.u64.wrap (wR (b2 - a1)), x3, wR ((wR (a1 + (wR ((wR (Int.tdiv (wR (b2 - a1)) (4 : Int))) * (2 : Int))))) - (1 : Int)), .eq (by kernel_rfl), hO, hN, h0⟩
  clear hO hN h0
  rintro T H ⟨aA, kV, mP, jL, idx9, hT, hO, hN, h0⟩
  refine bF hT ?_
  clear hT
  unfold jY at h0
  obtain ⟨rr0, hl0, h0⟩ := aW h0
  refine dK (by kernel_rfl) (fun (s : List Int × Int × Int) T H => Has T [(0, (.msl 1 lo0p 0 (List.length s.1))), (1, (eI a1)), (6, (eI kV)), (7, (.lp lo2 0 0)), (8, (cR .u64 jL)), (9, (eI s.2.2))] ∧ aM ⟨H0, [lo0p], []⟩ H [(lo0p, 1, List.map (eI) s.1), (lo2, 1, [(cR .u64 s.2.1)])] ∧ List.length s.1 = N0) hl0 ⟨.eq (by kernel_rfl), hO, hN⟩ ?_
  clear hO hN
  rintro k0 s out1 T H ⟨hT, hO, hN⟩ h1 ho0
  obtain ⟨aA, mP, idx9⟩ := s
  replace h1 : dH a1 kV jL aA mP idx9 = some out1 := h1
  try dsimp only at hT
  refine bF hT ?_
  clear hT
  unfold dH at h1
  refine aO ?_
  refine aO ?_
  refine aS aC 8 ?_
  obtain ⟨c7, h1⟩ := aZ h1
  refine pZ [(4 : Int) ≠ 0] ⟨c7, trivial⟩ ?_
  refine bP [] [(33, (aD (decide (idx9 ≤ (wR ((wR (a1 + (wR ((wR (Int.tdiv kV (4 : Int))) * (2 : Int))))) + (1 : Int)))))))] ?_
  refine bK h1 (fun h1 => ?_) (fun h1 => ?_)
  ·refine bN ?_
   refine bD [(0, (.msl 1 lo0p 0 (List.length aA))), (1, (eI a1)), (6, (eI kV)), (7, (.lp lo2 0 0)), (8, (cR .u64 jL)), (9, (eI idx9))] ?_
   refine aO ?_
   refine bX 1 ?_
   refine aO ?_
   refine aS aC 6 ?_
   obtain ⟨x9, hx10, h1⟩ := aW h1
   refine GA [(lo0p, 1, List.map (eI) aA)] [1, 0] (FV lo2 mP _ hx10) hO ?_
   intro r11 L12 H hP13 hO
   obtain ⟨rfl, rfl⟩ := hP13
   replace hO : aM ⟨H0, [lo0p], []⟩ H [(lo2, 1, [(cR .u64 x9.2)]), (lo0p, 1, List.map (eI) aA)] := hO
   refine bA ?_
   replace hO := hO.pick (L' := [(lo0p, 1, List.map (eI) aA), (lo2, 1, [(cR .u64 x9.2)])]) [1, 0] (by decide) (by kernel_rfl)
   refine bP [] [(10, (eI (wR (bS .and .u64 x9.1 (IntKind.u64.wrap (jL - (1 : Int)))))))] ?_
   refine eR (fun T H => ∃ aA : List Int, ∃ mP : Int, ∃ gO : Int, Has T [(0, (.msl 1 lo0p 0 (List.length aA))), (1, (eI a1)), (6, (eI kV)), (7, (.lp lo2 0 0)), (8, (cR .u64 jL)), (9, (eI idx9)), (10, (eI gO))] ∧ aM ⟨H0, [lo0p], []⟩ H [(lo0p, 1, List.map (eI) aA), (lo2, 1, [(cR .u64 mP)])] ∧ List.length aA = N0 ∧ fI aA a1 kV mP jL idx9 gO = some out1) ?_ ?_
   ·clear hO hN h1
    rintro T H ⟨aA, mP, gO, hT, hO, hN, h1⟩
    refine bF hT ?_
    clear hT
    unfold fI at h1
    refine fS (fR []) aC 20 ?_
    obtain ⟨c14, h1⟩ := aZ h1
    refine cJ 11 [0 ≤ (wR (a1 + gO)) ∧ (wR (a1 + gO)) < (lN aA)] ⟨c14, trivial⟩ ?_
    refine fY 0 lo0p 1 (0 + Int.toNat (wR (a1 + gO))) (eI (gD aA (wR (a1 + gO)))) (eI (gD aA (wR (a1 + gO)))) (List.map (eI) aA) hO (cA c14) ?_
    obtain ⟨c15, h1⟩ := aZ h1
    refine cJ 15 [0 ≤ idx9 ∧ idx9 < (lN aA)] ⟨c15, trivial⟩ ?_
    refine fY 0 lo0p 1 (0 + Int.toNat idx9) (eI (gD aA idx9)) (eI (gD aA idx9)) (List.map (eI) aA) hO (cA c15) ?_
    obtain ⟨c16, h1⟩ := aZ h1
    refine cJ 17 [0 ≤ idx9 ∧ idx9 < (lN aA)] ⟨c16, trivial⟩ ?_
    refine kZ 0 lo0p 1 (0 + Int.toNat idx9) (eI (gD aA idx9)) (eI (gD aA (wR (a1 + gO)))) (List.map (eI) aA) [(lo0p, 1, List.map (eI) (List.set aA (Int.toNat idx9) (gD aA (wR (a1 + gO))))), (lo2, 1, [(cR .u64 mP)])] hO (cA c16) (by simp only [List.set, iI]) ?_
    intro H hO
    replace hN : List.length (List.set aA (Int.toNat idx9) (gD aA (wR (a1 + gO)))) = N0 := by simpa using hN
    obtain ⟨c17, h1⟩ := aZ h1
    refine cJ 19 [0 ≤ (wR (a1 + gO)) ∧ (wR (a1 + gO)) < (lN aA)] ⟨c17, trivial⟩ ?_
    refine kZ 0 lo0p 1 (0 + Int.toNat (wR (a1 + gO))) (eI (gD (List.set aA (Int.toNat idx9) (gD aA (wR (a1 + gO)))) (wR (a1 + gO)))) (eI (gD aA idx9)) (List.map (eI) (List.set aA (Int.toNat idx9) (gD aA (wR (a1 + gO))))) [(lo0p, 1, List.map (eI) (List.set (List.set aA (Int.toNat idx9) (gD aA (wR (a1 + gO)))) (Int.toNat (wR (a1 + gO))) (gD aA idx9))), (lo2, 1, [(cR .u64 mP)])] hO (oS c17 (by simp [])) (by simp only [List.set, iI]) ?_
    intro H hO
    replace hN : List.length (List.set (List.set aA (Int.toNat idx9) (gD aA (wR (a1 + gO)))) (Int.toNat (wR (a1 + gO))) (gD aA idx9)) = N0 := by simpa using hN
    refine nO (by kernel_rfl) ?_
    refine dJ (l := [(0, (.msl 1 lo0p 0 (List.length (List.set (List.set aA (Int.toNat idx9) (gD aA (wR (a1 + gO)))) (Int.toNat (wR (a1 + gO))) (gD aA idx9))))), (1, (eI a1)), (6, (eI kV)), (7, (.lp lo2 0 0)), (8, (cR .u64 jL)), (9, (eI idx9))]) ⟨[(0, (.msl 1 lo0p 0 (List.length aA))), (1, (eI a1)), (6, (eI kV)), (7, (.lp lo2 0 0)), (8, (cR .u64 jL)), (9, (eI idx9))], by kernel_rfl, rfl, ⟨aR.eq (by simp []), aR.refl _, aR.refl _, aR.refl _, aR.refl _, aR.refl _, trivial⟩⟩ ?_
    refine aF (aV (aG (?_)))
    refine aS aC 3 ?_
    refine bA ?_
    exact aF (aG (⟨rfl, _, (oI h1).symm, .eq (by kernel_rfl), hO, hN⟩))
   refine aX aC 3 [] [(43, (aD (decide (kV ≤ (wR (bS .and .u64 x9.1 (IntKind.u64.wrap (jL - (1 : Int)))))))))] ?_
   refine bK h1 (fun h1 => ?_) (fun h1 => ?_)
   ·refine aS aC 4 ?_
    refine bA ?_
    exact aF (aG (⟨rfl, _, _, _, .eq (by kernel_rfl), hO, hN, h1⟩))
   refine bN ?_
   exact aF (aG (⟨rfl, _, _, _, .eq (by kernel_rfl), hO, hN, h1⟩))
  refine gJ 0 ?_
  replace hO := hO.pick (L' := [(lo0p, 1, List.map (eI) aA)]) [0] (by decide) (by kernel_rfl)
  obtain rfl := oI h1
  obtain rfl : _ = rr0 := ho0
  replace h0 : some aA = some r := h0
  obtain rfl := oI h0
  exact aF (aY (aY (bV (yU (x := (.tup [])) (by kernel_rfl) (aR.refl _) ⟨rfl, hO.ext, hO.at 0 (by kernel_rfl), by first | rfl | (simp only [List.length_map]; exact hN.trans hN0)⟩))))
 refine bN ?_
 obtain rfl := oI h0
 exact aF (yU (x := (.tup [])) (by kernel_rfl) (aR.refl _) ⟨rfl, hO.ext, hO.at 0 (by kernel_rfl), by first | rfl | (simp only [List.length_map]; exact hN.trans hN0)⟩)

theorem pW (lo0p : Nat) (aA : (List Int)) (a1 : Int) (b2 : Int) (lo3p : Nat) (uR : Int) (r : ((Int × Int) × Int)) (h0 : gV aA a1 b2 uR = some r) : LJ Try.prog 101 [(.msl 1 lo0p 0 (List.length aA)), (eI a1), (eI b2), (.lp lo3p 0 0)] [(lo0p, 1, List.map (eI) aA), (lo3p, 1, [(eI uR)])] (fun x L => x = (.tup [(eI r.1.1), (eI r.1.2)]) ∧ L = [(lo0p, 1, List.map (eI) aA), (lo3p, 1, [(eI r.2)])]) := by
 intro F H0 hO
 obtain ⟨Fh, Fe, Fg⟩ := F
 refine cY Try.func101 ?_
 unfold gV at h0
 refine aX aC 2 [] [] ?_
 refine aO ?_
 refine aO ?_
 refine fS (fR [18]) aC 9 ?_
 obtain ⟨c1, h0⟩ := aZ h0
 refine cJ 3 [0 ≤ b2 ∧ b2 < (lN aA)] ⟨c1, trivial⟩ ?_
 refine fY 0 lo0p 1 (0 + Int.toNat b2) (eI (gD aA b2)) (eI (gD aA b2)) (List.map (eI) aA) hO (cA c1) ?_
 obtain ⟨c2, h0⟩ := aZ h0
 refine cJ 7 [0 ≤ a1 ∧ a1 < (lN aA)] ⟨c2, trivial⟩ ?_
 refine fY 0 lo0p 1 (0 + Int.toNat a1) (eI (gD aA a1)) (eI (gD aA a1)) (List.map (eI) aA) hO (cA c2) ?_
 obtain ⟨x3, hx4, h0⟩ := aW h0
 refine AY (fX (gD aA b2) (gD aA a1) _ hx4) hO ?_
 intro H hO
 refine nO (by kernel_rfl) ?_
 refine bP [] [(18, (aD x3))] ?_
 refine bK h0 (fun h0 => ?_) (fun h0 => ?_)
 ·refine aO ?_
  refine aS aC 6 ?_
  refine bI 2 ?_
  refine jJ 1 lo3p 1 0 (eI uR) (eI uR) [(eI uR)] hO rfl ?_
  refine bI 5 ?_
  refine gY 1 lo3p 1 0 (eI uR) (eI (wR (uR + (1 : Int)))) [(eI uR)] [(lo0p, 1, List.map (eI) aA), (lo3p, 1, [(eI (wR (uR + (1 : Int))))])] hO rfl (by kernel_rfl) ?_
  intro H hO
  refine dG ?_
  refine bP [18] [] ?_
  refine aX aC 4 [1, 2] [(8, (eI b2)), (9, (eI a1))] ?_
  refine bG ?_
  obtain rfl := oI h0
  exact aF (aT (KK hO ⟨rfl, rfl⟩))
 refine bN ?_
 refine bD [(0, (.msl 1 lo0p 0 (List.length aA))), (1, (eI a1)), (2, (eI b2)), (3, (.lp lo3p 0 0))] ?_
 refine aX aC 4 [1, 2] [(8, (eI a1)), (9, (eI b2))] ?_
 refine bG ?_
 obtain rfl := oI h0
 exact aF (KK hO ⟨rfl, rfl⟩)

theorem uP (lo0p : Nat) (aA : (List Int)) (a1 : Int) (b2 : Int) (c3 : Int) (lo4p : Nat) (KW : Int) (r : (Int × Int)) (h0 : jB aA a1 b2 c3 KW = some r) : LJ Try.prog 97 [(.msl 1 lo0p 0 (List.length aA)), (eI a1), (eI b2), (eI c3), (.lp lo4p 0 0)] [(lo0p, 1, List.map (eI) aA), (lo4p, 1, [(eI KW)])] (fun x L => x = (eI r.1) ∧ L = [(lo0p, 1, List.map (eI) aA), (lo4p, 1, [(eI r.2)])]) := by
 intro F H0 hO
 obtain ⟨Fh, Fe, Fg⟩ := F
 refine cY Try.func97 ?_
 unfold jB at h0
 refine aX aC 1 [] [] ?_
 refine aO ?_
 refine aS aC 10 ?_
 refine bI 4 ?_
 obtain ⟨x1, hx2, h0⟩ := aW h0
 refine GA [] [0, 1] (pW lo0p aA a1 b2 lo4p KW _ hx2) hO ?_
 intro r3 L4 H hP5 hO
 obtain ⟨rfl, rfl⟩ := hP5
 replace hO : aM ⟨Fh, Fe, Fg⟩ H [(lo0p, 1, List.map (eI) aA), (lo4p, 1, [(eI x1.2)])] := hO
 refine bA ?_
 refine bP [1, 2] [(1, (eI x1.1.1)), (2, (eI x1.1.2))] ?_
 refine aO ?_
 refine aS aC 10 ?_
 refine bI 4 ?_
 obtain ⟨x6, hx7, h0⟩ := aW h0
 refine GA [] [0, 1] (pW lo0p aA x1.1.2 c3 lo4p x1.2 _ hx7) hO ?_
 intro r8 L9 H hP10 hO
 obtain ⟨rfl, rfl⟩ := hP10
 replace hO : aM ⟨Fh, Fe, Fg⟩ H [(lo0p, 1, List.map (eI) aA), (lo4p, 1, [(eI x6.2)])] := hO
 refine bA ?_
 refine bP [2, 3] [(2, (eI x6.1.1))] ?_
 refine aO ?_
 refine aS aC 10 ?_
 refine bI 4 ?_
 obtain ⟨x11, hx12, h0⟩ := aW h0
 refine GA [] [0, 1] (pW lo0p aA x1.1.1 x6.1.1 lo4p x6.2 _ hx12) hO ?_
 intro r13 L14 H hP15 hO
 obtain ⟨rfl, rfl⟩ := hP15
 replace hO : aM ⟨Fh, Fe, Fg⟩ H [(lo0p, 1, List.map (eI) aA), (lo4p, 1, [(eI x11.2)])] := hO
 refine bA ?_
 refine bP [1, 2] [(2, (eI x11.1.2))] ?_
 refine bW aC 2 [(0, (.msl 1 lo0p 0 (List.length aA))), (4, (.lp lo4p 0 0)), (10, (eI x11.1.2))] ?_
 refine bG ?_
 obtain rfl := oI h0
 exact aF (KK hO ⟨rfl, rfl⟩)

theorem mJ (lo0p : Nat) (aA : (List Int)) (a1 : Int) (lo2p : Nat) (KH : Int) (r : (Int × Int)) (h0 : eA aA a1 KH = some r) : LJ Try.prog 96 [(.msl 1 lo0p 0 (List.length aA)), (eI a1), (.lp lo2p 0 0)] [(lo0p, 1, List.map (eI) aA), (lo2p, 1, [(eI KH)])] (fun x L => x = (eI r.1) ∧ L = [(lo0p, 1, List.map (eI) aA), (lo2p, 1, [(eI r.2)])]) := by
 intro F H0 hO
 obtain ⟨Fh, Fe, Fg⟩ := F
 refine cY Try.func96 ?_
 unfold eA at h0
 refine aX aC 1 [] [] ?_
 refine aO ?_
 refine aS aC 9 ?_
 refine bI 7 ?_
 obtain ⟨x1, hx2, h0⟩ := aW h0
 refine GA [] [0, 1] (uP lo0p aA (wR (a1 - (1 : Int))) a1 (wR (a1 + (1 : Int))) lo2p KH _ hx2) hO ?_
 intro r3 L4 H hP5 hO
 obtain ⟨rfl, rfl⟩ := hP5
 replace hO : aM ⟨Fh, Fe, Fg⟩ H [(lo0p, 1, List.map (eI) aA), (lo2p, 1, [(eI x1.2)])] := hO
 refine bA ?_
 refine bP [1] [(6, (eI x1.1))] ?_
 refine bG ?_
 obtain rfl := oI h0
 exact aF (KK hO ⟨rfl, rfl⟩)

theorem zQ (lo0p : Nat) (aA : (List Int)) (a1 : Int) (b2 : Int) (r : (Int × Int)) (h0 : iV aA a1 b2 = some r) : LJ Try.prog 78 [(.msl 1 lo0p 0 (List.length aA)), (eI a1), (eI b2)] [(lo0p, 1, List.map (eI) aA)] (fun x L => x = (.tup [(eI r.1), (eI r.2)]) ∧ L = [(lo0p, 1, List.map (eI) aA)]) := by
 intro F H0 hO
 obtain ⟨Fh, Fe, Fg⟩ := F
 refine cY Try.func78 ?_
 unfold iV at h0
 refine aX aC 2 [] [] ?_
 refine aX aC 4 [2] [(8, (eI (wR (b2 - a1))))] ?_
 refine aO ?_
 refine aS aC 1 ?_
 refine kY 1 (eI 0) (by kernel_rfl) (by kernel_rfl) hO ?_
 intro lo1 H hO
 refine dG ?_
 refine bP [] [(9, (.lp lo1 0 0))] ?_
 refine aO ?_
 refine aS aC 6 ?_
 obtain ⟨c2, h0⟩ := aZ h0
 refine pZ [(4 : Int) ≠ 0] ⟨c2, trivial⟩ ?_
 refine bP [] [(10, (eI (wR (a1 + (wR ((wR (Int.tdiv (wR (b2 - a1)) (4 : Int))) * (1 : Int)))))))] ?_
 refine aO ?_
 refine aS aC 6 ?_
 obtain ⟨c3, h0⟩ := aZ h0
 refine pZ [(4 : Int) ≠ 0] ⟨c3, trivial⟩ ?_
 refine bD [(0, (.msl 1 lo0p 0 (List.length aA))), (1, (eI a1)), (8, (eI (wR (b2 - a1)))), (9, (.lp lo1 0 0)), (10, (eI (wR (a1 + (wR ((wR (Int.tdiv (wR (b2 - a1)) (4 : Int))) * (1 : Int))))))), (11, (eI (wR (a1 + (wR ((wR (Int.tdiv (wR (b2 - a1)) (4 : Int))) * (2 : Int)))))))] ?_
 refine aO ?_
 refine aS aC 6 ?_
 obtain ⟨c4, h0⟩ := aZ h0
 refine pZ [(4 : Int) ≠ 0] ⟨c4, trivial⟩ ?_
 refine bP [1] [(12, (eI (wR (a1 + (wR ((wR (Int.tdiv (wR (b2 - a1)) (4 : Int))) * (3 : Int)))))))] ?_
 refine eR (fun T H => ∃ nK : Int, ∃ j11 : Int, Has T [(0, (.msl 1 lo0p 0 (List.length aA))), (9, (.lp lo1 0 0)), (11, (eI j11))] ∧ aM ⟨Fh, Fe, Fg⟩ H [(lo0p, 1, List.map (eI) aA), (lo1, 1, [(eI nK)])] ∧ fW aA nK j11 = some r) ?_ ?_
 ·clear hO h0
  rintro T H ⟨nK, j11, hT, hO, h0⟩
  refine bF hT ?_
  clear hT
  unfold fW at h0
  refine aO ?_
  refine aS aC 1 ?_
  refine jJ 1 lo1 1 0 (eI nK) (eI nK) [(eI nK)] hO rfl ?_
  refine dG ?_
  replace hO := hO.pick (L' := [(lo0p, 1, List.map (eI) aA)]) [0] (by decide) (by kernel_rfl)
  refine bP [9] [(49, (eI nK))] ?_
  refine bX 0 ?_
  refine aX aC 2 [] [(51, (aD (decide (nK = (0 : Int)))))] ?_
  refine bK h0 (fun h0 => ?_) (fun h0 => ?_)
  ·refine aX aC 3 [11, 49, 51] [(6, (eI j11)), (7, (eI (1 : Int)))] ?_
   refine bG ?_
   obtain rfl := oI h0
   exact aF (bC (KK hO ⟨rfl, rfl⟩))
  refine aX aC 2 [49, 51] [(54, (aD (decide (nK = (12 : Int)))))] ?_
  refine bK h0 (fun h0 => ?_) (fun h0 => ?_)
  ·refine aX aC 3 [11, 54] [(6, (eI j11)), (7, (eI (2 : Int)))] ?_
   refine bG ?_
   obtain rfl := oI h0
   exact aF (bC (KK hO ⟨rfl, rfl⟩))
  refine aX aC 3 [11, 54] [(6, (eI j11)), (7, (eI (0 : Int)))] ?_
  refine bG ?_
  obtain rfl := oI h0
  exact aF (bC (KK hO ⟨rfl, rfl⟩))
 refine aX aC 2 [] [(32, (aD (decide ((8 : Int) ≤ (wR (b2 - a1))))))] ?_
 refine bK h0 (fun h0 => ?_) (fun h0 => ?_)
 ·refine eR (fun T H => ∃ nK : Int, ∃ i10 : Int, ∃ j11 : Int, ∃ k12 : Int, Has T [(0, (.msl 1 lo0p 0 (List.length aA))), (9, (.lp lo1 0 0)), (10, (eI i10)), (11, (eI j11)), (12, (eI k12))] ∧ aM ⟨Fh, Fe, Fg⟩ H [(lo0p, 1, List.map (eI) aA), (lo1, 1, [(eI nK)])] ∧ gC aA nK i10 j11 k12 = some r) ?_ ?_
  ·clear hO h0
   rintro T H ⟨nK, i10, j11, k12, hT, hO, h0⟩
   refine bF hT ?_
   clear hT
   unfold gC at h0
   refine aS aC 6 ?_
   refine bI 4 ?_
   obtain ⟨x8, hx9, h0⟩ := aW h0
   refine GA [] [0, 1] (uP lo0p aA i10 j11 k12 lo1 nK _ hx9) hO ?_
   intro r10 L11 H hP12 hO
   obtain ⟨rfl, rfl⟩ := hP12
   replace hO : aM ⟨Fh, Fe, Fg⟩ H [(lo0p, 1, List.map (eI) aA), (lo1, 1, [(eI x8.2)])] := hO
   refine bA ?_
   exact aF (aG (⟨rfl, _, _, .eq (by kernel_rfl), hO, h0⟩))
  refine aX aC 2 [8, 32] [(34, (aD (decide ((50 : Int) ≤ (wR (b2 - a1))))))] ?_
  refine bK h0 (fun h0 => ?_) (fun h0 => ?_)
  ·refine aO ?_
   refine aS aC 4 ?_
   refine bI 2 ?_
   obtain ⟨x14, hx15, h0⟩ := aW h0
   refine GA [] [0, 1] (mJ lo0p aA (wR (a1 + (wR ((wR (Int.tdiv (wR (b2 - a1)) (4 : Int))) * (1 : Int))))) lo1 0 _ hx15) hO ?_
   intro r16 L17 H hP18 hO
   obtain ⟨rfl, rfl⟩ := hP18
   replace hO : aM ⟨Fh, Fe, Fg⟩ H [(lo0p, 1, List.map (eI) aA), (lo1, 1, [(eI x14.2)])] := hO
   refine bA ?_
   refine bP [10, 34] [(10, (eI x14.1))] ?_
   refine aO ?_
   refine aS aC 4 ?_
   refine bI 2 ?_
   obtain ⟨x19, hx20, h0⟩ := aW h0
   refine GA [] [0, 1] (mJ lo0p aA (wR (a1 + (wR ((wR (Int.tdiv (wR (b2 - a1)) (4 : Int))) * (2 : Int))))) lo1 x14.2 _ hx20) hO ?_
   intro r21 L22 H hP23 hO
   obtain ⟨rfl, rfl⟩ := hP23
   replace hO : aM ⟨Fh, Fe, Fg⟩ H [(lo0p, 1, List.map (eI) aA), (lo1, 1, [(eI x19.2)])] := hO
   refine bA ?_
   refine bD [(0, (.msl 1 lo0p 0 (List.length aA))), (9, (.lp lo1 0 0)), (10, (eI x14.1)), (11, (eI x19.1)), (12, (eI (wR (a1 + (wR ((wR (Int.tdiv (wR (b2 - a1)) (4 : Int))) * (3 : Int)))))))] ?_
   refine aS aC 4 ?_
   refine bI 2 ?_
   obtain ⟨x24, hx25, h0⟩ := aW h0
   refine GA [] [0, 1] (mJ lo0p aA (wR (a1 + (wR ((wR (Int.tdiv (wR (b2 - a1)) (4 : Int))) * (3 : Int))))) lo1 x19.2 _ hx25) hO ?_
   intro r26 L27 H hP28 hO
   obtain ⟨rfl, rfl⟩ := hP28
   replace hO : aM ⟨Fh, Fe, Fg⟩ H [(lo0p, 1, List.map (eI) aA), (lo1, 1, [(eI x24.2)])] := hO
   refine bA ?_
   exact aF (aG (⟨rfl, _, _, _, _, .eq (by kernel_rfl), hO, h0⟩))
  refine bN ?_
  exact aF (aG (⟨rfl, _, _, _, _, .eq (by kernel_rfl), hO, h0⟩))
 refine bN ?_
 exact aF (aG (⟨rfl, _, _, .eq (by kernel_rfl), hO, h0⟩))

theorem yY (lo0p : Nat) (aA : (List Int)) (a1 : Int) (b2 : Int) (r : List Int) (h0 : iQ aA a1 b2 = some r) : rF Try.prog 79 lo0p 1 (List.map (eI) aA) (List.map (eI) r) [(.msl 1 lo0p 0 (List.length aA)), (eI a1), (eI b2)] (.tup []) := by
 intro H0 hl0
 refine cY Try.func79 ?_
 have hO := aM.tH hl0
 clear hl0
 obtain ⟨N0, hN0⟩ : ∃ n, n = List.length aA := ⟨_, rfl⟩
 have hN : List.length aA = N0 := hN0.symm
 unfold iQ at h0
 refine aX aC 2 [1] [(6, (eI a1))] ?_
 refine aX aC 3 [2] [(7, (eI (wR (b2 - (1 : Int)))))] ?_
 refine bX 0 ?_
 refine eD [(0, (.msl 1 lo0p 0 (List.length aA))), (6, (eI a1)), (7, (eI (wR (b2 - (1 : Int)))))] ?_
 refine eE (fun T H => ∃ aA : List Int, ∃ i6 : Int, ∃ j7 : Int, Has T [(0, (.msl 1 lo0p 0 (List.length aA))), (6, (eI i6)), (7, (eI j7))] ∧ aM ⟨H0, [lo0p], []⟩ H [(lo0p, 1, List.map (eI) aA)] ∧ List.length aA = N0 ∧ kG aA i6 j7 = some r) ?_ ⟨aA, a1, wR (b2 - (1 : Int)), .eq (by kernel_rfl), hO, hN, h0⟩
 clear hO hN h0
 rintro T H ⟨aA, i6, j7, hT, hO, hN, h0⟩
 refine bF hT ?_
 clear hT
 unfold kG at h0
 obtain ⟨rr0, hl0, h0⟩ := aW h0
 refine dK (by kernel_rfl) (fun (s : List Int × Int × Int) T H => Has T [(0, (.msl 1 lo0p 0 (List.length s.1))), (6, (eI s.2.1)), (7, (eI s.2.2))] ∧ aM ⟨H0, [lo0p], []⟩ H [(lo0p, 1, List.map (eI) s.1)] ∧ List.length s.1 = N0) hl0 ⟨.eq (by kernel_rfl), hO, hN⟩ ?_
 clear hO hN
 rintro k0 s out1 T H ⟨hT, hO, hN⟩ h1 ho0
 obtain ⟨aA, i6, j7⟩ := s
 replace h1 : dV aA i6 j7 = some out1 := h1
 try dsimp only at hT
 refine bF hT ?_
 clear hT
 unfold dV at h1
 refine aO ?_
 refine aX aC 3 [] [(13, (aD (decide (i6 < j7))))] ?_
 refine bK h1 (fun h1 => ?_) (fun h1 => ?_)
 ·refine bN ?_
  refine bD [(0, (.msl 1 lo0p 0 (List.length aA))), (6, (eI i6)), (7, (eI j7))] ?_
  refine bX 1 ?_
  refine aO ?_
  refine fS (fR []) aC 16 ?_
  obtain ⟨c2, h1⟩ := aZ h1
  refine cJ 7 [0 ≤ j7 ∧ j7 < (lN aA)] ⟨c2, trivial⟩ ?_
  refine fY 0 lo0p 1 (0 + Int.toNat j7) (eI (gD aA j7)) (eI (gD aA j7)) (List.map (eI) aA) hO (cA c2) ?_
  obtain ⟨c3, h1⟩ := aZ h1
  refine cJ 11 [0 ≤ i6 ∧ i6 < (lN aA)] ⟨c3, trivial⟩ ?_
  refine fY 0 lo0p 1 (0 + Int.toNat i6) (eI (gD aA i6)) (eI (gD aA i6)) (List.map (eI) aA) hO (cA c3) ?_
  obtain ⟨c4, h1⟩ := aZ h1
  refine cJ 13 [0 ≤ i6 ∧ i6 < (lN aA)] ⟨c4, trivial⟩ ?_
  refine kZ 0 lo0p 1 (0 + Int.toNat i6) (eI (gD aA i6)) (eI (gD aA j7)) (List.map (eI) aA) [(lo0p, 1, List.map (eI) (List.set aA (Int.toNat i6) (gD aA j7)))] hO (cA c4) (by simp only [List.set, iI]) ?_
  intro H hO
  replace hN : List.length (List.set aA (Int.toNat i6) (gD aA j7)) = N0 := by simpa using hN
  obtain ⟨c5, h1⟩ := aZ h1
  refine cJ 15 [0 ≤ j7 ∧ j7 < (lN aA)] ⟨c5, trivial⟩ ?_
  refine kZ 0 lo0p 1 (0 + Int.toNat j7) (eI (gD (List.set aA (Int.toNat i6) (gD aA j7)) j7)) (eI (gD aA i6)) (List.map (eI) (List.set aA (Int.toNat i6) (gD aA j7))) [(lo0p, 1, List.map (eI) (List.set (List.set aA (Int.toNat i6) (gD aA j7)) (Int.toNat j7) (gD aA i6)))] hO (oS c5 (by simp [])) (by simp only [List.set, iI]) ?_
  intro H hO
  replace hN : List.length (List.set (List.set aA (Int.toNat i6) (gD aA j7)) (Int.toNat j7) (gD aA i6)) = N0 := by simpa using hN
  refine nO (by kernel_rfl) ?_
  refine dJ (l := [(0, (.msl 1 lo0p 0 (List.length (List.set (List.set aA (Int.toNat i6) (gD aA j7)) (Int.toNat j7) (gD aA i6))))), (6, (eI i6)), (7, (eI j7))]) ⟨[(0, (.msl 1 lo0p 0 (List.length aA))), (6, (eI i6)), (7, (eI j7))], by kernel_rfl, rfl, ⟨aR.eq (by simp []), aR.refl _, aR.refl _, trivial⟩⟩ ?_
  refine aF (aG (?_))
  refine aX aC 3 [6] [(6, (eI (wR (i6 + (1 : Int)))))] ?_
  refine aS aC 3 ?_
  refine bA ?_
  exact aF (aV (aG (⟨rfl, _, (oI h1).symm, .eq (by kernel_rfl), hO, hN⟩)))
 refine gJ 0 ?_
 obtain rfl := oI h1
 obtain rfl : _ = rr0 := ho0
 replace h0 : some aA = some r := h0
 obtain rfl := oI h0
 exact aF (aY (aY (bV (yU (x := (.tup [])) (by kernel_rfl) (aR.refl _) ⟨rfl, hO.ext, hO.at 0 (by kernel_rfl), by first | rfl | (simp only [List.length_map]; exact hN.trans hN0)⟩))))

theorem uD (lo0p : Nat) (aA : (List Int)) (a1 : Int) (b2 : Int) (r : (Bool × List Int)) (h0 : eY aA a1 b2 = some r) : rF Try.prog 80 lo0p 1 (List.map (eI) aA) (List.map (eI) r.2) [(.msl 1 lo0p 0 (List.length aA)), (eI a1), (eI b2)] (aD r.1) := by
 intro H0 hl0
 refine cY Try.func80 ?_
 have hO := aM.tH hl0
 clear hl0
 obtain ⟨N0, hN0⟩ : ∃ n, n = List.length aA := ⟨_, rfl⟩
 have hN : List.length aA = N0 := hN0.symm
 unfold eY at h0
 refine aX aC 1 [] [] ?_
 refine aX aC 3 [] [(7, (eI (wR (a1 + (1 : Int)))))] ?_
 refine eR (fun T H => ∃ aA : List Int, Has T [(0, (.msl 1 lo0p 0 (List.length aA)))] ∧ aM ⟨H0, [lo0p], []⟩ H [(lo0p, 1, List.map (eI) aA)] ∧ List.length aA = N0 ∧ eV aA = some r) ?_ ?_
 ·clear hO hN h0
  rintro T H ⟨aA, hT, hO, hN, h0⟩
  refine bF hT ?_
  clear hT
  unfold eV at h0
  refine aX aC 1 [] [(6, (aD false))] ?_
  refine bG ?_
  obtain rfl := oI h0
  exact aF (kA (x := (aD false)) (by kernel_rfl) (aR.refl _) ⟨rfl, hO.ext, hO.at 0 (by kernel_rfl), by first | rfl | (simp only [List.length_map]; exact hN.trans hN0)⟩)
 refine aX aC 1 [] [(8, (eI (0 : Int)))] ?_
 refine bX 0 ?_
 refine eD [(0, (.msl 1 lo0p 0 (List.length aA))), (1, (eI a1)), (2, (eI b2)), (7, (eI (wR (a1 + (1 : Int))))), (8, (eI (0 : Int)))] ?_
 refine eE (fun T H => ∃ aA : List Int, ∃ i7 : Int, ∃ j8 : Int, Has T [(0, (.msl 1 lo0p 0 (List.length aA))), (1, (eI a1)), (2, (eI b2)), (7, (eI i7)), (8, (eI j8))] ∧ aM ⟨H0, [lo0p], []⟩ H [(lo0p, 1, List.map (eI) aA)] ∧ List.length aA = N0 ∧ hU aA a1 b2 i7 j8 = some r) ?_ ⟨aA, wR (a1 + (1 : Int)), (0 : Int), .eq (by kernel_rfl), hO, hN, h0⟩
 clear hO hN h0
 rintro T H ⟨aA, i7, j8, hT, hO, hN, h0⟩
 refine bF hT ?_
 clear hT
 unfold hU at h0
 obtain ⟨rr0, hl0, h0⟩ := aW h0
 refine dK (by kernel_rfl) (fun (s : List Int × Int × Int) T H => Has T [(0, (.msl 1 lo0p 0 (List.length s.1))), (1, (eI a1)), (2, (eI b2)), (7, (eI s.2.1)), (8, (eI s.2.2))] ∧ aM ⟨H0, [lo0p], []⟩ H [(lo0p, 1, List.map (eI) s.1)] ∧ List.length s.1 = N0) hl0 ⟨.eq (by kernel_rfl), hO, hN⟩ ?_
 clear hO hN
 rintro k0 s out1 T H ⟨hT, hO, hN⟩ h1 ho0
 obtain ⟨aA, i7, j8⟩ := s
 replace h1 : cB a1 b2 aA i7 j8 = some out1 := h1
 try dsimp only at hT
 refine bF hT ?_
 clear hT
 unfold cB at h1
 refine aO ?_
 refine aX aC 2 [] [(14, (aD (decide (j8 < (5 : Int)))))] ?_
 refine bK h1 (fun h1 => ?_) (fun h1 => ?_)
 ·refine bN ?_
  refine bD [(0, (.msl 1 lo0p 0 (List.length aA))), (1, (eI a1)), (2, (eI b2)), (7, (eI i7)), (8, (eI j8))] ?_
  refine eR (fun T H => ∃ aA : List Int, ∃ i7 : Int, Has T [(0, (.msl 1 lo0p 0 (List.length aA))), (1, (eI a1)), (2, (eI b2)), (7, (eI i7)), (8, (eI j8))] ∧ aM ⟨H0, [lo0p], []⟩ H [(lo0p, 1, List.map (eI) aA)] ∧ List.length aA = N0 ∧ dW aA a1 b2 i7 j8 = some out1) ?_ ?_
  ·clear hO hN h1
   rintro T H ⟨aA, i7, hT, hO, hN, h1⟩
   refine bF hT ?_
   clear hT
   unfold dW at h1
   refine aS aC 3 ?_
   refine bA ?_
   exact aF (aG (⟨rfl, _, (oI h1).symm, .eq (by kernel_rfl), hO, hN⟩))
  refine bX 1 ?_
  refine eR (fun T H => ∃ aA : List Int, ∃ i7 : Int, Has T [(0, (.msl 1 lo0p 0 (List.length aA))), (1, (eI a1)), (2, (eI b2)), (7, (eI i7)), (8, (eI j8))] ∧ aM ⟨H0, [lo0p], []⟩ H [(lo0p, 1, List.map (eI) aA)] ∧ List.length aA = N0 ∧ eW aA a1 b2 i7 j8 = some out1) ?_ ?_
  ·clear hO hN h1
   rintro T H ⟨aA, i7, hT, hO, hN, h1⟩
   refine bF hT ?_
   clear hT
   unfold eW at h1
   refine aO ?_
   refine aX aC 3 [] [(37, (aD (decide (i7 = b2))))] ?_
   refine bK h1 (fun h1 => ?_) (fun h1 => ?_)
   ·refine aX aC 1 [1, 2, 7, 8, 37] [(6, (aD true))] ?_
    refine bG ?_
    obtain rfl := oI h1
    obtain rfl : _ = rr0 := ho0
    replace h0 : some (true, aA) = some r := h0
    obtain rfl := oI h0
    exact aF (aT (bC (aT (aT (bC (aT (kA (x := (aD true)) (by kernel_rfl) (aR.refl _) ⟨rfl, hO.ext, hO.at 0 (by kernel_rfl), by first | rfl | (simp only [List.length_map]; exact hN.trans hN0)⟩)))))))
   refine bN ?_
   refine bD [(0, (.msl 1 lo0p 0 (List.length aA))), (1, (eI a1)), (2, (eI b2)), (7, (eI i7)), (8, (eI j8))] ?_
   refine aO ?_
   refine aX aC 4 [] [(41, (aD (decide ((wR (b2 - a1)) < (50 : Int)))))] ?_
   refine bK h1 (fun h1 => ?_) (fun h1 => ?_)
   ·refine aX aC 1 [1, 2, 7, 8, 41] [(6, (aD false))] ?_
    refine bG ?_
    obtain rfl := oI h1
    obtain rfl : _ = rr0 := ho0
    replace h0 : some (false, aA) = some r := h0
    obtain rfl := oI h0
    exact aF (aT (bC (aT (aT (bC (aT (kA (x := (aD false)) (by kernel_rfl) (aR.refl _) ⟨rfl, hO.ext, hO.at 0 (by kernel_rfl), by first | rfl | (simp only [List.length_map]; exact hN.trans hN0)⟩)))))))
   refine bN ?_
   refine bD [(0, (.msl 1 lo0p 0 (List.length aA))), (1, (eI a1)), (2, (eI b2)), (7, (eI i7)), (8, (eI j8))] ?_
   refine aO ?_
   refine fS (fR []) aC 18 ?_
   obtain ⟨c4, h1⟩ := aZ h1
   refine cJ 9 [0 ≤ (wR (i7 - (1 : Int))) ∧ (wR (i7 - (1 : Int))) < (lN aA)] ⟨c4, trivial⟩ ?_
   refine fY 0 lo0p 1 (0 + Int.toNat (wR (i7 - (1 : Int)))) (eI (gD aA (wR (i7 - (1 : Int))))) (eI (gD aA (wR (i7 - (1 : Int))))) (List.map (eI) aA) hO (cA c4) ?_
   obtain ⟨c5, h1⟩ := aZ h1
   refine cJ 13 [0 ≤ i7 ∧ i7 < (lN aA)] ⟨c5, trivial⟩ ?_
   refine fY 0 lo0p 1 (0 + Int.toNat i7) (eI (gD aA i7)) (eI (gD aA i7)) (List.map (eI) aA) hO (cA c5) ?_
   obtain ⟨c6, h1⟩ := aZ h1
   refine cJ 15 [0 ≤ i7 ∧ i7 < (lN aA)] ⟨c6, trivial⟩ ?_
   refine kZ 0 lo0p 1 (0 + Int.toNat i7) (eI (gD aA i7)) (eI (gD aA (wR (i7 - (1 : Int))))) (List.map (eI) aA) [(lo0p, 1, List.map (eI) (List.set aA (Int.toNat i7) (gD aA (wR (i7 - (1 : Int))))))] hO (cA c6) (by simp only [List.set, iI]) ?_
   intro H hO
   replace hN : List.length (List.set aA (Int.toNat i7) (gD aA (wR (i7 - (1 : Int))))) = N0 := by simpa using hN
   obtain ⟨c7, h1⟩ := aZ h1
   refine cJ 17 [0 ≤ (wR (i7 - (1 : Int))) ∧ (wR (i7 - (1 : Int))) < (lN aA)] ⟨c7, trivial⟩ ?_
   refine kZ 0 lo0p 1 (0 + Int.toNat (wR (i7 - (1 : Int)))) (eI (gD (List.set aA (Int.toNat i7) (gD aA (wR (i7 - (1 : Int))))) (wR (i7 - (1 : Int))))) (eI (gD aA i7)) (List.map (eI) (List.set aA (Int.toNat i7) (gD aA (wR (i7 - (1 : Int)))))) [(lo0p, 1, List.map (eI) (List.set (List.set aA (Int.toNat i7) (gD aA (wR (i7 - (1 : Int))))) (Int.toNat (wR (i7 - (1 : Int)))) (gD aA i7)))] hO (oS c7 (by simp [])) (by simp only [List.set, iI]) ?_
   intro H hO
   replace hN : List.length (List.set (List.set aA (Int.toNat i7) (gD aA (wR (i7 - (1 : Int))))) (Int.toNat (wR (i7 - (1 : Int)))) (gD aA i7)) = N0 := by simpa using hN
   refine nO (by kernel_rfl) ?_
   refine dJ (l := [(0, (.msl 1 lo0p 0 (List.length (List.set (List.set aA (Int.toNat i7) (gD aA (wR (i7 - (1 : Int))))) (Int.toNat (wR (i7 - (1 : Int)))) (gD aA i7))))), (1, (eI a1)), (2, (eI b2)), (7, (eI i7)), (8, (eI j8))]) ⟨[(0, (.msl 1 lo0p 0 (List.length aA))), (1, (eI a1)), (2, (eI b2)), (7, (eI i7)), (8, (eI j8))], by kernel_rfl, rfl, ⟨aR.eq (by simp []), aR.refl _, aR.refl _, aR.refl _, aR.refl _, trivial⟩⟩ ?_
   refine aF (aG (?_))
   refine eR (fun T H => ∃ aA : List Int, Has T [(0, (.msl 1 lo0p 0 (List.length aA))), (1, (eI a1)), (2, (eI b2)), (7, (eI i7)), (8, (eI j8))] ∧ aM ⟨H0, [lo0p], []⟩ H [(lo0p, 1, List.map (eI) aA)] ∧ List.length aA = N0 ∧ cL aA a1 b2 i7 j8 = some out1) ?_ ?_
   ·clear hO hN h1
    rintro T H ⟨aA, hT, hO, hN, h1⟩
    refine bF hT ?_
    clear hT
    unfold cL at h1
    refine aX aC 4 [] [(98, (aD (decide ((2 : Int) ≤ (wR (b2 - i7))))))] ?_
    refine bK h1 (fun h1 => ?_) (fun h1 => ?_)
    ·refine aX aC 3 [98] [(10, (eI (wR (i7 + (1 : Int)))))] ?_
     refine bX 6 ?_
     refine eD [(0, (.msl 1 lo0p 0 (List.length aA))), (1, (eI a1)), (2, (eI b2)), (7, (eI i7)), (8, (eI j8)), (10, (eI (wR (i7 + (1 : Int)))))] ?_
     refine eE (fun T H => ∃ aA : List Int, ∃ j10 : Int, Has T [(0, (.msl 1 lo0p 0 (List.length aA))), (1, (eI a1)), (2, (eI b2)), (7, (eI i7)), (8, (eI j8)), (10, (eI j10))] ∧ aM ⟨H0, [lo0p], []⟩ H [(lo0p, 1, List.map (eI) aA)] ∧ List.length aA = N0 ∧ gZ aA a1 b2 i7 j8 j10 = some out1) ?_ ⟨aA, wR (i7 + (1 : Int)), .eq (by kernel_rfl), hO, hN, h1⟩
     clear hO hN h1
     rintro T H ⟨aA, j10, hT, hO, hN, h1⟩
     refine bF hT ?_
     clear hT
     unfold gZ at h1
     obtain ⟨rr1, hl1, h1⟩ := aW h1
     refine dK (by kernel_rfl) (fun (s : List Int × Int) T H => Has T [(0, (.msl 1 lo0p 0 (List.length s.1))), (1, (eI a1)), (2, (eI b2)), (7, (eI i7)), (8, (eI j8)), (10, (eI s.2))] ∧ aM ⟨H0, [lo0p], []⟩ H [(lo0p, 1, List.map (eI) s.1)] ∧ List.length s.1 = N0) hl1 ⟨.eq (by kernel_rfl), hO, hN⟩ ?_
     clear hO hN
     rintro k1 s out2 T H ⟨hT, hO, hN⟩ h2 ho1
     obtain ⟨aA, j10⟩ := s
     replace h2 : cS a1 b2 i7 j8 aA j10 = some out2 := h2
     try dsimp only at hT
     refine bF hT ?_
     clear hT
     unfold cS at h2
     refine aO ?_
     refine aX aC 3 [] [(103, (aD (decide (j10 < b2))))] ?_
     refine bK h2 (fun h2 => ?_) (fun h2 => ?_)
     ·refine bN ?_
      refine bD [(0, (.msl 1 lo0p 0 (List.length aA))), (1, (eI a1)), (2, (eI b2)), (7, (eI i7)), (8, (eI j8)), (10, (eI j10))] ?_
      refine aO ?_
      refine bX 7 ?_
      refine aO ?_
      refine aO ?_
      refine fS (fR [115]) aC 11 ?_
      obtain ⟨c10, h2⟩ := aZ h2
      refine cJ 3 [0 ≤ j10 ∧ j10 < (lN aA)] ⟨c10, trivial⟩ ?_
      refine fY 0 lo0p 1 (0 + Int.toNat j10) (eI (gD aA j10)) (eI (gD aA j10)) (List.map (eI) aA) hO (cA c10) ?_
      obtain ⟨c11, h2⟩ := aZ h2
      refine cJ 8 [0 ≤ (wR (j10 - (1 : Int))) ∧ (wR (j10 - (1 : Int))) < (lN aA)] ⟨c11, trivial⟩ ?_
      refine fY 0 lo0p 1 (0 + Int.toNat (wR (j10 - (1 : Int)))) (eI (gD aA (wR (j10 - (1 : Int))))) (eI (gD aA (wR (j10 - (1 : Int))))) (List.map (eI) aA) hO (cA c11) ?_
      obtain ⟨x12, hx13, h2⟩ := aW h2
      refine AY (fX (gD aA j10) (gD aA (wR (j10 - (1 : Int)))) _ hx13) hO ?_
      intro H hO
      refine kI ?_
      refine bP [] [(116, (aD (!x12)))] ?_
      refine bK h2 (fun h2 => ?_) (fun h2 => ?_)
      ·refine gJ 6 ?_
       obtain rfl := oI h2
       obtain rfl : _ = rr1 := ho1
       replace h1 : dW aA a1 b2 i7 j8 = some out1 := h1
       exact aF (aY (vB (by kernel_rfl) (aY (aY (bV (aV (aG (⟨rfl, _, _, .eq (by kernel_rfl), hO, hN, h1⟩))))))))
      refine bN ?_
      refine bD [(0, (.msl 1 lo0p 0 (List.length aA))), (1, (eI a1)), (2, (eI b2)), (7, (eI i7)), (8, (eI j8)), (10, (eI j10))] ?_
      refine fS (fR []) aC 18 ?_
      obtain ⟨c16, h2⟩ := aZ h2
      refine cJ 9 [0 ≤ (wR (j10 - (1 : Int))) ∧ (wR (j10 - (1 : Int))) < (lN aA)] ⟨c16, trivial⟩ ?_
      refine fY 0 lo0p 1 (0 + Int.toNat (wR (j10 - (1 : Int)))) (eI (gD aA (wR (j10 - (1 : Int))))) (eI (gD aA (wR (j10 - (1 : Int))))) (List.map (eI) aA) hO (cA c16) ?_
      obtain ⟨c17, h2⟩ := aZ h2
      refine cJ 13 [0 ≤ j10 ∧ j10 < (lN aA)] ⟨c17, trivial⟩ ?_
      refine fY 0 lo0p 1 (0 + Int.toNat j10) (eI (gD aA j10)) (eI (gD aA j10)) (List.map (eI) aA) hO (cA c17) ?_
      obtain ⟨c18, h2⟩ := aZ h2
      refine cJ 15 [0 ≤ j10 ∧ j10 < (lN aA)] ⟨c18, trivial⟩ ?_
      refine kZ 0 lo0p 1 (0 + Int.toNat j10) (eI (gD aA j10)) (eI (gD aA (wR (j10 - (1 : Int))))) (List.map (eI) aA) [(lo0p, 1, List.map (eI) (List.set aA (Int.toNat j10) (gD aA (wR (j10 - (1 : Int))))))] hO (cA c18) (by simp only [List.set, iI]) ?_
      intro H hO
      replace hN : List.length (List.set aA (Int.toNat j10) (gD aA (wR (j10 - (1 : Int))))) = N0 := by simpa using hN
      obtain ⟨c19, h2⟩ := aZ h2
      refine cJ 17 [0 ≤ (wR (j10 - (1 : Int))) ∧ (wR (j10 - (1 : Int))) < (lN aA)] ⟨c19, trivial⟩ ?_
      refine kZ 0 lo0p 1 (0 + Int.toNat (wR (j10 - (1 : Int)))) (eI (gD (List.set aA (Int.toNat j10) (gD aA (wR (j10 - (1 : Int))))) (wR (j10 - (1 : Int))))) (eI (gD aA j10)) (List.map (eI) (List.set aA (Int.toNat j10) (gD aA (wR (j10 - (1 : Int)))))) [(lo0p, 1, List.map (eI) (List.set (List.set aA (Int.toNat j10) (gD aA (wR (j10 - (1 : Int))))) (Int.toNat (wR (j10 - (1 : Int)))) (gD aA j10)))] hO (oS c19 (by simp [])) (by simp only [List.set, iI]) ?_
      intro H hO
      replace hN : List.length (List.set (List.set aA (Int.toNat j10) (gD aA (wR (j10 - (1 : Int))))) (Int.toNat (wR (j10 - (1 : Int)))) (gD aA j10)) = N0 := by simpa using hN
      refine nO (by kernel_rfl) ?_
      refine dJ (l := [(0, (.msl 1 lo0p 0 (List.length (List.set (List.set aA (Int.toNat j10) (gD aA (wR (j10 - (1 : Int))))) (Int.toNat (wR (j10 - (1 : Int)))) (gD aA j10))))), (1, (eI a1)), (2, (eI b2)), (7, (eI i7)), (8, (eI j8)), (10, (eI j10))]) ⟨[(0, (.msl 1 lo0p 0 (List.length aA))), (1, (eI a1)), (2, (eI b2)), (7, (eI i7)), (8, (eI j8)), (10, (eI j10))], by kernel_rfl, rfl, ⟨aR.eq (by simp []), aR.refl _, aR.refl _, aR.refl _, aR.refl _, aR.refl _, trivial⟩⟩ ?_
      refine aF (aV (aG (?_)))
      refine aS aC 3 ?_
      refine bA ?_
      exact aF (aG (⟨rfl, _, (oI h2).symm, .eq (by kernel_rfl), hO, hN⟩))
     refine gJ 6 ?_
     obtain rfl := oI h2
     obtain rfl : _ = rr1 := ho1
     replace h1 : dW aA a1 b2 i7 j8 = some out1 := h1
     exact aF (aY (aY (bV (aV (aG (⟨rfl, _, _, .eq (by kernel_rfl), hO, hN, h1⟩))))))
    refine bN ?_
    exact aF (aV (aG (⟨rfl, _, _, .eq (by kernel_rfl), hO, hN, h1⟩)))
   refine aX aC 4 [] [(61, (aD (decide ((2 : Int) ≤ (wR (i7 - a1))))))] ?_
   refine bK h1 (fun h1 => ?_) (fun h1 => ?_)
   ·refine aX aC 3 [61] [(9, (eI (wR (i7 - (1 : Int)))))] ?_
    refine bX 4 ?_
    refine eD [(0, (.msl 1 lo0p 0 (List.length (List.set (List.set aA (Int.toNat i7) (gD aA (wR (i7 - (1 : Int))))) (Int.toNat (wR (i7 - (1 : Int)))) (gD aA i7))))), (1, (eI a1)), (2, (eI b2)), (7, (eI i7)), (8, (eI j8)), (9, (eI (wR (i7 - (1 : Int)))))] ?_
    refine eE (fun T H => ∃ aA : List Int, ∃ j9 : Int, Has T [(0, (.msl 1 lo0p 0 (List.length aA))), (1, (eI a1)), (2, (eI b2)), (7, (eI i7)), (8, (eI j8)), (9, (eI j9))] ∧ aM ⟨H0, [lo0p], []⟩ H [(lo0p, 1, List.map (eI) aA)] ∧ List.length aA = N0 ∧ iA aA a1 b2 i7 j8 j9 = some out1) ?_ ⟨List.set (List.set aA (Int.toNat i7) (gD aA (wR (i7 - (1 : Int))))) (Int.toNat (wR (i7 - (1 : Int)))) (gD aA i7), wR (i7 - (1 : Int)), .eq (by kernel_rfl), hO, hN, h1⟩
    clear hO hN h1
    rintro T H ⟨aA, j9, hT, hO, hN, h1⟩
    refine bF hT ?_
    clear hT
    unfold iA at h1
    obtain ⟨rr1, hl1, h1⟩ := aW h1
    refine dK (by kernel_rfl) (fun (s : List Int × Int) T H => Has T [(0, (.msl 1 lo0p 0 (List.length s.1))), (1, (eI a1)), (2, (eI b2)), (7, (eI i7)), (8, (eI j8)), (9, (eI s.2))] ∧ aM ⟨H0, [lo0p], []⟩ H [(lo0p, 1, List.map (eI) s.1)] ∧ List.length s.1 = N0) hl1 ⟨.eq (by kernel_rfl), hO, hN⟩ ?_
    clear hO hN
    rintro k1 s out2 T H ⟨hT, hO, hN⟩ h2 ho1
    obtain ⟨aA, j9⟩ := s
    replace h2 : cM a1 b2 i7 j8 aA j9 = some out2 := h2
    try dsimp only at hT
    refine bF hT ?_
    clear hT
    unfold cM at h2
    refine aO ?_
    refine aX aC 2 [] [(65, (aD (decide ((1 : Int) ≤ j9))))] ?_
    refine bK h2 (fun h2 => ?_) (fun h2 => ?_)
    ·refine bN ?_
     refine bD [(0, (.msl 1 lo0p 0 (List.length aA))), (1, (eI a1)), (2, (eI b2)), (7, (eI i7)), (8, (eI j8)), (9, (eI j9))] ?_
     refine aO ?_
     refine bX 5 ?_
     refine aO ?_
     refine aO ?_
     refine fS (fR [77]) aC 11 ?_
     obtain ⟨c22, h2⟩ := aZ h2
     refine cJ 3 [0 ≤ j9 ∧ j9 < (lN aA)] ⟨c22, trivial⟩ ?_
     refine fY 0 lo0p 1 (0 + Int.toNat j9) (eI (gD aA j9)) (eI (gD aA j9)) (List.map (eI) aA) hO (cA c22) ?_
     obtain ⟨c23, h2⟩ := aZ h2
     refine cJ 8 [0 ≤ (wR (j9 - (1 : Int))) ∧ (wR (j9 - (1 : Int))) < (lN aA)] ⟨c23, trivial⟩ ?_
     refine fY 0 lo0p 1 (0 + Int.toNat (wR (j9 - (1 : Int)))) (eI (gD aA (wR (j9 - (1 : Int))))) (eI (gD aA (wR (j9 - (1 : Int))))) (List.map (eI) aA) hO (cA c23) ?_
     obtain ⟨x24, hx25, h2⟩ := aW h2
     refine AY (fX (gD aA j9) (gD aA (wR (j9 - (1 : Int)))) _ hx25) hO ?_
     intro H hO
     refine kI ?_
     refine bP [] [(78, (aD (!x24)))] ?_
     refine bK h2 (fun h2 => ?_) (fun h2 => ?_)
     ·refine gJ 4 ?_
      obtain rfl := oI h2
      obtain rfl : _ = rr1 := ho1
      replace h1 : cL aA a1 b2 i7 j8 = some out1 := h1
      exact aF (aY (vB (by kernel_rfl) (aY (aY (bV (aG (⟨rfl, _, .eq (by kernel_rfl), hO, hN, h1⟩)))))))
     refine bN ?_
     refine bD [(0, (.msl 1 lo0p 0 (List.length aA))), (1, (eI a1)), (2, (eI b2)), (7, (eI i7)), (8, (eI j8)), (9, (eI j9))] ?_
     refine fS (fR []) aC 18 ?_
     obtain ⟨c28, h2⟩ := aZ h2
     refine cJ 9 [0 ≤ (wR (j9 - (1 : Int))) ∧ (wR (j9 - (1 : Int))) < (lN aA)] ⟨c28, trivial⟩ ?_
     refine fY 0 lo0p 1 (0 + Int.toNat (wR (j9 - (1 : Int)))) (eI (gD aA (wR (j9 - (1 : Int))))) (eI (gD aA (wR (j9 - (1 : Int))))) (List.map (eI) aA) hO (cA c28) ?_
     obtain ⟨c29, h2⟩ := aZ h2
     refine cJ 13 [0 ≤ j9 ∧ j9 < (lN aA)] ⟨c29, trivial⟩ ?_
     refine fY 0 lo0p 1 (0 + Int.toNat j9) (eI (gD aA j9)) (eI (gD aA j9)) (List.map (eI) aA) hO (cA c29) ?_
     obtain ⟨c30, h2⟩ := aZ h2
     refine cJ 15 [0 ≤ j9 ∧ j9 < (lN aA)] ⟨c30, trivial⟩ ?_
     refine kZ 0 lo0p 1 (0 + Int.toNat j9) (eI (gD aA j9)) (eI (gD aA (wR (j9 - (1 : Int))))) (List.map (eI) aA) [(lo0p, 1, List.map (eI) (List.set aA (Int.toNat j9) (gD aA (wR (j9 - (1 : Int))))))] hO (cA c30) (by simp only [List.set, iI]) ?_
     intro H hO
     replace hN : List.length (List.set aA (Int.toNat j9) (gD aA (wR (j9 - (1 : Int))))) = N0 := by simpa using hN
     obtain ⟨c31, h2⟩ := aZ h2
     refine cJ 17 [0 ≤ (wR (j9 - (1 : Int))) ∧ (wR (j9 - (1 : Int))) < (lN aA)] ⟨c31, trivial⟩ ?_
     refine kZ 0 lo0p 1 (0 + Int.toNat (wR (j9 - (1 : Int)))) (eI (gD (List.set aA (Int.toNat j9) (gD aA (wR (j9 - (1 : Int))))) (wR (j9 - (1 : Int))))) (eI (gD aA j9)) (List.map (eI) (List.set aA (Int.toNat j9) (gD aA (wR (j9 - (1 : Int)))))) [(lo0p, 1, List.map (eI) (List.set (List.set aA (Int.toNat j9) (gD aA (wR (j9 - (1 : Int))))) (Int.toNat (wR (j9 - (1 : Int)))) (gD aA j9)))] hO (oS c31 (by simp [])) (by simp only [List.set, iI]) ?_
     intro H hO
     replace hN : List.length (List.set (List.set aA (Int.toNat j9) (gD aA (wR (j9 - (1 : Int))))) (Int.toNat (wR (j9 - (1 : Int)))) (gD aA j9)) = N0 := by simpa using hN
     refine nO (by kernel_rfl) ?_
     refine dJ (l := [(0, (.msl 1 lo0p 0 (List.length (List.set (List.set aA (Int.toNat j9) (gD aA (wR (j9 - (1 : Int))))) (Int.toNat (wR (j9 - (1 : Int)))) (gD aA j9))))), (1, (eI a1)), (2, (eI b2)), (7, (eI i7)), (8, (eI j8)), (9, (eI j9))]) ⟨[(0, (.msl 1 lo0p 0 (List.length aA))), (1, (eI a1)), (2, (eI b2)), (7, (eI i7)), (8, (eI j8)), (9, (eI j9))], by kernel_rfl, rfl, ⟨aR.eq (by simp []), aR.refl _, aR.refl _, aR.refl _, aR.refl _, aR.refl _, trivial⟩⟩ ?_
     refine aF (aV (aG (?_)))
     refine aS aC 3 ?_
     refine bA ?_
     exact aF (aG (⟨rfl, _, (oI h2).symm, .eq (by kernel_rfl), hO, hN⟩))
    refine gJ 4 ?_
    obtain rfl := oI h2
    obtain rfl : _ = rr1 := ho1
    replace h1 : cL aA a1 b2 i7 j8 = some out1 := h1
    exact aF (aY (aY (bV (aG (⟨rfl, _, .eq (by kernel_rfl), hO, hN, h1⟩)))))
   refine bN ?_
   exact aF (aG (⟨rfl, _, .eq (by kernel_rfl), hO, hN, h1⟩))
  refine bX 2 ?_
  refine eD [(0, (.msl 1 lo0p 0 (List.length aA))), (1, (eI a1)), (2, (eI b2)), (7, (eI i7)), (8, (eI j8))] ?_
  refine eE (fun T H => ∃ aA : List Int, ∃ i7 : Int, Has T [(0, (.msl 1 lo0p 0 (List.length aA))), (1, (eI a1)), (2, (eI b2)), (7, (eI i7)), (8, (eI j8))] ∧ aM ⟨H0, [lo0p], []⟩ H [(lo0p, 1, List.map (eI) aA)] ∧ List.length aA = N0 ∧ dM aA a1 b2 i7 j8 = some out1) ?_ ⟨aA, i7, .eq (by kernel_rfl), hO, hN, h1⟩
  clear hO hN h1
  rintro T H ⟨aA, i7, hT, hO, hN, h1⟩
  refine bF hT ?_
  clear hT
  unfold dM at h1
  obtain ⟨rr1, hl1, h1⟩ := aW h1
  refine dK (by kernel_rfl) (fun (s : List Int × Int) T H => Has T [(0, (.msl 1 lo0p 0 (List.length s.1))), (1, (eI a1)), (2, (eI b2)), (7, (eI s.2)), (8, (eI j8))] ∧ aM ⟨H0, [lo0p], []⟩ H [(lo0p, 1, List.map (eI) s.1)] ∧ List.length s.1 = N0) hl1 ⟨.eq (by kernel_rfl), hO, hN⟩ ?_
  clear hO hN
  rintro k1 s out2 T H ⟨hT, hO, hN⟩ h2 ho1
  obtain ⟨aA, i7⟩ := s
  replace h2 : cT a1 b2 j8 aA i7 = some out2 := h2
  try dsimp only at hT
  refine bF hT ?_
  clear hT
  unfold cT at h2
  refine aO ?_
  refine aO ?_
  obtain ⟨c32, h2⟩ := aZ h2
  obtain ⟨c33, h2⟩ := aZ h2
  obtain ⟨x34, hx35, h2⟩ := aW h2
  refine fS (fR []) aC 16 ?_
  refine qV (K := fun T H => Has (lift T) [(0, (.msl 1 lo0p 0 (List.length aA))), (1, (eI a1)), (2, (eI b2)), (7, (eI i7)), (8, (eI j8)), (32, (aD ((decide (i7 < b2)) && (!x34))))] ∧ aM ⟨H0, [lo0p], []⟩ H [(lo0p, 1, List.map (eI) aA)]) ?_ ?_
  ·refine kJ 4 ?_
   refine pN (t := 20) (e := decide (i7 < b2)) (by kernel_rfl) (fun hg36 => ?_) (fun hg36 => ?_)
   ·refine cJ 7 [0 ≤ i7 ∧ i7 < (lN aA)] ⟨(c32 hg36), trivial⟩ ?_
    refine iZ 0 lo0p 1 (0 + Int.toNat i7) (eI (gD aA i7)) (eI (gD aA i7)) (List.map (eI) aA) (by kernel_rfl) (by kernel_rfl) (by kernel_rfl) hO (by kernel_rfl) (cA (c32 hg36)) ?_
    refine cJ 12 [0 ≤ (wR (i7 - (1 : Int))) ∧ (wR (i7 - (1 : Int))) < (lN aA)] ⟨(c33 hg36), trivial⟩ ?_
    refine iZ 0 lo0p 1 (0 + Int.toNat (wR (i7 - (1 : Int)))) (eI (gD aA (wR (i7 - (1 : Int))))) (eI (gD aA (wR (i7 - (1 : Int))))) (List.map (eI) aA) (by kernel_rfl) (by kernel_rfl) (by kernel_rfl) hO (by kernel_rfl) (cA (c33 hg36)) ?_
    refine pO 54 [(eI (gD aA i7)), (eI (gD aA (wR (i7 - (1 : Int)))))] (aD x34) (by kernel_rfl) (by kernel_rfl) (fX (gD aA i7) (gD aA (wR (i7 - (1 : Int)))) _ (jG hx35 hg36)) hO ?_
    intro H hO
    refine kI ?_
    exact ⟨⟨[(0, (.msl 1 lo0p 0 (List.length aA))), (1, (eI a1)), (2, (eI b2)), (7, (eI i7)), (8, (eI j8)), (32, (aD (!x34)))], by kernel_rfl, rfl, ⟨aR.refl _, aR.refl _, aR.refl _, aR.refl _, aR.refl _, aR.eq (congrArg aD (oG hg36 rfl).symm), trivial⟩⟩, hO⟩
   refine kI ?_
   exact ⟨⟨[(0, (.msl 1 lo0p 0 (List.length aA))), (1, (eI a1)), (2, (eI b2)), (7, (eI i7)), (8, (eI j8)), (32, (aD false))], by kernel_rfl, rfl, ⟨aR.refl _, aR.refl _, aR.refl _, aR.refl _, aR.refl _, aR.eq (congrArg aD (oG hg36 rfl).symm), trivial⟩⟩, hO⟩
  ·rintro T H ⟨hT, hO⟩
   refine dJ hT ?_
   clear hT
   refine aF (aG ?_)
   refine bK h2 (fun h2 => ?_) (fun h2 => ?_)
   ·refine bN ?_
    refine bD [(0, (.msl 1 lo0p 0 (List.length aA))), (1, (eI a1)), (2, (eI b2)), (7, (eI i7)), (8, (eI j8))] ?_
    refine bX 3 ?_
    refine aS aC 3 ?_
    refine bA ?_
    exact aF (aV (aG (⟨rfl, _, (oI h2).symm, .eq (by kernel_rfl), hO, hN⟩)))
   refine gJ 2 ?_
   obtain rfl := oI h2
   obtain rfl : _ = rr1 := ho1
   replace h1 : eW aA a1 b2 i7 j8 = some out1 := h1
   exact aF (aY (aY (bV (aG (⟨rfl, _, _, .eq (by kernel_rfl), hO, hN, h1⟩)))))
 refine gJ 0 ?_
 obtain rfl := oI h1
 obtain rfl : _ = rr0 := ho0
 replace h0 : eV aA = some r := h0
 exact aF (aY (aY (bV (aG (⟨rfl, _, .eq (by kernel_rfl), hO, hN, h0⟩)))))

theorem xV (lo0p : Nat) (aA : (List Int)) (a1 : Int) (b2 : Int) (cN : Int) (r : (Int × List Int)) (h0 : fG aA a1 b2 cN = some r) : rF Try.prog 81 lo0p 1 (List.map (eI) aA) (List.map (eI) r.2) [(.msl 1 lo0p 0 (List.length aA)), (eI a1), (eI b2), (eI cN)] (eI r.1) := by
 intro H0 hl0
 refine cY Try.func81 ?_
 have hO := aM.tH hl0
 clear hl0
 obtain ⟨N0, hN0⟩ : ∃ n, n = List.length aA := ⟨_, rfl⟩
 have hN : List.length aA = N0 := hN0.symm
 unfold fG at h0
 refine aX aC 1 [] [] ?_
 refine aO ?_
 refine fS (fR []) aC 16 ?_
 obtain ⟨c1, h0⟩ := aZ h0
 refine cJ 7 [0 ≤ cN ∧ cN < (lN aA)] ⟨c1, trivial⟩ ?_
 refine fY 0 lo0p 1 (0 + Int.toNat cN) (eI (gD aA cN)) (eI (gD aA cN)) (List.map (eI) aA) hO (cA c1) ?_
 obtain ⟨c2, h0⟩ := aZ h0
 refine cJ 11 [0 ≤ a1 ∧ a1 < (lN aA)] ⟨c2, trivial⟩ ?_
 refine fY 0 lo0p 1 (0 + Int.toNat a1) (eI (gD aA a1)) (eI (gD aA a1)) (List.map (eI) aA) hO (cA c2) ?_
 obtain ⟨c3, h0⟩ := aZ h0
 refine cJ 13 [0 ≤ a1 ∧ a1 < (lN aA)] ⟨c3, trivial⟩ ?_
 refine kZ 0 lo0p 1 (0 + Int.toNat a1) (eI (gD aA a1)) (eI (gD aA cN)) (List.map (eI) aA) [(lo0p, 1, List.map (eI) (List.set aA (Int.toNat a1) (gD aA cN)))] hO (cA c3) (by simp only [List.set, iI]) ?_
 intro H hO
 replace hN : List.length (List.set aA (Int.toNat a1) (gD aA cN)) = N0 := by simpa using hN
 obtain ⟨c4, h0⟩ := aZ h0
 refine cJ 15 [0 ≤ cN ∧ cN < (lN aA)] ⟨c4, trivial⟩ ?_
 refine kZ 0 lo0p 1 (0 + Int.toNat cN) (eI (gD (List.set aA (Int.toNat a1) (gD aA cN)) cN)) (eI (gD aA a1)) (List.map (eI) (List.set aA (Int.toNat a1) (gD aA cN))) [(lo0p, 1, List.map (eI) (List.set (List.set aA (Int.toNat a1) (gD aA cN)) (Int.toNat cN) (gD aA a1)))] hO (oS c4 (by simp [])) (by simp only [List.set, iI]) ?_
 intro H hO
 replace hN : List.length (List.set (List.set aA (Int.toNat a1) (gD aA cN)) (Int.toNat cN) (gD aA a1)) = N0 := by simpa using hN
 refine nO (by kernel_rfl) ?_
 refine dJ (l := [(0, (.msl 1 lo0p 0 (List.length (List.set (List.set aA (Int.toNat a1) (gD aA cN)) (Int.toNat cN) (gD aA a1))))), (1, (eI a1)), (2, (eI b2))]) ⟨[(0, (.msl 1 lo0p 0 (List.length aA))), (1, (eI a1)), (2, (eI b2))], by kernel_rfl, rfl, ⟨aR.eq (by simp []), aR.refl _, aR.refl _, trivial⟩⟩ ?_
 refine aF (aG (?_))
 refine aX aC 6 [2] [(9, (eI (wR (a1 + (1 : Int))))), (10, (eI (wR (b2 - (1 : Int)))))] ?_
 refine eR (fun T H => ∃ aA : List Int, ∃ i9 : Int, Has T [(0, (.msl 1 lo0p 0 (List.length aA))), (9, (eI i9))] ∧ aM ⟨H0, [lo0p], []⟩ H [(lo0p, 1, List.map (eI) aA)] ∧ List.length aA = N0 ∧ jP aA i9 = some r) ?_ ?_
 ·clear hO hN h0
  rintro T H ⟨aA, i9, hT, hO, hN, h0⟩
  refine bF hT ?_
  clear hT
  unfold jP at h0
  refine aX aC 2 [9] [(8, (eI i9))] ?_
  refine bG ?_
  obtain rfl := oI h0
  exact aF (kA (x := (eI i9)) (by kernel_rfl) (aR.refl _) ⟨rfl, hO.ext, hO.at 0 (by kernel_rfl), by first | rfl | (simp only [List.length_map]; exact hN.trans hN0)⟩)
 refine bX 0 ?_
 refine eD [(0, (.msl 1 lo0p 0 (List.length (List.set (List.set aA (Int.toNat a1) (gD aA cN)) (Int.toNat cN) (gD aA a1))))), (1, (eI a1)), (9, (eI (wR (a1 + (1 : Int))))), (10, (eI (wR (b2 - (1 : Int)))))] ?_
 refine eE (fun T H => ∃ aA : List Int, ∃ i9 : Int, ∃ j10 : Int, Has T [(0, (.msl 1 lo0p 0 (List.length aA))), (1, (eI a1)), (9, (eI i9)), (10, (eI j10))] ∧ aM ⟨H0, [lo0p], []⟩ H [(lo0p, 1, List.map (eI) aA)] ∧ List.length aA = N0 ∧ jM aA a1 i9 j10 = some r) ?_ ⟨List.set (List.set aA (Int.toNat a1) (gD aA cN)) (Int.toNat cN) (gD aA a1), wR (a1 + (1 : Int)), wR (b2 - (1 : Int)), .eq (by kernel_rfl), hO, hN, h0⟩
 clear hO hN h0
 rintro T H ⟨aA, i9, j10, hT, hO, hN, h0⟩
 refine bF hT ?_
 clear hT
 unfold jM at h0
 obtain ⟨rr0, hl0, h0⟩ := aW h0
 refine dK (by kernel_rfl) (fun (s : List Int × Int × Int) T H => Has T [(0, (.msl 1 lo0p 0 (List.length s.1))), (1, (eI a1)), (9, (eI s.2.1)), (10, (eI s.2.2))] ∧ aM ⟨H0, [lo0p], []⟩ H [(lo0p, 1, List.map (eI) s.1)] ∧ List.length s.1 = N0) hl0 ⟨.eq (by kernel_rfl), hO, hN⟩ ?_
 clear hO hN
 rintro k0 s out1 T H ⟨hT, hO, hN⟩ h1 ho0
 obtain ⟨aA, i9, j10⟩ := s
 replace h1 : dB a1 aA i9 j10 = some out1 := h1
 try dsimp only at hT
 refine bF hT ?_
 clear hT
 unfold dB at h1
 refine bX 1 ?_
 refine eR (fun T H => ∃ aA : List Int, ∃ i9 : Int, Has T [(0, (.msl 1 lo0p 0 (List.length aA))), (1, (eI a1)), (9, (eI i9)), (10, (eI j10))] ∧ aM ⟨H0, [lo0p], []⟩ H [(lo0p, 1, List.map (eI) aA)] ∧ List.length aA = N0 ∧ gR aA a1 i9 j10 = some out1) ?_ ?_
 ·clear hO hN h1
  rintro T H ⟨aA, i9, hT, hO, hN, h1⟩
  refine bF hT ?_
  clear hT
  unfold gR at h1
  refine eR (fun T H => ∃ aA : List Int, ∃ j10 : Int, Has T [(0, (.msl 1 lo0p 0 (List.length aA))), (1, (eI a1)), (9, (eI i9)), (10, (eI j10))] ∧ aM ⟨H0, [lo0p], []⟩ H [(lo0p, 1, List.map (eI) aA)] ∧ List.length aA = N0 ∧ dZ aA a1 i9 j10 = some out1) ?_ ?_
  ·clear hO hN h1
   rintro T H ⟨aA, j10, hT, hO, hN, h1⟩
   refine bF hT ?_
   clear hT
   unfold dZ at h1
   refine aO ?_
   refine aX aC 3 [] [(64, (aD (decide (j10 < i9))))] ?_
   refine bK h1 (fun h1 => ?_) (fun h1 => ?_)
   ·refine gJ 0 ?_
    obtain rfl := oI h1
    obtain rfl : _ = rr0 := ho0
    replace h0 : jP aA i9 = some r := h0
    exact aF (aY (vB (by kernel_rfl) (aY (bV (aG (⟨rfl, _, _, .eq (by kernel_rfl), hO, hN, h0⟩))))))
   refine bN ?_
   refine bD [(0, (.msl 1 lo0p 0 (List.length aA))), (1, (eI a1)), (9, (eI i9)), (10, (eI j10))] ?_
   refine aO ?_
   refine fS (fR []) aC 16 ?_
   obtain ⟨c6, h1⟩ := aZ h1
   refine cJ 7 [0 ≤ j10 ∧ j10 < (lN aA)] ⟨c6, trivial⟩ ?_
   refine fY 0 lo0p 1 (0 + Int.toNat j10) (eI (gD aA j10)) (eI (gD aA j10)) (List.map (eI) aA) hO (cA c6) ?_
   obtain ⟨c7, h1⟩ := aZ h1
   refine cJ 11 [0 ≤ i9 ∧ i9 < (lN aA)] ⟨c7, trivial⟩ ?_
   refine fY 0 lo0p 1 (0 + Int.toNat i9) (eI (gD aA i9)) (eI (gD aA i9)) (List.map (eI) aA) hO (cA c7) ?_
   obtain ⟨c8, h1⟩ := aZ h1
   refine cJ 13 [0 ≤ i9 ∧ i9 < (lN aA)] ⟨c8, trivial⟩ ?_
   refine kZ 0 lo0p 1 (0 + Int.toNat i9) (eI (gD aA i9)) (eI (gD aA j10)) (List.map (eI) aA) [(lo0p, 1, List.map (eI) (List.set aA (Int.toNat i9) (gD aA j10)))] hO (cA c8) (by simp only [List.set, iI]) ?_
   intro H hO
   replace hN : List.length (List.set aA (Int.toNat i9) (gD aA j10)) = N0 := by simpa using hN
   obtain ⟨c9, h1⟩ := aZ h1
   refine cJ 15 [0 ≤ j10 ∧ j10 < (lN aA)] ⟨c9, trivial⟩ ?_
   refine kZ 0 lo0p 1 (0 + Int.toNat j10) (eI (gD (List.set aA (Int.toNat i9) (gD aA j10)) j10)) (eI (gD aA i9)) (List.map (eI) (List.set aA (Int.toNat i9) (gD aA j10))) [(lo0p, 1, List.map (eI) (List.set (List.set aA (Int.toNat i9) (gD aA j10)) (Int.toNat j10) (gD aA i9)))] hO (oS c9 (by simp [])) (by simp only [List.set, iI]) ?_
   intro H hO
   replace hN : List.length (List.set (List.set aA (Int.toNat i9) (gD aA j10)) (Int.toNat j10) (gD aA i9)) = N0 := by simpa using hN
   refine nO (by kernel_rfl) ?_
   refine dJ (l := [(0, (.msl 1 lo0p 0 (List.length (List.set (List.set aA (Int.toNat i9) (gD aA j10)) (Int.toNat j10) (gD aA i9))))), (1, (eI a1)), (9, (eI i9)), (10, (eI j10))]) ⟨[(0, (.msl 1 lo0p 0 (List.length aA))), (1, (eI a1)), (9, (eI i9)), (10, (eI j10))], by kernel_rfl, rfl, ⟨aR.eq (by simp []), aR.refl _, aR.refl _, aR.refl _, trivial⟩⟩ ?_
   refine aF (aG (?_))
   refine aX aC 3 [9] [(9, (eI (wR (i9 + (1 : Int)))))] ?_
   refine aS aC 3 ?_
   refine bA ?_
   exact aF (aV (aG (⟨rfl, _, (oI h1).symm, .eq (by kernel_rfl), hO, hN⟩)))
  refine bX 4 ?_
  refine eD [(0, (.msl 1 lo0p 0 (List.length aA))), (1, (eI a1)), (9, (eI i9)), (10, (eI j10))] ?_
  refine eE (fun T H => ∃ aA : List Int, ∃ j10 : Int, Has T [(0, (.msl 1 lo0p 0 (List.length aA))), (1, (eI a1)), (9, (eI i9)), (10, (eI j10))] ∧ aM ⟨H0, [lo0p], []⟩ H [(lo0p, 1, List.map (eI) aA)] ∧ List.length aA = N0 ∧ jR aA a1 i9 j10 = some out1) ?_ ⟨aA, j10, .eq (by kernel_rfl), hO, hN, h1⟩
  clear hO hN h1
  rintro T H ⟨aA, j10, hT, hO, hN, h1⟩
  refine bF hT ?_
  clear hT
  unfold jR at h1
  obtain ⟨rr1, hl1, h1⟩ := aW h1
  refine dK (by kernel_rfl) (fun (s : List Int × Int) T H => Has T [(0, (.msl 1 lo0p 0 (List.length s.1))), (1, (eI a1)), (9, (eI i9)), (10, (eI s.2))] ∧ aM ⟨H0, [lo0p], []⟩ H [(lo0p, 1, List.map (eI) s.1)] ∧ List.length s.1 = N0) hl1 ⟨.eq (by kernel_rfl), hO, hN⟩ ?_
  clear hO hN
  rintro k1 s out2 T H ⟨hT, hO, hN⟩ h2 ho1
  obtain ⟨aA, j10⟩ := s
  replace h2 : dX a1 i9 aA j10 = some out2 := h2
  try dsimp only at hT
  refine bF hT ?_
  clear hT
  unfold dX at h2
  refine aO ?_
  refine aO ?_
  obtain ⟨c10, h2⟩ := aZ h2
  obtain ⟨c11, h2⟩ := aZ h2
  obtain ⟨x12, hx13, h2⟩ := aW h2
  refine fS (fR []) aC 14 ?_
  refine qV (K := fun T H => Has (lift T) [(0, (.msl 1 lo0p 0 (List.length aA))), (1, (eI a1)), (9, (eI i9)), (10, (eI j10)), (59, (aD ((decide (i9 ≤ j10)) && x12)))] ∧ aM ⟨H0, [lo0p], []⟩ H [(lo0p, 1, List.map (eI) aA)]) ?_ ?_
  ·refine kJ 4 ?_
   refine pN (t := 49) (e := decide (i9 ≤ j10)) (by kernel_rfl) (fun hg14 => ?_) (fun hg14 => ?_)
   ·refine cJ 7 [0 ≤ a1 ∧ a1 < (lN aA)] ⟨(c10 hg14), trivial⟩ ?_
    refine iZ 0 lo0p 1 (0 + Int.toNat a1) (eI (gD aA a1)) (eI (gD aA a1)) (List.map (eI) aA) (by kernel_rfl) (by kernel_rfl) (by kernel_rfl) hO (by kernel_rfl) (cA (c10 hg14)) ?_
    refine cJ 11 [0 ≤ j10 ∧ j10 < (lN aA)] ⟨(c11 hg14), trivial⟩ ?_
    refine iZ 0 lo0p 1 (0 + Int.toNat j10) (eI (gD aA j10)) (eI (gD aA j10)) (List.map (eI) aA) (by kernel_rfl) (by kernel_rfl) (by kernel_rfl) hO (by kernel_rfl) (cA (c11 hg14)) ?_
    refine pO 54 [(eI (gD aA a1)), (eI (gD aA j10))] (aD x12) (by kernel_rfl) (by kernel_rfl) (fX (gD aA a1) (gD aA j10) _ (jG hx13 hg14)) hO ?_
    intro H hO
    refine kI ?_
    exact ⟨⟨[(0, (.msl 1 lo0p 0 (List.length aA))), (1, (eI a1)), (9, (eI i9)), (10, (eI j10)), (59, (aD x12))], by kernel_rfl, rfl, ⟨aR.refl _, aR.refl _, aR.refl _, aR.refl _, aR.eq (congrArg aD (oG hg14 rfl).symm), trivial⟩⟩, hO⟩
   refine kI ?_
   exact ⟨⟨[(0, (.msl 1 lo0p 0 (List.length aA))), (1, (eI a1)), (9, (eI i9)), (10, (eI j10)), (59, (aD false))], by kernel_rfl, rfl, ⟨aR.refl _, aR.refl _, aR.refl _, aR.refl _, aR.eq (congrArg aD (oG hg14 rfl).symm), trivial⟩⟩, hO⟩
  ·rintro T H ⟨hT, hO⟩
   refine dJ hT ?_
   clear hT
   refine aF (aG ?_)
   refine bK h2 (fun h2 => ?_) (fun h2 => ?_)
   ·refine bN ?_
    refine bD [(0, (.msl 1 lo0p 0 (List.length aA))), (1, (eI a1)), (9, (eI i9)), (10, (eI j10))] ?_
    refine bX 5 ?_
    refine aS aC 3 ?_
    refine bA ?_
    exact aF (aV (aG (⟨rfl, _, (oI h2).symm, .eq (by kernel_rfl), hO, hN⟩)))
   refine gJ 4 ?_
   obtain rfl := oI h2
   obtain rfl : _ = rr1 := ho1
   replace h1 : dZ aA a1 i9 j10 = some out1 := h1
   exact aF (aY (aY (bV (aG (⟨rfl, _, _, .eq (by kernel_rfl), hO, hN, h1⟩)))))
 refine bX 2 ?_
 refine eD [(0, (.msl 1 lo0p 0 (List.length aA))), (1, (eI a1)), (9, (eI i9)), (10, (eI j10))] ?_
 refine eE (fun T H => ∃ aA : List Int, ∃ i9 : Int, Has T [(0, (.msl 1 lo0p 0 (List.length aA))), (1, (eI a1)), (9, (eI i9)), (10, (eI j10))] ∧ aM ⟨H0, [lo0p], []⟩ H [(lo0p, 1, List.map (eI) aA)] ∧ List.length aA = N0 ∧ jO aA a1 i9 j10 = some out1) ?_ ⟨aA, i9, .eq (by kernel_rfl), hO, hN, h1⟩
 clear hO hN h1
 rintro T H ⟨aA, i9, hT, hO, hN, h1⟩
 refine bF hT ?_
 clear hT
 unfold jO at h1
 obtain ⟨rr1, hl1, h1⟩ := aW h1
 refine dK (by kernel_rfl) (fun (s : List Int × Int) T H => Has T [(0, (.msl 1 lo0p 0 (List.length s.1))), (1, (eI a1)), (9, (eI s.2)), (10, (eI j10))] ∧ aM ⟨H0, [lo0p], []⟩ H [(lo0p, 1, List.map (eI) s.1)] ∧ List.length s.1 = N0) hl1 ⟨.eq (by kernel_rfl), hO, hN⟩ ?_
 clear hO hN
 rintro k1 s out2 T H ⟨hT, hO, hN⟩ h2 ho1
 obtain ⟨aA, i9⟩ := s
 replace h2 : dY a1 j10 aA i9 = some out2 := h2
 try dsimp only at hT
 refine bF hT ?_
 clear hT
 unfold dY at h2
 refine aO ?_
 refine aO ?_
 obtain ⟨c16, h2⟩ := aZ h2
 obtain ⟨c17, h2⟩ := aZ h2
 obtain ⟨x18, hx19, h2⟩ := aW h2
 refine fS (fR []) aC 15 ?_
 refine qV (K := fun T H => Has (lift T) [(0, (.msl 1 lo0p 0 (List.length aA))), (1, (eI a1)), (9, (eI i9)), (10, (eI j10)), (43, (aD ((decide (i9 ≤ j10)) && (!x18))))] ∧ aM ⟨H0, [lo0p], []⟩ H [(lo0p, 1, List.map (eI) aA)]) ?_ ?_
 ·refine kJ 4 ?_
  refine pN (t := 32) (e := decide (i9 ≤ j10)) (by kernel_rfl) (fun hg20 => ?_) (fun hg20 => ?_)
  ·refine cJ 7 [0 ≤ a1 ∧ a1 < (lN aA)] ⟨(c16 hg20), trivial⟩ ?_
   refine iZ 0 lo0p 1 (0 + Int.toNat a1) (eI (gD aA a1)) (eI (gD aA a1)) (List.map (eI) aA) (by kernel_rfl) (by kernel_rfl) (by kernel_rfl) hO (by kernel_rfl) (cA (c16 hg20)) ?_
   refine cJ 11 [0 ≤ i9 ∧ i9 < (lN aA)] ⟨(c17 hg20), trivial⟩ ?_
   refine iZ 0 lo0p 1 (0 + Int.toNat i9) (eI (gD aA i9)) (eI (gD aA i9)) (List.map (eI) aA) (by kernel_rfl) (by kernel_rfl) (by kernel_rfl) hO (by kernel_rfl) (cA (c17 hg20)) ?_
   refine pO 54 [(eI (gD aA a1)), (eI (gD aA i9))] (aD x18) (by kernel_rfl) (by kernel_rfl) (fX (gD aA a1) (gD aA i9) _ (jG hx19 hg20)) hO ?_
   intro H hO
   refine kI ?_
   exact ⟨⟨[(0, (.msl 1 lo0p 0 (List.length aA))), (1, (eI a1)), (9, (eI i9)), (10, (eI j10)), (43, (aD (!x18)))], by kernel_rfl, rfl, ⟨aR.refl _, aR.refl _, aR.refl _, aR.refl _, aR.eq (congrArg aD (oG hg20 rfl).symm), trivial⟩⟩, hO⟩
  refine kI ?_
  exact ⟨⟨[(0, (.msl 1 lo0p 0 (List.length aA))), (1, (eI a1)), (9, (eI i9)), (10, (eI j10)), (43, (aD false))], by kernel_rfl, rfl, ⟨aR.refl _, aR.refl _, aR.refl _, aR.refl _, aR.eq (congrArg aD (oG hg20 rfl).symm), trivial⟩⟩, hO⟩
 ·rintro T H ⟨hT, hO⟩
  refine dJ hT ?_
  clear hT
  refine aF (aG ?_)
  refine bK h2 (fun h2 => ?_) (fun h2 => ?_)
  ·refine bN ?_
   refine bD [(0, (.msl 1 lo0p 0 (List.length aA))), (1, (eI a1)), (9, (eI i9)), (10, (eI j10))] ?_
   refine bX 3 ?_
   refine aS aC 3 ?_
   refine bA ?_
   exact aF (aV (aG (⟨rfl, _, (oI h2).symm, .eq (by kernel_rfl), hO, hN⟩)))
  refine gJ 2 ?_
  obtain rfl := oI h2
  obtain rfl : _ = rr1 := ho1
  replace h1 : gR aA a1 i9 j10 = some out1 := h1
  exact aF (aY (aY (bV (aG (⟨rfl, _, _, .eq (by kernel_rfl), hO, hN, h1⟩)))))

end Go.Abs
namespace Go.Abs
open Go Go.RowKit Go.Proofs
theorem AU (lo0p : Nat) (aA : (List Int)) (a1 : Int) (b2 : Int) (cN : Int) (r : ((Int × Bool) × List Int)) (h0 : iE aA a1 b2 cN = some r) : rF Try.prog 82 lo0p 1 (List.map (eI) aA) (List.map (eI) r.2) [(.msl 1 lo0p 0 (List.length aA)), (eI a1), (eI b2), (eI cN)] (.tup [(eI r.1.1), (aD r.1.2)]) := by
 intro H0 hl0
 refine cY Try.func82 ?_
 have hO := aM.tH hl0
 clear hl0
 obtain ⟨N0, hN0⟩ : ∃ n, n = List.length aA := ⟨_, rfl⟩
 have hN : List.length aA = N0 := hN0.symm
 unfold iE at h0
 refine aX aC 2 [] [] ?_
 refine aO ?_
 refine fS (fR []) aC 16 ?_
 obtain ⟨c1, h0⟩ := aZ h0
 refine cJ 7 [0 ≤ cN ∧ cN < (lN aA)] ⟨c1, trivial⟩ ?_
 refine fY 0 lo0p 1 (0 + Int.toNat cN) (eI (gD aA cN)) (eI (gD aA cN)) (List.map (eI) aA) hO (cA c1) ?_
 obtain ⟨c2, h0⟩ := aZ h0
 refine cJ 11 [0 ≤ a1 ∧ a1 < (lN aA)] ⟨c2, trivial⟩ ?_
 refine fY 0 lo0p 1 (0 + Int.toNat a1) (eI (gD aA a1)) (eI (gD aA a1)) (List.map (eI) aA) hO (cA c2) ?_
 obtain ⟨c3, h0⟩ := aZ h0
 refine cJ 13 [0 ≤ a1 ∧ a1 < (lN aA)] ⟨c3, trivial⟩ ?_
 refine kZ 0 lo0p 1 (0 + Int.toNat a1) (eI (gD aA a1)) (eI (gD aA cN)) (List.map (eI) aA) [(lo0p, 1, List.map (eI) (List.set aA (Int.toNat a1) (gD aA cN)))] hO (cA c3) (by simp only [List.set, iI]) ?_
 intro H hO
 replace hN : List.length (List.set aA (Int.toNat a1) (gD aA cN)) = N0 := by simpa using hN
 obtain ⟨c4, h0⟩ := aZ h0
 refine cJ 15 [0 ≤ cN ∧ cN < (lN aA)] ⟨c4, trivial⟩ ?_
 refine kZ 0 lo0p 1 (0 + Int.toNat cN) (eI (gD (List.set aA (Int.toNat a1) (gD aA cN)) cN)) (eI (gD aA a1)) (List.map (eI) (List.set aA (Int.toNat a1) (gD aA cN))) [(lo0p, 1, List.map (eI) (List.set (List.set aA (Int.toNat a1) (gD aA cN)) (Int.toNat cN) (gD aA a1)))] hO (oS c4 (by simp [])) (by simp only [List.set, iI]) ?_
 intro H hO
 replace hN : List.length (List.set (List.set aA (Int.toNat a1) (gD aA cN)) (Int.toNat cN) (gD aA a1)) = N0 := by simpa using hN
 refine nO (by kernel_rfl) ?_
 refine dJ (l := [(0, (.msl 1 lo0p 0 (List.length (List.set (List.set aA (Int.toNat a1) (gD aA cN)) (Int.toNat cN) (gD aA a1))))), (1, (eI a1)), (2, (eI b2))]) ⟨[(0, (.msl 1 lo0p 0 (List.length aA))), (1, (eI a1)), (2, (eI b2))], by kernel_rfl, rfl, ⟨aR.eq (by simp []), aR.refl _, aR.refl _, trivial⟩⟩ ?_
 refine aF (aG (?_))
 refine aX aC 6 [2] [(10, (eI (wR (a1 + (1 : Int))))), (11, (eI (wR (b2 - (1 : Int)))))] ?_
 refine eR (fun T H => ∃ aA : List Int, ∃ i10 : Int, ∃ j11 : Int, Has T [(0, (.msl 1 lo0p 0 (List.length aA))), (1, (eI a1)), (10, (eI i10)), (11, (eI j11))] ∧ aM ⟨H0, [lo0p], []⟩ H [(lo0p, 1, List.map (eI) aA)] ∧ List.length aA = N0 ∧ jF aA a1 i10 j11 = some r) ?_ ?_
 ·clear hO hN h0
  rintro T H ⟨aA, i10, j11, hT, hO, hN, h0⟩
  refine bF hT ?_
  clear hT
  unfold jF at h0
  refine eR (fun T H => ∃ aA : List Int, ∃ j11 : Int, Has T [(0, (.msl 1 lo0p 0 (List.length aA))), (1, (eI a1)), (10, (eI i10)), (11, (eI j11))] ∧ aM ⟨H0, [lo0p], []⟩ H [(lo0p, 1, List.map (eI) aA)] ∧ List.length aA = N0 ∧ eZ aA a1 i10 j11 = some r) ?_ ?_
  ·clear hO hN h0
   rintro T H ⟨aA, j11, hT, hO, hN, h0⟩
   refine bF hT ?_
   clear hT
   unfold eZ at h0
   refine aO ?_
   refine aX aC 3 [] [(65, (aD (decide (j11 < i10))))] ?_
   refine bK h0 (fun h0 => ?_) (fun h0 => ?_)
   ·refine aO ?_
    refine fS (fR []) aC 16 ?_
    obtain ⟨c6, h0⟩ := aZ h0
    refine cJ 7 [0 ≤ a1 ∧ a1 < (lN aA)] ⟨c6, trivial⟩ ?_
    refine fY 0 lo0p 1 (0 + Int.toNat a1) (eI (gD aA a1)) (eI (gD aA a1)) (List.map (eI) aA) hO (cA c6) ?_
    obtain ⟨c7, h0⟩ := aZ h0
    refine cJ 11 [0 ≤ j11 ∧ j11 < (lN aA)] ⟨c7, trivial⟩ ?_
    refine fY 0 lo0p 1 (0 + Int.toNat j11) (eI (gD aA j11)) (eI (gD aA j11)) (List.map (eI) aA) hO (cA c7) ?_
    obtain ⟨c8, h0⟩ := aZ h0
    refine cJ 13 [0 ≤ j11 ∧ j11 < (lN aA)] ⟨c8, trivial⟩ ?_
    refine kZ 0 lo0p 1 (0 + Int.toNat j11) (eI (gD aA j11)) (eI (gD aA a1)) (List.map (eI) aA) [(lo0p, 1, List.map (eI) (List.set aA (Int.toNat j11) (gD aA a1)))] hO (cA c8) (by simp only [List.set, iI]) ?_
    intro H hO
    replace hN : List.length (List.set aA (Int.toNat j11) (gD aA a1)) = N0 := by simpa using hN
    obtain ⟨c9, h0⟩ := aZ h0
    refine cJ 15 [0 ≤ a1 ∧ a1 < (lN aA)] ⟨c9, trivial⟩ ?_
    refine kZ 0 lo0p 1 (0 + Int.toNat a1) (eI (gD (List.set aA (Int.toNat j11) (gD aA a1)) a1)) (eI (gD aA j11)) (List.map (eI) (List.set aA (Int.toNat j11) (gD aA a1))) [(lo0p, 1, List.map (eI) (List.set (List.set aA (Int.toNat j11) (gD aA a1)) (Int.toNat a1) (gD aA j11)))] hO (oS c9 (by simp [])) (by simp only [List.set, iI]) ?_
    intro H hO
    replace hN : List.length (List.set (List.set aA (Int.toNat j11) (gD aA a1)) (Int.toNat a1) (gD aA j11)) = N0 := by simpa using hN
    refine nO (by kernel_rfl) ?_
    refine dJ (l := [(0, (.msl 1 lo0p 0 (List.length (List.set (List.set aA (Int.toNat j11) (gD aA a1)) (Int.toNat a1) (gD aA j11))))), (11, (eI j11))]) ⟨[(0, (.msl 1 lo0p 0 (List.length aA))), (11, (eI j11))], by kernel_rfl, rfl, ⟨aR.eq (by simp []), aR.refl _, trivial⟩⟩ ?_
    refine aF (aG (?_))
    refine aX aC 3 [11] [(8, (eI j11)), (9, (aD true))] ?_
    refine bG ?_
    obtain rfl := oI h0
    exact aF (aT (kA (x := (.tup [(eI j11), (aD true)])) (by kernel_rfl) (aR.refl _) ⟨rfl, hO.ext, hO.at 0 (by kernel_rfl), by simp only [List.length_map]; exact hN.trans hN0⟩))
   refine bN ?_
   refine bD [(0, (.msl 1 lo0p 0 (List.length aA))), (1, (eI a1)), (10, (eI i10)), (11, (eI j11))] ?_
   refine aO ?_
   refine fS (fR []) aC 16 ?_
   obtain ⟨c10, h0⟩ := aZ h0
   refine cJ 7 [0 ≤ j11 ∧ j11 < (lN aA)] ⟨c10, trivial⟩ ?_
   refine fY 0 lo0p 1 (0 + Int.toNat j11) (eI (gD aA j11)) (eI (gD aA j11)) (List.map (eI) aA) hO (cA c10) ?_
   obtain ⟨c11, h0⟩ := aZ h0
   refine cJ 11 [0 ≤ i10 ∧ i10 < (lN aA)] ⟨c11, trivial⟩ ?_
   refine fY 0 lo0p 1 (0 + Int.toNat i10) (eI (gD aA i10)) (eI (gD aA i10)) (List.map (eI) aA) hO (cA c11) ?_
   obtain ⟨c12, h0⟩ := aZ h0
   refine cJ 13 [0 ≤ i10 ∧ i10 < (lN aA)] ⟨c12, trivial⟩ ?_
   refine kZ 0 lo0p 1 (0 + Int.toNat i10) (eI (gD aA i10)) (eI (gD aA j11)) (List.map (eI) aA) [(lo0p, 1, List.map (eI) (List.set aA (Int.toNat i10) (gD aA j11)))] hO (cA c12) (by simp only [List.set, iI]) ?_
   intro H hO
   replace hN : List.length (List.set aA (Int.toNat i10) (gD aA j11)) = N0 := by simpa using hN
   obtain ⟨c13, h0⟩ := aZ h0
   refine cJ 15 [0 ≤ j11 ∧ j11 < (lN aA)] ⟨c13, trivial⟩ ?_
   refine kZ 0 lo0p 1 (0 + Int.toNat j11) (eI (gD (List.set aA (Int.toNat i10) (gD aA j11)) j11)) (eI (gD aA i10)) (List.map (eI) (List.set aA (Int.toNat i10) (gD aA j11))) [(lo0p, 1, List.map (eI) (List.set (List.set aA (Int.toNat i10) (gD aA j11)) (Int.toNat j11) (gD aA i10)))] hO (oS c13 (by simp [])) (by simp only [List.set, iI]) ?_
   intro H hO
   replace hN : List.length (List.set (List.set aA (Int.toNat i10) (gD aA j11)) (Int.toNat j11) (gD aA i10)) = N0 := by simpa using hN
   refine nO (by kernel_rfl) ?_
   refine dJ (l := [(0, (.msl 1 lo0p 0 (List.length (List.set (List.set aA (Int.toNat i10) (gD aA j11)) (Int.toNat j11) (gD aA i10))))), (1, (eI a1)), (10, (eI i10)), (11, (eI j11))]) ⟨[(0, (.msl 1 lo0p 0 (List.length aA))), (1, (eI a1)), (10, (eI i10)), (11, (eI j11))], by kernel_rfl, rfl, ⟨aR.eq (by simp []), aR.refl _, aR.refl _, aR.refl _, trivial⟩⟩ ?_
   refine aF (aG (?_))
   refine aX aC 3 [10] [(10, (eI (wR (i10 + (1 : Int)))))] ?_
   refine aX aC 3 [11] [(11, (eI (wR (j11 - (1 : Int)))))] ?_
   refine eR (fun T H => ∃ aA : List Int, ∃ j11 : Int, Has T [(0, (.msl 1 lo0p 0 (List.length aA))), (1, (eI a1)), (11, (eI j11))] ∧ aM ⟨H0, [lo0p], []⟩ H [(lo0p, 1, List.map (eI) aA)] ∧ List.length aA = N0 ∧ jI aA a1 j11 = some r) ?_ ?_
   ·clear hO hN h0
    rintro T H ⟨aA, j11, hT, hO, hN, h0⟩
    refine bF hT ?_
    clear hT
    unfold jI at h0
    refine aO ?_
    refine fS (fR []) aC 16 ?_
    obtain ⟨c14, h0⟩ := aZ h0
    refine cJ 7 [0 ≤ a1 ∧ a1 < (lN aA)] ⟨c14, trivial⟩ ?_
    refine fY 0 lo0p 1 (0 + Int.toNat a1) (eI (gD aA a1)) (eI (gD aA a1)) (List.map (eI) aA) hO (cA c14) ?_
    obtain ⟨c15, h0⟩ := aZ h0
    refine cJ 11 [0 ≤ j11 ∧ j11 < (lN aA)] ⟨c15, trivial⟩ ?_
    refine fY 0 lo0p 1 (0 + Int.toNat j11) (eI (gD aA j11)) (eI (gD aA j11)) (List.map (eI) aA) hO (cA c15) ?_
    obtain ⟨c16, h0⟩ := aZ h0
    refine cJ 13 [0 ≤ j11 ∧ j11 < (lN aA)] ⟨c16, trivial⟩ ?_
    refine kZ 0 lo0p 1 (0 + Int.toNat j11) (eI (gD aA j11)) (eI (gD aA a1)) (List.map (eI) aA) [(lo0p, 1, List.map (eI) (List.set aA (Int.toNat j11) (gD aA a1)))] hO (cA c16) (by simp only [List.set, iI]) ?_
    intro H hO
    replace hN : List.length (List.set aA (Int.toNat j11) (gD aA a1)) = N0 := by simpa using hN
    obtain ⟨c17, h0⟩ := aZ h0
    refine cJ 15 [0 ≤ a1 ∧ a1 < (lN aA)] ⟨c17, trivial⟩ ?_
    refine kZ 0 lo0p 1 (0 + Int.toNat a1) (eI (gD (List.set aA (Int.toNat j11) (gD aA a1)) a1)) (eI (gD aA j11)) (List.map (eI) (List.set aA (Int.toNat j11) (gD aA a1))) [(lo0p, 1, List.map (eI) (List.set (List.set aA (Int.toNat j11) (gD aA a1)) (Int.toNat a1) (gD aA j11)))] hO (oS c17 (by simp [])) (by simp only [List.set, iI]) ?_
    intro H hO
    replace hN : List.length (List.set (List.set aA (Int.toNat j11) (gD aA a1)) (Int.toNat a1) (gD aA j11)) = N0 := by simpa using hN
    refine nO (by kernel_rfl) ?_
    refine dJ (l := [(0, (.msl 1 lo0p 0 (List.length (List.set (List.set aA (Int.toNat j11) (gD aA a1)) (Int.toNat a1) (gD aA j11))))), (11, (eI j11))]) ⟨[(0, (.msl 1 lo0p 0 (List.length aA))), (11, (eI j11))], by kernel_rfl, rfl, ⟨aR.eq (by simp []), aR.refl _, trivial⟩⟩ ?_
    refine aF (aG (?_))
    refine aX aC 3 [11] [(8, (eI j11)), (9, (aD false))] ?_
    refine bG ?_
    obtain rfl := oI h0
    exact aF (kA (x := (.tup [(eI j11), (aD false)])) (by kernel_rfl) (aR.refl _) ⟨rfl, hO.ext, hO.at 0 (by kernel_rfl), by simp only [List.length_map]; exact hN.trans hN0⟩)
   refine bX 4 ?_
   refine eD [(0, (.msl 1 lo0p 0 (List.length (List.set (List.set aA (Int.toNat i10) (gD aA j11)) (Int.toNat j11) (gD aA i10))))), (1, (eI a1)), (10, (eI (wR (i10 + (1 : Int))))), (11, (eI (wR (j11 - (1 : Int)))))] ?_
   refine eE (fun T H => ∃ aA : List Int, ∃ i10 : Int, ∃ j11 : Int, Has T [(0, (.msl 1 lo0p 0 (List.length aA))), (1, (eI a1)), (10, (eI i10)), (11, (eI j11))] ∧ aM ⟨H0, [lo0p], []⟩ H [(lo0p, 1, List.map (eI) aA)] ∧ List.length aA = N0 ∧ lP aA a1 i10 j11 = some r) ?_ ⟨List.set (List.set aA (Int.toNat i10) (gD aA j11)) (Int.toNat j11) (gD aA i10), wR (i10 + (1 : Int)), wR (j11 - (1 : Int)), .eq (by kernel_rfl), hO, hN, h0⟩
   clear hO hN h0
   rintro T H ⟨aA, i10, j11, hT, hO, hN, h0⟩
   refine bF hT ?_
   clear hT
   unfold lP at h0
   obtain ⟨rr0, hl0, h0⟩ := aW h0
   refine dK (by kernel_rfl) (fun (s : List Int × Int × Int) T H => Has T [(0, (.msl 1 lo0p 0 (List.length s.1))), (1, (eI a1)), (10, (eI s.2.1)), (11, (eI s.2.2))] ∧ aM ⟨H0, [lo0p], []⟩ H [(lo0p, 1, List.map (eI) s.1)] ∧ List.length s.1 = N0) hl0 ⟨.eq (by kernel_rfl), hO, hN⟩ ?_
   clear hO hN
   rintro k0 s out1 T H ⟨hT, hO, hN⟩ h1 ho0
   obtain ⟨aA, i10, j11⟩ := s
   replace h1 : dU a1 aA i10 j11 = some out1 := h1
   try dsimp only at hT
   refine bF hT ?_
   clear hT
   unfold dU at h1
   refine bX 5 ?_
   refine eR (fun T H => ∃ aA : List Int, ∃ i10 : Int, Has T [(0, (.msl 1 lo0p 0 (List.length aA))), (1, (eI a1)), (10, (eI i10)), (11, (eI j11))] ∧ aM ⟨H0, [lo0p], []⟩ H [(lo0p, 1, List.map (eI) aA)] ∧ List.length aA = N0 ∧ jC aA a1 i10 j11 = some out1) ?_ ?_
   ·clear hO hN h1
    rintro T H ⟨aA, i10, hT, hO, hN, h1⟩
    refine bF hT ?_
    clear hT
    unfold jC at h1
    refine eR (fun T H => ∃ aA : List Int, ∃ j11 : Int, Has T [(0, (.msl 1 lo0p 0 (List.length aA))), (1, (eI a1)), (10, (eI i10)), (11, (eI j11))] ∧ aM ⟨H0, [lo0p], []⟩ H [(lo0p, 1, List.map (eI) aA)] ∧ List.length aA = N0 ∧ fC aA a1 i10 j11 = some out1) ?_ ?_
    ·clear hO hN h1
     rintro T H ⟨aA, j11, hT, hO, hN, h1⟩
     refine bF hT ?_
     clear hT
     unfold fC at h1
     refine aO ?_
     refine aX aC 3 [] [(134, (aD (decide (j11 < i10))))] ?_
     refine bK h1 (fun h1 => ?_) (fun h1 => ?_)
     ·refine gJ 4 ?_
      obtain rfl := oI h1
      obtain rfl : _ = rr0 := ho0
      replace h0 : jI aA a1 j11 = some r := h0
      exact aF (aY (vB (by kernel_rfl) (aY (bV (aG (⟨rfl, _, _, .eq (by kernel_rfl), hO, hN, h0⟩))))))
     refine bN ?_
     refine bD [(0, (.msl 1 lo0p 0 (List.length aA))), (1, (eI a1)), (10, (eI i10)), (11, (eI j11))] ?_
     refine aO ?_
     refine fS (fR []) aC 16 ?_
     obtain ⟨c19, h1⟩ := aZ h1
     refine cJ 7 [0 ≤ j11 ∧ j11 < (lN aA)] ⟨c19, trivial⟩ ?_
     refine fY 0 lo0p 1 (0 + Int.toNat j11) (eI (gD aA j11)) (eI (gD aA j11)) (List.map (eI) aA) hO (cA c19) ?_
     obtain ⟨c20, h1⟩ := aZ h1
     refine cJ 11 [0 ≤ i10 ∧ i10 < (lN aA)] ⟨c20, trivial⟩ ?_
     refine fY 0 lo0p 1 (0 + Int.toNat i10) (eI (gD aA i10)) (eI (gD aA i10)) (List.map (eI) aA) hO (cA c20) ?_
     obtain ⟨c21, h1⟩ := aZ h1
     refine cJ 13 [0 ≤ i10 ∧ i10 < (lN aA)] ⟨c21, trivial⟩ ?_
     refine kZ 0 lo0p 1 (0 + Int.toNat i10) (eI (gD aA i10)) (eI (gD aA j11)) (List.map (eI) aA) [(lo0p, 1, List.map (eI) (List.set aA (Int.toNat i10) (gD aA j11)))] hO (cA c21) (by simp only [List.set, iI]) ?_
     intro H hO
     replace hN : List.length (List.set aA (Int.toNat i10) (gD aA j11)) = N0 := by simpa using hN
     obtain ⟨c22, h1⟩ := aZ h1
     refine cJ 15 [0 ≤ j11 ∧ j11 < (lN aA)] ⟨c22, trivial⟩ ?_
     refine kZ 0 lo0p 1 (0 + Int.toNat j11) (eI (gD (List.set aA (Int.toNat i10) (gD aA j11)) j11)) (eI (gD aA i10)) (List.map (eI) (List.set aA (Int.toNat i10) (gD aA j11))) [(lo0p, 1, List.map (eI) (List.set (List.set aA (Int.toNat i10) (gD aA j11)) (Int.toNat j11) (gD aA i10)))] hO (oS c22 (by simp [])) (by simp only [List.set, iI]) ?_
     intro H hO
     replace hN : List.length (List.set (List.set aA (Int.toNat i10) (gD aA j11)) (Int.toNat j11) (gD aA i10)) = N0 := by simpa using hN
     refine nO (by kernel_rfl) ?_
     refine dJ (l := [(0, (.msl 1 lo0p 0 (List.length (List.set (List.set aA (Int.toNat i10) (gD aA j11)) (Int.toNat j11) (gD aA i10))))), (1, (eI a1)), (10, (eI i10)), (11, (eI j11))]) ⟨[(0, (.msl 1 lo0p 0 (List.length aA))), (1, (eI a1)), (10, (eI i10)), (11, (eI j11))], by kernel_rfl, rfl, ⟨aR.eq (by simp []), aR.refl _, aR.refl _, aR.refl _, trivial⟩⟩ ?_
     refine aF (aG (?_))
     refine aX aC 3 [10] [(10, (eI (wR (i10 + (1 : Int)))))] ?_
     refine aS aC 3 ?_
     refine bA ?_
     exact aF (aV (aG (⟨rfl, _, (oI h1).symm, .eq (by kernel_rfl), hO, hN⟩)))
    refine bX 8 ?_
    refine eD [(0, (.msl 1 lo0p 0 (List.length aA))), (1, (eI a1)), (10, (eI i10)), (11, (eI j11))] ?_
    refine eE (fun T H => ∃ aA : List Int, ∃ j11 : Int, Has T [(0, (.msl 1 lo0p 0 (List.length aA))), (1, (eI a1)), (10, (eI i10)), (11, (eI j11))] ∧ aM ⟨H0, [lo0p], []⟩ H [(lo0p, 1, List.map (eI) aA)] ∧ List.length aA = N0 ∧ lB aA a1 i10 j11 = some out1) ?_ ⟨aA, j11, .eq (by kernel_rfl), hO, hN, h1⟩
    clear hO hN h1
    rintro T H ⟨aA, j11, hT, hO, hN, h1⟩
    refine bF hT ?_
    clear hT
    unfold lB at h1
    obtain ⟨rr1, hl1, h1⟩ := aW h1
    refine dK (by kernel_rfl) (fun (s : List Int × Int) T H => Has T [(0, (.msl 1 lo0p 0 (List.length s.1))), (1, (eI a1)), (10, (eI i10)), (11, (eI s.2))] ∧ aM ⟨H0, [lo0p], []⟩ H [(lo0p, 1, List.map (eI) s.1)] ∧ List.length s.1 = N0) hl1 ⟨.eq (by kernel_rfl), hO, hN⟩ ?_
    clear hO hN
    rintro k1 s out2 T H ⟨hT, hO, hN⟩ h2 ho1
    obtain ⟨aA, j11⟩ := s
    replace h2 : fA a1 i10 aA j11 = some out2 := h2
    try dsimp only at hT
    refine bF hT ?_
    clear hT
    unfold fA at h2
    refine aO ?_
    refine aO ?_
    obtain ⟨c23, h2⟩ := aZ h2
    obtain ⟨c24, h2⟩ := aZ h2
    obtain ⟨x25, hx26, h2⟩ := aW h2
    refine fS (fR []) aC 15 ?_
    refine qV (K := fun T H => Has (lift T) [(0, (.msl 1 lo0p 0 (List.length aA))), (1, (eI a1)), (10, (eI i10)), (11, (eI j11)), (129, (aD ((decide (i10 ≤ j11)) && (!x25))))] ∧ aM ⟨H0, [lo0p], []⟩ H [(lo0p, 1, List.map (eI) aA)]) ?_ ?_
    ·refine kJ 4 ?_
     refine pN (t := 118) (e := decide (i10 ≤ j11)) (by kernel_rfl) (fun hg27 => ?_) (fun hg27 => ?_)
     ·refine cJ 7 [0 ≤ j11 ∧ j11 < (lN aA)] ⟨(c23 hg27), trivial⟩ ?_
      refine iZ 0 lo0p 1 (0 + Int.toNat j11) (eI (gD aA j11)) (eI (gD aA j11)) (List.map (eI) aA) (by kernel_rfl) (by kernel_rfl) (by kernel_rfl) hO (by kernel_rfl) (cA (c23 hg27)) ?_
      refine cJ 11 [0 ≤ a1 ∧ a1 < (lN aA)] ⟨(c24 hg27), trivial⟩ ?_
      refine iZ 0 lo0p 1 (0 + Int.toNat a1) (eI (gD aA a1)) (eI (gD aA a1)) (List.map (eI) aA) (by kernel_rfl) (by kernel_rfl) (by kernel_rfl) hO (by kernel_rfl) (cA (c24 hg27)) ?_
      refine pO 54 [(eI (gD aA j11)), (eI (gD aA a1))] (aD x25) (by kernel_rfl) (by kernel_rfl) (fX (gD aA j11) (gD aA a1) _ (jG hx26 hg27)) hO ?_
      intro H hO
      refine kI ?_
      exact ⟨⟨[(0, (.msl 1 lo0p 0 (List.length aA))), (1, (eI a1)), (10, (eI i10)), (11, (eI j11)), (129, (aD (!x25)))], by kernel_rfl, rfl, ⟨aR.refl _, aR.refl _, aR.refl _, aR.refl _, aR.eq (congrArg aD (oG hg27 rfl).symm), trivial⟩⟩, hO⟩
     refine kI ?_
     exact ⟨⟨[(0, (.msl 1 lo0p 0 (List.length aA))), (1, (eI a1)), (10, (eI i10)), (11, (eI j11)), (129, (aD false))], by kernel_rfl, rfl, ⟨aR.refl _, aR.refl _, aR.refl _, aR.refl _, aR.eq (congrArg aD (oG hg27 rfl).symm), trivial⟩⟩, hO⟩
    ·rintro T H ⟨hT, hO⟩
     refine dJ hT ?_
     clear hT
     refine aF (aG ?_)
     refine bK h2 (fun h2 => ?_) (fun h2 => ?_)
     ·refine bN ?_
      refine bD [(0, (.msl 1 lo0p 0 (List.length aA))), (1, (eI a1)), (10, (eI i10)), (11, (eI j11))] ?_
      refine bX 9 ?_
      refine aS aC 3 ?_
      refine bA ?_
      exact aF (aV (aG (⟨rfl, _, (oI h2).symm, .eq (by kernel_rfl), hO, hN⟩)))
     refine gJ 8 ?_
     obtain rfl := oI h2
     obtain rfl : _ = rr1 := ho1
     replace h1 : fC aA a1 i10 j11 = some out1 := h1
     exact aF (aY (aY (bV (aG (⟨rfl, _, _, .eq (by kernel_rfl), hO, hN, h1⟩)))))
   refine bX 6 ?_
   refine eD [(0, (.msl 1 lo0p 0 (List.length aA))), (1, (eI a1)), (10, (eI i10)), (11, (eI j11))] ?_
   refine eE (fun T H => ∃ aA : List Int, ∃ i10 : Int, Has T [(0, (.msl 1 lo0p 0 (List.length aA))), (1, (eI a1)), (10, (eI i10)), (11, (eI j11))] ∧ aM ⟨H0, [lo0p], []⟩ H [(lo0p, 1, List.map (eI) aA)] ∧ List.length aA = N0 ∧ lM aA a1 i10 j11 = some out1) ?_ ⟨aA, i10, .eq (by kernel_rfl), hO, hN, h1⟩
   clear hO hN h1
   rintro T H ⟨aA, i10, hT, hO, hN, h1⟩
   refine bF hT ?_
   clear hT
   unfold lM at h1
   obtain ⟨rr1, hl1, h1⟩ := aW h1
   refine dK (by kernel_rfl) (fun (s : List Int × Int) T H => Has T [(0, (.msl 1 lo0p 0 (List.length s.1))), (1, (eI a1)), (10, (eI s.2)), (11, (eI j11))] ∧ aM ⟨H0, [lo0p], []⟩ H [(lo0p, 1, List.map (eI) s.1)] ∧ List.length s.1 = N0) hl1 ⟨.eq (by kernel_rfl), hO, hN⟩ ?_
   clear hO hN
   rintro k1 s out2 T H ⟨hT, hO, hN⟩ h2 ho1
   obtain ⟨aA, i10⟩ := s
   replace h2 : fF a1 j11 aA i10 = some out2 := h2
   try dsimp only at hT
   refine bF hT ?_
   clear hT
   unfold fF at h2
   refine aO ?_
   refine aO ?_
   obtain ⟨c29, h2⟩ := aZ h2
   obtain ⟨c30, h2⟩ := aZ h2
   obtain ⟨x31, hx32, h2⟩ := aW h2
   refine fS (fR []) aC 14 ?_
   refine qV (K := fun T H => Has (lift T) [(0, (.msl 1 lo0p 0 (List.length aA))), (1, (eI a1)), (10, (eI i10)), (11, (eI j11)), (112, (aD ((decide (i10 ≤ j11)) && x31)))] ∧ aM ⟨H0, [lo0p], []⟩ H [(lo0p, 1, List.map (eI) aA)]) ?_ ?_
   ·refine kJ 4 ?_
    refine pN (t := 102) (e := decide (i10 ≤ j11)) (by kernel_rfl) (fun hg33 => ?_) (fun hg33 => ?_)
    ·refine cJ 7 [0 ≤ i10 ∧ i10 < (lN aA)] ⟨(c29 hg33), trivial⟩ ?_
     refine iZ 0 lo0p 1 (0 + Int.toNat i10) (eI (gD aA i10)) (eI (gD aA i10)) (List.map (eI) aA) (by kernel_rfl) (by kernel_rfl) (by kernel_rfl) hO (by kernel_rfl) (cA (c29 hg33)) ?_
     refine cJ 11 [0 ≤ a1 ∧ a1 < (lN aA)] ⟨(c30 hg33), trivial⟩ ?_
     refine iZ 0 lo0p 1 (0 + Int.toNat a1) (eI (gD aA a1)) (eI (gD aA a1)) (List.map (eI) aA) (by kernel_rfl) (by kernel_rfl) (by kernel_rfl) hO (by kernel_rfl) (cA (c30 hg33)) ?_
     refine pO 54 [(eI (gD aA i10)), (eI (gD aA a1))] (aD x31) (by kernel_rfl) (by kernel_rfl) (fX (gD aA i10) (gD aA a1) _ (jG hx32 hg33)) hO ?_
     intro H hO
     refine kI ?_
     exact ⟨⟨[(0, (.msl 1 lo0p 0 (List.length aA))), (1, (eI a1)), (10, (eI i10)), (11, (eI j11)), (112, (aD x31))], by kernel_rfl, rfl, ⟨aR.refl _, aR.refl _, aR.refl _, aR.refl _, aR.eq (congrArg aD (oG hg33 rfl).symm), trivial⟩⟩, hO⟩
    refine kI ?_
    exact ⟨⟨[(0, (.msl 1 lo0p 0 (List.length aA))), (1, (eI a1)), (10, (eI i10)), (11, (eI j11)), (112, (aD false))], by kernel_rfl, rfl, ⟨aR.refl _, aR.refl _, aR.refl _, aR.refl _, aR.eq (congrArg aD (oG hg33 rfl).symm), trivial⟩⟩, hO⟩
   ·rintro T H ⟨hT, hO⟩
    refine dJ hT ?_
    clear hT
    refine aF (aG ?_)
    refine bK h2 (fun h2 => ?_) (fun h2 => ?_)
    ·refine bN ?_
     refine bD [(0, (.msl 1 lo0p 0 (List.length aA))), (1, (eI a1)), (10, (eI i10)), (11, (eI j11))] ?_
     refine bX 7 ?_
     refine aS aC 3 ?_
     refine bA ?_
     exact aF (aV (aG (⟨rfl, _, (oI h2).symm, .eq (by kernel_rfl), hO, hN⟩)))
    refine gJ 6 ?_
    obtain rfl := oI h2
    obtain rfl : _ = rr1 := ho1
    replace h1 : jC aA a1 i10 j11 = some out1 := h1
    exact aF (aY (aY (bV (aG (⟨rfl, _, _, .eq (by kernel_rfl), hO, hN, h1⟩)))))
  refine bX 2 ?_
  refine eD [(0, (.msl 1 lo0p 0 (List.length aA))), (1, (eI a1)), (10, (eI i10)), (11, (eI j11))] ?_
  refine eE (fun T H => ∃ aA : List Int, ∃ j11 : Int, Has T [(0, (.msl 1 lo0p 0 (List.length aA))), (1, (eI a1)), (10, (eI i10)), (11, (eI j11))] ∧ aM ⟨H0, [lo0p], []⟩ H [(lo0p, 1, List.map (eI) aA)] ∧ List.length aA = N0 ∧ lQ aA a1 i10 j11 = some r) ?_ ⟨aA, j11, .eq (by kernel_rfl), hO, hN, h0⟩
  clear hO hN h0
  rintro T H ⟨aA, j11, hT, hO, hN, h0⟩
  refine bF hT ?_
  clear hT
  unfold lQ at h0
  obtain ⟨rr0, hl0, h0⟩ := aW h0
  refine dK (by kernel_rfl) (fun (s : List Int × Int) T H => Has T [(0, (.msl 1 lo0p 0 (List.length s.1))), (1, (eI a1)), (10, (eI i10)), (11, (eI s.2))] ∧ aM ⟨H0, [lo0p], []⟩ H [(lo0p, 1, List.map (eI) s.1)] ∧ List.length s.1 = N0) hl0 ⟨.eq (by kernel_rfl), hO, hN⟩ ?_
  clear hO hN
  rintro k0 s out1 T H ⟨hT, hO, hN⟩ h1 ho0
  obtain ⟨aA, j11⟩ := s
  replace h1 : fD a1 i10 aA j11 = some out1 := h1
  try dsimp only at hT
  refine bF hT ?_
  clear hT
  unfold fD at h1
  refine aO ?_
  refine aO ?_
  obtain ⟨c35, h1⟩ := aZ h1
  obtain ⟨c36, h1⟩ := aZ h1
  obtain ⟨x37, hx38, h1⟩ := aW h1
  refine fS (fR []) aC 15 ?_
  refine qV (K := fun T H => Has (lift T) [(0, (.msl 1 lo0p 0 (List.length aA))), (1, (eI a1)), (10, (eI i10)), (11, (eI j11)), (60, (aD ((decide (i10 ≤ j11)) && (!x37))))] ∧ aM ⟨H0, [lo0p], []⟩ H [(lo0p, 1, List.map (eI) aA)]) ?_ ?_
  ·refine kJ 4 ?_
   refine pN (t := 49) (e := decide (i10 ≤ j11)) (by kernel_rfl) (fun hg39 => ?_) (fun hg39 => ?_)
   ·refine cJ 7 [0 ≤ j11 ∧ j11 < (lN aA)] ⟨(c35 hg39), trivial⟩ ?_
    refine iZ 0 lo0p 1 (0 + Int.toNat j11) (eI (gD aA j11)) (eI (gD aA j11)) (List.map (eI) aA) (by kernel_rfl) (by kernel_rfl) (by kernel_rfl) hO (by kernel_rfl) (cA (c35 hg39)) ?_
    refine cJ 11 [0 ≤ a1 ∧ a1 < (lN aA)] ⟨(c36 hg39), trivial⟩ ?_
    refine iZ 0 lo0p 1 (0 + Int.toNat a1) (eI (gD aA a1)) (eI (gD aA a1)) (List.map (eI) aA) (by kernel_rfl) (by kernel_rfl) (by kernel_rfl) hO (by kernel_rfl) (cA (c36 hg39)) ?_
    refine pO 54 [(eI (gD aA j11)), (eI (gD aA a1))] (aD x37) (by kernel_rfl) (by kernel_rfl) (fX (gD aA j11) (gD aA a1) _ (jG hx38 hg39)) hO ?_
    intro H hO
    refine kI ?_
    exact ⟨⟨[(0, (.msl 1 lo0p 0 (List.length aA))), (1, (eI a1)), (10, (eI i10)), (11, (eI j11)), (60, (aD (!x37)))], by kernel_rfl, rfl, ⟨aR.refl _, aR.refl _, aR.refl _, aR.refl _, aR.eq (congrArg aD (oG hg39 rfl).symm), trivial⟩⟩, hO⟩
   refine kI ?_
   exact ⟨⟨[(0, (.msl 1 lo0p 0 (List.length aA))), (1, (eI a1)), (10, (eI i10)), (11, (eI j11)), (60, (aD false))], by kernel_rfl, rfl, ⟨aR.refl _, aR.refl _, aR.refl _, aR.refl _, aR.eq (congrArg aD (oG hg39 rfl).symm), trivial⟩⟩, hO⟩
  ·rintro T H ⟨hT, hO⟩
   refine dJ hT ?_
   clear hT
   refine aF (aG ?_)
   refine bK h1 (fun h1 => ?_) (fun h1 => ?_)
   ·refine bN ?_
    refine bD [(0, (.msl 1 lo0p 0 (List.length aA))), (1, (eI a1)), (10, (eI i10)), (11, (eI j11))] ?_
    refine bX 3 ?_
    refine aS aC 3 ?_
    refine bA ?_
    exact aF (aV (aG (⟨rfl, _, (oI h1).symm, .eq (by kernel_rfl), hO, hN⟩)))
   refine gJ 2 ?_
   obtain rfl := oI h1
   obtain rfl : _ = rr0 := ho0
   replace h0 : eZ aA a1 i10 j11 = some r := h0
   exact aF (aY (aY (bV (aG (⟨rfl, _, _, .eq (by kernel_rfl), hO, hN, h0⟩)))))
 refine bX 0 ?_
 refine eD [(0, (.msl 1 lo0p 0 (List.length (List.set (List.set aA (Int.toNat a1) (gD aA cN)) (Int.toNat cN) (gD aA a1))))), (1, (eI a1)), (10, (eI (wR (a1 + (1 : Int))))), (11, (eI (wR (b2 - (1 : Int)))))] ?_
 refine eE (fun T H => ∃ aA : List Int, ∃ i10 : Int, ∃ j11 : Int, Has T [(0, (.msl 1 lo0p 0 (List.length aA))), (1, (eI a1)), (10, (eI i10)), (11, (eI j11))] ∧ aM ⟨H0, [lo0p], []⟩ H [(lo0p, 1, List.map (eI) aA)] ∧ List.length aA = N0 ∧ gM aA a1 i10 j11 = some r) ?_ ⟨List.set (List.set aA (Int.toNat a1) (gD aA cN)) (Int.toNat cN) (gD aA a1), wR (a1 + (1 : Int)), wR (b2 - (1 : Int)), .eq (by kernel_rfl), hO, hN, h0⟩
 clear hO hN h0
 rintro T H ⟨aA, i10, j11, hT, hO, hN, h0⟩
 refine bF hT ?_
 clear hT
 unfold gM at h0
 obtain ⟨rr0, hl0, h0⟩ := aW h0
 refine dK (by kernel_rfl) (fun (s : List Int × Int) T H => Has T [(0, (.msl 1 lo0p 0 (List.length s.1))), (1, (eI a1)), (10, (eI s.2)), (11, (eI j11))] ∧ aM ⟨H0, [lo0p], []⟩ H [(lo0p, 1, List.map (eI) s.1)] ∧ List.length s.1 = N0) hl0 ⟨.eq (by kernel_rfl), hO, hN⟩ ?_
 clear hO hN
 rintro k0 s out1 T H ⟨hT, hO, hN⟩ h1 ho0
 obtain ⟨aA, i10⟩ := s
 replace h1 : eU a1 j11 aA i10 = some out1 := h1
 try dsimp only at hT
 refine bF hT ?_
 clear hT
 unfold eU at h1
 refine aO ?_
 refine aO ?_
 obtain ⟨c41, h1⟩ := aZ h1
 obtain ⟨c42, h1⟩ := aZ h1
 obtain ⟨x43, hx44, h1⟩ := aW h1
 refine fS (fR []) aC 14 ?_
 refine qV (K := fun T H => Has (lift T) [(0, (.msl 1 lo0p 0 (List.length aA))), (1, (eI a1)), (10, (eI i10)), (11, (eI j11)), (43, (aD ((decide (i10 ≤ j11)) && x43)))] ∧ aM ⟨H0, [lo0p], []⟩ H [(lo0p, 1, List.map (eI) aA)]) ?_ ?_
 ·refine kJ 4 ?_
  refine pN (t := 33) (e := decide (i10 ≤ j11)) (by kernel_rfl) (fun hg45 => ?_) (fun hg45 => ?_)
  ·refine cJ 7 [0 ≤ i10 ∧ i10 < (lN aA)] ⟨(c41 hg45), trivial⟩ ?_
   refine iZ 0 lo0p 1 (0 + Int.toNat i10) (eI (gD aA i10)) (eI (gD aA i10)) (List.map (eI) aA) (by kernel_rfl) (by kernel_rfl) (by kernel_rfl) hO (by kernel_rfl) (cA (c41 hg45)) ?_
   refine cJ 11 [0 ≤ a1 ∧ a1 < (lN aA)] ⟨(c42 hg45), trivial⟩ ?_
   refine iZ 0 lo0p 1 (0 + Int.toNat a1) (eI (gD aA a1)) (eI (gD aA a1)) (List.map (eI) aA) (by kernel_rfl) (by kernel_rfl) (by kernel_rfl) hO (by kernel_rfl) (cA (c42 hg45)) ?_
   refine pO 54 [(eI (gD aA i10)), (eI (gD aA a1))] (aD x43) (by kernel_rfl) (by kernel_rfl) (fX (gD aA i10) (gD aA a1) _ (jG hx44 hg45)) hO ?_
   intro H hO
   refine kI ?_
   exact ⟨⟨[(0, (.msl 1 lo0p 0 (List.length aA))), (1, (eI a1)), (10, (eI i10)), (11, (eI j11)), (43, (aD x43))], by kernel_rfl, rfl, ⟨aR.refl _, aR.refl _, aR.refl _, aR.refl _, aR.eq (congrArg aD (oG hg45 rfl).symm), trivial⟩⟩, hO⟩
  refine kI ?_
  exact ⟨⟨[(0, (.msl 1 lo0p 0 (List.length aA))), (1, (eI a1)), (10, (eI i10)), (11, (eI j11)), (43, (aD false))], by kernel_rfl, rfl, ⟨aR.refl _, aR.refl _, aR.refl _, aR.refl _, aR.eq (congrArg aD (oG hg45 rfl).symm), trivial⟩⟩, hO⟩
 ·rintro T H ⟨hT, hO⟩
  refine dJ hT ?_
  clear hT
  refine aF (aG ?_)
  refine bK h1 (fun h1 => ?_) (fun h1 => ?_)
  ·refine bN ?_
   refine bD [(0, (.msl 1 lo0p 0 (List.length aA))), (1, (eI a1)), (10, (eI i10)), (11, (eI j11))] ?_
   refine bX 1 ?_
   refine aS aC 3 ?_
   refine bA ?_
   exact aF (aV (aG (⟨rfl, _, (oI h1).symm, .eq (by kernel_rfl), hO, hN⟩)))
  refine gJ 0 ?_
  obtain rfl := oI h1
  obtain rfl : _ = rr0 := ho0
  replace h0 : jF aA a1 i10 j11 = some r := h0
  exact aF (aY (aY (bV (aG (⟨rfl, _, _, _, .eq (by kernel_rfl), hO, hN, h0⟩)))))

theorem zB  (rec : (List Int) → Int → Int → Int → Option (List Int)) (ih : ∀ (lo0p : Nat) (aA : (List Int)) (a1 : Int) (b2 : Int) (cE : Int) (r : List Int), rec aA a1 b2 cE = some r → rF Try.prog 65 lo0p 1 (List.map (eI) aA) (List.map (eI) r) [(.msl 1 lo0p 0 (List.length aA)), (eI a1), (eI b2), (eI cE)] (.tup [])) (lo0p : Nat) (aA : (List Int)) (a1 : Int) (b2 : Int) (cE : Int) (r : List Int) (h0 : gT rec aA a1 b2 cE = some r) : rF Try.prog 65 lo0p 1 (List.map (eI) aA) (List.map (eI) r) [(.msl 1 lo0p 0 (List.length aA)), (eI a1), (eI b2), (eI cE)] (.tup []) := by
 intro H0 hl0
 refine cY Try.func65 ?_
 have hO := aM.tH hl0
 clear hl0
 obtain ⟨N0, hN0⟩ : ∃ n, n = List.length aA := ⟨_, rfl⟩
 have hN : List.length aA = N0 := hN0.symm
 unfold gT at h0
 refine aX aC 1 [] [(8, (aD true))] ?_
 refine aX aC 1 [] [(9, (aD true))] ?_
 refine bX 0 ?_
 refine eD [(0, (.msl 1 lo0p 0 (List.length aA))), (1, (eI a1)), (2, (eI b2)), (3, (eI cE)), (8, (aD true)), (9, (aD true))] ?_
 refine eE (fun T H => ∃ aA : List Int, ∃ a1 : Int, ∃ b2 : Int, ∃ cE : Int, ∃ bZ : Bool, ∃ bQ : Bool, Has T [(0, (.msl 1 lo0p 0 (List.length aA))), (1, (eI a1)), (2, (eI b2)), (3, (eI cE)), (8, (aD bZ)), (9, (aD bQ))] ∧ aM ⟨H0, [lo0p], []⟩ H [(lo0p, 1, List.map (eI) aA)] ∧ List.length aA = N0 ∧ mD rec aA a1 b2 cE bZ bQ = some r) ?_ ⟨aA, a1, b2, cE, true, true, .eq (by kernel_rfl), hO, hN, h0⟩
 clear hO hN h0
 rintro T H ⟨aA, a1, b2, cE, bZ, bQ, hT, hO, hN, h0⟩
 refine bF hT ?_
 clear hT
 unfold mD at h0
 obtain ⟨rr0, hl0, h0⟩ := aW h0
 refine dK (by kernel_rfl) (fun (s : List Int × Int × Int × Int × Bool × Bool) T H => Has T [(0, (.msl 1 lo0p 0 (List.length s.1))), (1, (eI s.2.1)), (2, (eI s.2.2.1)), (3, (eI s.2.2.2.1)), (8, (aD s.2.2.2.2.1)), (9, (aD s.2.2.2.2.2))] ∧ aM ⟨H0, [lo0p], []⟩ H [(lo0p, 1, List.map (eI) s.1)] ∧ List.length s.1 = N0) hl0 ⟨.eq (by kernel_rfl), hO, hN⟩ ?_
 clear hO hN
 rintro k0 s out1 T H ⟨hT, hO, hN⟩ h1 ho0
 obtain ⟨aA, a1, b2, cE, bZ, bQ⟩ := s
 replace h1 : eP rec aA a1 b2 cE bZ bQ = some out1 := h1
 try dsimp only at hT
 refine bF hT ?_
 clear hT
 unfold eP at h1
 refine bX 1 ?_
 refine aX aC 4 [] [(10, (eI (wR (b2 - a1))))] ?_
 refine aO ?_
 refine aX aC 2 [] [(23, (aD (decide ((wR (b2 - a1)) ≤ (12 : Int)))))] ?_
 refine bK h1 (fun h1 => ?_) (fun h1 => ?_)
 ·refine aO ?_
  refine aS aC 4 ?_
  refine bI 3 ?_
  obtain ⟨x2, hx3, h1⟩ := aW h1
  refine zF [(lo0p, 1, List.map (eI) x2)] 0 (yE lo0p aA a1 b2 _ hx3) hO ?_
  intro H hO hl4
  simp only [List.length_map] at hl4
  replace hN := hl4.trans hN
  refine dG ?_
  refine dJ (l := [(0, (.msl 1 lo0p 0 (List.length x2)))]) ⟨[(0, (.msl 1 lo0p 0 (List.length aA)))], by kernel_rfl, rfl, ⟨aR.eq (by simp [hl4]), trivial⟩⟩ ?_
  refine aF (aG (?_))
  refine bG ?_
  obtain rfl := oI h1
  obtain rfl : _ = rr0 := ho0
  replace h0 : some x2 = some r := h0
  obtain rfl := oI h0
  exact aF (aT (bC (aT (bC (kA (x := (.tup [])) (by kernel_rfl) (aR.refl _) ⟨rfl, hO.ext, hO.at 0 (by kernel_rfl), by simp only [List.length_map]; exact hN.trans hN0⟩)))))
 refine bN ?_
 refine bD [(0, (.msl 1 lo0p 0 (List.length aA))), (1, (eI a1)), (2, (eI b2)), (3, (eI cE)), (8, (aD bZ)), (9, (aD bQ)), (10, (eI (wR (b2 - a1))))] ?_
 refine aO ?_
 refine aX aC 2 [] [(29, (aD (decide (cE = (0 : Int)))))] ?_
 refine bK h1 (fun h1 => ?_) (fun h1 => ?_)
 ·refine aO ?_
  refine aS aC 4 ?_
  refine bI 3 ?_
  obtain ⟨x6, hx7, h1⟩ := aW h1
  refine zF [(lo0p, 1, List.map (eI) x6)] 0 (BK lo0p aA a1 b2 _ hx7) hO ?_
  intro H hO hl8
  simp only [List.length_map] at hl8
  replace hN := hl8.trans hN
  refine dG ?_
  refine dJ (l := [(0, (.msl 1 lo0p 0 (List.length x6)))]) ⟨[(0, (.msl 1 lo0p 0 (List.length aA)))], by kernel_rfl, rfl, ⟨aR.eq (by simp [hl8]), trivial⟩⟩ ?_
  refine aF (aG (?_))
  refine bG ?_
  obtain rfl := oI h1
  obtain rfl : _ = rr0 := ho0
  replace h0 : some x6 = some r := h0
  obtain rfl := oI h0
  exact aF (aT (bC (aT (bC (kA (x := (.tup [])) (by kernel_rfl) (aR.refl _) ⟨rfl, hO.ext, hO.at 0 (by kernel_rfl), by simp only [List.length_map]; exact hN.trans hN0⟩)))))
 refine bN ?_
 refine bD [(0, (.msl 1 lo0p 0 (List.length aA))), (1, (eI a1)), (2, (eI b2)), (3, (eI cE)), (8, (aD bZ)), (9, (aD bQ)), (10, (eI (wR (b2 - a1))))] ?_
 refine eR (fun T H => ∃ aA : List Int, ∃ cE : Int, ∃ eB : Int, Has T [(0, (.msl 1 lo0p 0 (List.length aA))), (1, (eI a1)), (2, (eI b2)), (3, (eI cE)), (8, (aD bZ)), (9, (aD bQ)), (10, (eI eB))] ∧ aM ⟨H0, [lo0p], []⟩ H [(lo0p, 1, List.map (eI) aA)] ∧ List.length aA = N0 ∧ iN rec aA a1 b2 cE bZ bQ eB = some out1) ?_ ?_
 ·clear hO hN h1
  rintro T H ⟨aA, cE, eB, hT, hO, hN, h1⟩
  refine bF hT ?_
  clear hT
  unfold iN at h1
  refine aO ?_
  refine aS aC 9 ?_
  refine bI 3 ?_
  obtain ⟨x9, hx10, h1⟩ := aW h1
  refine GA [] [0] (zQ lo0p aA a1 b2 _ hx10) hO ?_
  intro r11 L12 H hP13 hO
  obtain ⟨rfl, rfl⟩ := hP13
  replace hO : aM ⟨H0, [lo0p], []⟩ H [(lo0p, 1, List.map (eI) aA)] := hO
  refine bA ?_
  refine bP [] [(11, (eI x9.1)), (12, (eI x9.2))] ?_
  refine eR (fun T H => ∃ aA : List Int, ∃ gU : Int, ∃ HE : Int, Has T [(0, (.msl 1 lo0p 0 (List.length aA))), (1, (eI a1)), (2, (eI b2)), (3, (eI cE)), (8, (aD bZ)), (9, (aD bQ)), (10, (eI eB)), (11, (eI gU)), (12, (eI HE))] ∧ aM ⟨H0, [lo0p], []⟩ H [(lo0p, 1, List.map (eI) aA)] ∧ List.length aA = N0 ∧ iL rec aA a1 b2 cE bZ bQ eB gU HE = some out1) ?_ ?_
  ·clear hO hN h1
   rintro T H ⟨aA, gU, HE, hT, hO, hN, h1⟩
   refine bF hT ?_
   clear hT
   unfold iL at h1
   refine eR (fun T H => ∃ aA : List Int, Has T [(0, (.msl 1 lo0p 0 (List.length aA))), (1, (eI a1)), (2, (eI b2)), (3, (eI cE)), (8, (aD bZ)), (9, (aD bQ)), (10, (eI eB)), (11, (eI gU))] ∧ aM ⟨H0, [lo0p], []⟩ H [(lo0p, 1, List.map (eI) aA)] ∧ List.length aA = N0 ∧ iO rec aA a1 b2 cE bZ bQ eB gU = some out1) ?_ ?_
   ·clear hO hN h1
    rintro T H ⟨aA, hT, hO, hN, h1⟩
    refine bF hT ?_
    clear hT
    unfold iO at h1
    refine aO ?_
    refine aO ?_
    obtain ⟨c14, h1⟩ := aZ h1
    obtain ⟨c15, h1⟩ := aZ h1
    obtain ⟨x16, hx17, h1⟩ := aW h1
    refine fS (fR []) aC 15 ?_
    refine qV (K := fun T H => Has (lift T) [(0, (.msl 1 lo0p 0 (List.length aA))), (1, (eI a1)), (2, (eI b2)), (3, (eI cE)), (8, (aD bZ)), (9, (aD bQ)), (10, (eI eB)), (11, (eI gU)), (87, (aD ((decide ((0 : Int) < a1)) && (!x16))))] ∧ aM ⟨H0, [lo0p], []⟩ H [(lo0p, 1, List.map (eI) aA)]) ?_ ?_
    ·refine kJ 3 ?_
     refine pN (t := 75) (e := decide ((0 : Int) < a1)) (by kernel_rfl) (fun hg18 => ?_) (fun hg18 => ?_)
     ·refine cJ 7 [0 ≤ (wR (a1 - (1 : Int))) ∧ (wR (a1 - (1 : Int))) < (lN aA)] ⟨(c14 hg18), trivial⟩ ?_
      refine iZ 0 lo0p 1 (0 + Int.toNat (wR (a1 - (1 : Int)))) (eI (gD aA (wR (a1 - (1 : Int))))) (eI (gD aA (wR (a1 - (1 : Int))))) (List.map (eI) aA) (by kernel_rfl) (by kernel_rfl) (by kernel_rfl) hO (by kernel_rfl) (cA (c14 hg18)) ?_
      refine cJ 11 [0 ≤ gU ∧ gU < (lN aA)] ⟨(c15 hg18), trivial⟩ ?_
      refine iZ 0 lo0p 1 (0 + Int.toNat gU) (eI (gD aA gU)) (eI (gD aA gU)) (List.map (eI) aA) (by kernel_rfl) (by kernel_rfl) (by kernel_rfl) hO (by kernel_rfl) (cA (c15 hg18)) ?_
      refine pO 54 [(eI (gD aA (wR (a1 - (1 : Int))))), (eI (gD aA gU))] (aD x16) (by kernel_rfl) (by kernel_rfl) (fX (gD aA (wR (a1 - (1 : Int)))) (gD aA gU) _ (jG hx17 hg18)) hO ?_
      intro H hO
      refine kI ?_
      exact ⟨⟨[(0, (.msl 1 lo0p 0 (List.length aA))), (1, (eI a1)), (2, (eI b2)), (3, (eI cE)), (8, (aD bZ)), (9, (aD bQ)), (10, (eI eB)), (11, (eI gU)), (87, (aD (!x16)))], by kernel_rfl, rfl, ⟨aR.refl _, aR.refl _, aR.refl _, aR.refl _, aR.refl _, aR.refl _, aR.refl _, aR.refl _, aR.eq (congrArg aD (oG hg18 rfl).symm), trivial⟩⟩, hO⟩
     refine kI ?_
     exact ⟨⟨[(0, (.msl 1 lo0p 0 (List.length aA))), (1, (eI a1)), (2, (eI b2)), (3, (eI cE)), (8, (aD bZ)), (9, (aD bQ)), (10, (eI eB)), (11, (eI gU)), (87, (aD false))], by kernel_rfl, rfl, ⟨aR.refl _, aR.refl _, aR.refl _, aR.refl _, aR.refl _, aR.refl _, aR.refl _, aR.refl _, aR.eq (congrArg aD (oG hg18 rfl).symm), trivial⟩⟩, hO⟩
    ·rintro T H ⟨hT, hO⟩
     refine dJ hT ?_
     clear hT
     refine aF (aG ?_)
     refine bK h1 (fun h1 => ?_) (fun h1 => ?_)
     ·refine aO ?_
      refine aS aC 6 ?_
      refine bI 4 ?_
      obtain ⟨x20, hx21, h1⟩ := aW h1
      refine zF [(lo0p, 1, List.map (eI) x20.2)] 0 (xV lo0p aA a1 b2 gU _ hx21) hO ?_
      intro H hO hl22
      simp only [List.length_map] at hl22
      replace hN := hl22.trans hN
      refine bA ?_
      refine dJ (l := [(0, (.msl 1 lo0p 0 (List.length x20.2))), (2, (eI b2)), (3, (eI cE)), (8, (aD bZ)), (9, (aD bQ)), (13, (eI x20.1))]) ⟨[(0, (.msl 1 lo0p 0 (List.length aA))), (2, (eI b2)), (3, (eI cE)), (8, (aD bZ)), (9, (aD bQ)), (13, (eI x20.1))], by kernel_rfl, rfl, ⟨aR.eq (by simp [hl22]), aR.refl _, aR.refl _, aR.refl _, aR.refl _, aR.refl _, trivial⟩⟩ ?_
      refine aF (aG (?_))
      refine aX aC 2 [13] [(1, (eI x20.1))] ?_
      refine gJ 1 ?_
      exact aF (aY (bV (aG (⟨rfl, _, (oI h1).symm, .eq (by kernel_rfl), hO, hN⟩))))
     refine bN ?_
     refine bD [(0, (.msl 1 lo0p 0 (List.length aA))), (1, (eI a1)), (2, (eI b2)), (3, (eI cE)), (10, (eI eB)), (11, (eI gU))] ?_
     refine aO ?_
     refine aS aC 10 ?_
     refine bI 4 ?_
     obtain ⟨x23, hx24, h1⟩ := aW h1
     refine zF [(lo0p, 1, List.map (eI) x23.2)] 0 (AU lo0p aA a1 b2 gU _ hx24) hO ?_
     intro H hO hl25
     simp only [List.length_map] at hl25
     replace hN := hl25.trans hN
     refine bA ?_
     refine dJ (l := [(0, (.msl 1 lo0p 0 (List.length x23.2))), (1, (eI a1)), (2, (eI b2)), (3, (eI cE)), (10, (eI eB)), (14, (eI x23.1.1)), (15, (aD x23.1.2))]) ⟨[(0, (.msl 1 lo0p 0 (List.length aA))), (1, (eI a1)), (2, (eI b2)), (3, (eI cE)), (10, (eI eB)), (14, (eI x23.1.1)), (15, (aD x23.1.2))], by kernel_rfl, rfl, ⟨aR.eq (by simp [hl25]), aR.refl _, aR.refl _, aR.refl _, aR.refl _, aR.refl _, aR.refl _, trivial⟩⟩ ?_
     refine aF (aG (?_))
     refine aX aC 2 [15] [(9, (aD x23.1.2))] ?_
     refine aX aC 8 [] [(16, (eI (wR (x23.1.1 - a1)))), (17, (eI (wR (b2 - x23.1.1))))] ?_
     refine aO ?_
     refine aS aC 3 ?_
     obtain ⟨c26, h1⟩ := aZ h1
     refine pZ [(8 : Int) ≠ 0] ⟨c26, trivial⟩ ?_
     refine bP [10] [(18, (eI (wR (Int.tdiv eB (8 : Int)))))] ?_
     refine aX aC 3 [] [(113, (aD (decide ((wR (x23.1.1 - a1)) < (wR (b2 - x23.1.1))))))] ?_
     refine bK h1 (fun h1 => ?_) (fun h1 => ?_)
     ·refine bW aC 4 [(0, (.msl 1 lo0p 0 (List.length x23.2))), (1, (eI a1)), (2, (eI b2)), (3, (eI cE)), (8, (aD (decide ((wR (Int.tdiv eB (8 : Int))) ≤ (wR (x23.1.1 - a1)))))), (9, (aD x23.1.2)), (14, (eI x23.1.1))] ?_
      refine aO ?_
      refine aS aC 5 ?_
      refine bI 4 ?_
      obtain ⟨x28, hx29, h1⟩ := aW h1
      refine zF [(lo0p, 1, List.map (eI) x28)] 0 (ih lo0p x23.2 a1 x23.1.1 cE _ hx29) hO ?_
      intro H hO hl30
      simp only [List.length_map] at hl30
      replace hN := hl30.trans hN
      refine dG ?_
      refine dJ (l := [(0, (.msl 1 lo0p 0 (List.length x28))), (2, (eI b2)), (3, (eI cE)), (8, (aD (decide ((wR (Int.tdiv eB (8 : Int))) ≤ (wR (x23.1.1 - a1)))))), (9, (aD x23.1.2)), (14, (eI x23.1.1))]) ⟨[(0, (.msl 1 lo0p 0 (List.length x23.2))), (2, (eI b2)), (3, (eI cE)), (8, (aD (decide ((wR (Int.tdiv eB (8 : Int))) ≤ (wR (x23.1.1 - a1)))))), (9, (aD x23.1.2)), (14, (eI x23.1.1))], by kernel_rfl, rfl, ⟨aR.eq (by simp [hl30]), aR.refl _, aR.refl _, aR.refl _, aR.refl _, aR.refl _, trivial⟩⟩ ?_
      refine aF (aG (?_))
      refine aS aC 3 ?_
      refine bA ?_
      exact aF (aV (aG (⟨rfl, _, (oI h1).symm, .eq (by kernel_rfl), hO, hN⟩)))
     refine bW aC 4 [(0, (.msl 1 lo0p 0 (List.length x23.2))), (1, (eI a1)), (2, (eI b2)), (3, (eI cE)), (8, (aD (decide ((wR (Int.tdiv eB (8 : Int))) ≤ (wR (b2 - x23.1.1)))))), (9, (aD x23.1.2)), (14, (eI x23.1.1))] ?_
     refine aO ?_
     refine aS aC 6 ?_
     refine bI 5 ?_
     obtain ⟨x31, hx32, h1⟩ := aW h1
     refine zF [(lo0p, 1, List.map (eI) x31)] 0 (ih lo0p x23.2 (wR (x23.1.1 + (1 : Int))) b2 cE _ hx32) hO ?_
     intro H hO hl33
     simp only [List.length_map] at hl33
     replace hN := hl33.trans hN
     refine dG ?_
     refine dJ (l := [(0, (.msl 1 lo0p 0 (List.length x31))), (1, (eI a1)), (3, (eI cE)), (8, (aD (decide ((wR (Int.tdiv eB (8 : Int))) ≤ (wR (b2 - x23.1.1)))))), (9, (aD x23.1.2)), (14, (eI x23.1.1))]) ⟨[(0, (.msl 1 lo0p 0 (List.length x23.2))), (1, (eI a1)), (3, (eI cE)), (8, (aD (decide ((wR (Int.tdiv eB (8 : Int))) ≤ (wR (b2 - x23.1.1)))))), (9, (aD x23.1.2)), (14, (eI x23.1.1))], by kernel_rfl, rfl, ⟨aR.eq (by simp [hl33]), aR.refl _, aR.refl _, aR.refl _, aR.refl _, aR.refl _, trivial⟩⟩ ?_
     refine aF (aG (?_))
     refine aS aC 2 ?_
     refine bA ?_
     exact aF (aV (aG (⟨rfl, _, (oI h1).symm, .eq (by kernel_rfl), hO, hN⟩)))
   refine aX aC 8 [12] [(68, (aD ((bZ && bQ) && (decide (HE = (1 : Int))))))] ?_
   refine bK h1 (fun h1 => ?_) (fun h1 => ?_)
   ·refine aO ?_
    refine aS aC 4 ?_
    refine bI 3 ?_
    obtain ⟨x35, hx36, h1⟩ := aW h1
    refine zF [(lo0p, 1, List.map (eI) x35.2)] 0 (uD lo0p aA a1 b2 _ hx36) hO ?_
    intro H hO hl37
    simp only [List.length_map] at hl37
    replace hN := hl37.trans hN
    refine dG ?_
    refine dJ (l := [(0, (.msl 1 lo0p 0 (List.length x35.2))), (1, (eI a1)), (2, (eI b2)), (3, (eI cE)), (8, (aD bZ)), (9, (aD bQ)), (10, (eI eB)), (11, (eI gU)), (72, (aD x35.1))]) ⟨[(0, (.msl 1 lo0p 0 (List.length aA))), (1, (eI a1)), (2, (eI b2)), (3, (eI cE)), (8, (aD bZ)), (9, (aD bQ)), (10, (eI eB)), (11, (eI gU)), (72, (aD x35.1))], by kernel_rfl, rfl, ⟨aR.eq (by simp [hl37]), aR.refl _, aR.refl _, aR.refl _, aR.refl _, aR.refl _, aR.refl _, aR.refl _, aR.refl _, trivial⟩⟩ ?_
    refine aF (aG (?_))
    refine bK h1 (fun h1 => ?_) (fun h1 => ?_)
    ·refine bG ?_
     obtain rfl := oI h1
     obtain rfl : _ = rr0 := ho0
     replace h0 : some x35.2 = some r := h0
     obtain rfl := oI h0
     exact aF (aT (bC (aT (bC (kA (x := (.tup [])) (by kernel_rfl) (aR.refl _) ⟨rfl, hO.ext, hO.at 0 (by kernel_rfl), by simp only [List.length_map]; exact hN.trans hN0⟩)))))
    refine bN ?_
    exact aF (aG (⟨rfl, _, .eq (by kernel_rfl), hO, hN, h1⟩))
   refine bN ?_
   exact aF (aG (⟨rfl, _, .eq (by kernel_rfl), hO, hN, h1⟩))
  refine aX aC 2 [] [(50, (aD (decide (x9.2 = (2 : Int)))))] ?_
  refine bK h1 (fun h1 => ?_) (fun h1 => ?_)
  ·refine aO ?_
   refine aS aC 4 ?_
   refine bI 3 ?_
   obtain ⟨x40, hx41, h1⟩ := aW h1
   refine zF [(lo0p, 1, List.map (eI) x40)] 0 (yY lo0p aA a1 b2 _ hx41) hO ?_
   intro H hO hl42
   simp only [List.length_map] at hl42
   replace hN := hl42.trans hN
   refine dG ?_
   refine dJ (l := [(0, (.msl 1 lo0p 0 (List.length x40))), (1, (eI a1)), (2, (eI b2)), (3, (eI cE)), (8, (aD bZ)), (9, (aD bQ)), (10, (eI eB)), (11, (eI x9.1))]) ⟨[(0, (.msl 1 lo0p 0 (List.length aA))), (1, (eI a1)), (2, (eI b2)), (3, (eI cE)), (8, (aD bZ)), (9, (aD bQ)), (10, (eI eB)), (11, (eI x9.1))], by kernel_rfl, rfl, ⟨aR.eq (by simp [hl42]), aR.refl _, aR.refl _, aR.refl _, aR.refl _, aR.refl _, aR.refl _, aR.refl _, trivial⟩⟩ ?_
   refine aF (aG (?_))
   refine aX aC 7 [11] [(11, (eI (wR ((wR (b2 - (1 : Int))) - (wR (x9.1 - a1))))))] ?_
   refine aS aC 1 ?_
   refine bA ?_
   exact aF (aG (⟨rfl, _, _, _, .eq (by kernel_rfl), hO, hN, h1⟩))
  refine bN ?_
  exact aF (aG (⟨rfl, _, _, _, .eq (by kernel_rfl), hO, hN, h1⟩))
 refine aX aC 2 [] [(35, (aD (!bZ)))] ?_
 refine bK h1 (fun h1 => ?_) (fun h1 => ?_)
 ·refine aO ?_
  refine aS aC 4 ?_
  refine bI 3 ?_
  obtain ⟨x44, hx45, h1⟩ := aW h1
  refine zF [(lo0p, 1, List.map (eI) x44)] 0 (xW lo0p aA a1 b2 _ hx45) hO ?_
  intro H hO hl46
  simp only [List.length_map] at hl46
  replace hN := hl46.trans hN
  refine dG ?_
  refine dJ (l := [(0, (.msl 1 lo0p 0 (List.length x44))), (1, (eI a1)), (2, (eI b2)), (3, (eI cE)), (8, (aD bZ)), (9, (aD bQ)), (10, (eI (wR (b2 - a1))))]) ⟨[(0, (.msl 1 lo0p 0 (List.length aA))), (1, (eI a1)), (2, (eI b2)), (3, (eI cE)), (8, (aD bZ)), (9, (aD bQ)), (10, (eI (wR (b2 - a1))))], by kernel_rfl, rfl, ⟨aR.eq (by simp [hl46]), aR.refl _, aR.refl _, aR.refl _, aR.refl _, aR.refl _, aR.refl _, trivial⟩⟩ ?_
  refine aF (aG (?_))
  refine aS aC 3 ?_
  refine bA ?_
  exact aF (aG (⟨rfl, _, _, _, .eq (by kernel_rfl), hO, hN, h1⟩))
 refine bN ?_
 exact aF (aG (⟨rfl, _, _, _, .eq (by kernel_rfl), hO, hN, h1⟩))

theorem rZ  : ∀ (k : Nat) (lo0p : Nat) (aA : (List Int)) (a1 : Int) (b2 : Int) (cE : Int) (r : List Int), dR k aA a1 b2 cE = some r → rF Try.prog 65 lo0p 1 (List.map (eI) aA) (List.map (eI) r) [(.msl 1 lo0p 0 (List.length aA)), (eI a1), (eI b2), (eI cE)] (.tup [])
 | 0, _, _, _, _, _, _, h => by cases h
 | k + 1, lo0p, aA, a1, b2, cE, r, h => zB  _ (rZ  k) lo0p aA a1 b2 cE r h

theorem CA (lo0p : Nat) (aA : (List Int)) (a1 : Int) (b2 : Int) (cE : Int) (r : List Int) (h0 : kK aA a1 b2 cE = some r) : rF Try.prog 65 lo0p 1 (List.map (eI) aA) (List.map (eI) r) [(.msl 1 lo0p 0 (List.length aA)), (eI a1), (eI b2), (eI cE)] (.tup []) := by
 obtain ⟨k, hk⟩ := TW h0
 exact rZ  k lo0p aA a1 b2 cE r hk

theorem sU (lo0p : Nat) (x0 : (List Int)) (r : List Int) (h0 : gS x0 = some r) : rF Try.prog 42 lo0p 1 (List.map (eI) x0) (List.map (eI) r) [(.msl 1 lo0p 0 (List.length x0))] (.tup []) := by
 intro H0 hl0
 refine cY Try.func42 ?_
 have hO := aM.tH hl0
 clear hl0
 obtain ⟨N0, hN0⟩ : ∃ n, n = List.length x0 := ⟨_, rfl⟩
 have hN : List.length x0 = N0 := hN0.symm
 unfold gS at h0
 refine aX aC 3 [] [(2, (eI (lN x0)))] ?_
 refine aS aC 6 ?_
 refine bI 4 ?_
 obtain ⟨x1, hx2, h0⟩ := aW h0
 refine cX (FU (IntKind.u64.wrap (lN x0)) _ hx2) hO ?_
 intro H hO
 obtain ⟨x4, hx5, h0⟩ := aW h0
 refine zF [(lo0p, 1, List.map (eI) x4)] 0 (CA lo0p x0 (0 : Int) (lN x0) x1 _ hx5) hO ?_
 intro H hO hl6
 simp only [List.length_map] at hl6
 replace hN := hl6.trans hN
 refine dG ?_
 refine dJ (l := [(0, (.msl 1 lo0p 0 (List.length x4)))]) ⟨[(0, (.msl 1 lo0p 0 (List.length x0)))], by kernel_rfl, rfl, ⟨aR.eq (by simp [hl6]), trivial⟩⟩ ?_
 obtain rfl := oI h0
 exact aF (yU (x := (.tup [])) (by kernel_rfl) (aR.refl _) ⟨rfl, hO.ext, hO.at 0 (by kernel_rfl), by simp only [List.length_map]; exact hN.trans hN0⟩)

theorem DL (lo0p : Nat) (s0 : (List Int)) (r : (List Int)) (h0 : kF s0 = some r) : aBG Try.prog 53 lo0p 1 (List.map (eI) s0) [(.msl 1 lo0p 0 (List.length s0))] (fun lo => .msl 1 lo 0 (List.length r)) (List.map (eI) r) := by
 intro H0 hl0
 refine cY Try.func53 ?_
 have hO := aM.tH hl0
 clear hl0
 unfold kF at h0
 refine aX aC 1 [] [] ?_
 refine aO ?_
 refine aX aC 3 [] [(8, (aD (decide ((lN s0) < (2 : Int)))))] ?_
 refine bK h0 (fun h0 => ?_) (fun h0 => ?_)
 ·refine bW aC 2 [(2, (.msl 1 lo0p 0 (List.length s0)))] ?_
  refine bG ?_
  obtain rfl := oI h0
  exact aF (aT (kA (x := (.msl 1 lo0p 0 (List.length s0))) (by kernel_rfl) (aR.refl _) ⟨lo0p, rfl, hO⟩))
 refine bN ?_
 refine bD [(0, (.msl 1 lo0p 0 (List.length s0)))] ?_
 refine eR (fun T H => ∃ s0 : List Int, ∃ lo2 : Nat, Has T [(0, (.msl 1 lo2 0 (List.length s0)))] ∧ aM ⟨H0, [lo0p], []⟩ H [(lo2, 1, List.map (eI) s0)] ∧ lK s0 = some r) ?_ ?_
 ·clear hO h0
  rintro T H ⟨s0, lo2, hT, hO, h0⟩
  refine bF hT ?_
  clear hT
  unfold lK at h0
  refine bW aC 2 [(2, (.msl 1 lo2 0 (List.length s0)))] ?_
  refine bG ?_
  obtain rfl := oI h0
  exact aF (kA (x := (.msl 1 lo2 0 (List.length s0))) (by kernel_rfl) (aR.refl _) ⟨lo2, rfl, hO⟩)
 refine aX aC 1 [] [(3, (eI (1 : Int)))] ?_
 refine bX 0 ?_
 refine eD [(0, (.msl 1 lo0p 0 (List.length s0))), (3, (eI (1 : Int)))] ?_
 refine eE (fun T H => ∃ s0 : List Int, ∃ k3 : Int, ∃ lo4 : Nat, Has T [(0, (.msl 1 lo4 0 (List.length s0))), (3, (eI k3))] ∧ aM ⟨H0, [lo0p], []⟩ H [(lo4, 1, List.map (eI) s0)] ∧ nE s0 k3 = some r) ?_ ⟨s0, (1 : Int), lo0p, .eq (by kernel_rfl), hO, h0⟩
 clear hO h0
 rintro T H ⟨s0, k3, lo4, hT, hO, h0⟩
 refine bF hT ?_
 clear hT
 unfold nE at h0
 obtain ⟨rr0, hl0, h0⟩ := aW h0
 refine dK (by kernel_rfl) (fun (s : List Int × Int) T H => ∃ lo4 : Nat, Has T [(0, (.msl 1 lo4 0 (List.length s.1))), (3, (eI s.2))] ∧ aM ⟨H0, [lo0p], []⟩ H [(lo4, 1, List.map (eI) s.1)]) hl0 ⟨lo4, .eq (by kernel_rfl), hO⟩ ?_
 clear hO
 rintro k0 s out1 T H ⟨lo4, hT, hO⟩ h1 ho0
 obtain ⟨s0, k3⟩ := s
 replace h1 : iG s0 k3 = some out1 := h1
 try dsimp only at hT
 refine bF hT ?_
 clear hT
 unfold iG at h1
 refine aO ?_
 refine aX aC 4 [] [(13, (aD (decide (k3 < (lN s0)))))] ?_
 refine bK h1 (fun h1 => ?_) (fun h1 => ?_)
 ·refine bN ?_
  refine bD [(0, (.msl 1 lo4 0 (List.length s0))), (3, (eI k3))] ?_
  refine eR (fun T H => ∃ s0 : List Int, ∃ k3 : Int, ∃ lo6 : Nat, Has T [(0, (.msl 1 lo6 0 (List.length s0))), (3, (eI k3))] ∧ aM ⟨H0, [lo0p], []⟩ H [(lo6, 1, List.map (eI) s0)] ∧ nG s0 k3 = some out1) ?_ ?_
  ·clear hO h1
   rintro T H ⟨s0, k3, lo6, hT, hO, h1⟩
   refine bF hT ?_
   clear hT
   unfold nG at h1
   refine aS aC 3 ?_
   refine bA ?_
   exact aF (aG (⟨rfl, _, (oI h1).symm, _, .eq (by kernel_rfl), hO⟩))
  refine bX 1 ?_
  refine aO ?_
  refine fS (fR []) aC 10 ?_
  obtain ⟨c7, h1⟩ := aZ h1
  refine cJ 3 [0 ≤ k3 ∧ k3 < (lN s0)] ⟨c7, trivial⟩ ?_
  refine fY 0 lo4 1 (0 + Int.toNat k3) (eI (gD s0 k3)) (eI (gD s0 k3)) (List.map (eI) s0) hO (cA c7) ?_
  obtain ⟨c8, h1⟩ := aZ h1
  refine cJ 8 [0 ≤ (wR (k3 - (1 : Int))) ∧ (wR (k3 - (1 : Int))) < (lN s0)] ⟨c8, trivial⟩ ?_
  refine fY 0 lo4 1 (0 + Int.toNat (wR (k3 - (1 : Int)))) (eI (gD s0 (wR (k3 - (1 : Int))))) (eI (gD s0 (wR (k3 - (1 : Int))))) (List.map (eI) s0) hO (cA c8) ?_
  refine kI ?_
  refine bP [] [(25, (aD (decide ((gD s0 k3) = (gD s0 (wR (k3 - (1 : Int))))))))] ?_
  refine bK h1 (fun h1 => ?_) (fun h1 => ?_)
  ·refine aO ?_
   refine aS aC 4 ?_
   obtain ⟨c10, h1⟩ := aZ h1
   refine pZ [0 ≤ k3 ∧ k3 ≤ (lN s0)] ⟨c10, trivial⟩ ?_
   refine bP [25] [(4, (.msl 1 lo4 (0 + Int.toNat k3) (List.length s0 - Int.toNat k3)))] ?_
   refine eR (fun T H => ∃ s0 : List Int, ∃ k3 : Int, ∃ lo11 : Nat, Has T [(0, (.msl 1 lo11 0 (List.length s0))), (3, (eI k3))] ∧ aM ⟨H0, [lo0p], []⟩ H [(lo11, 1, List.map (eI) s0)] ∧ lC s0 k3 = some out1) ?_ ?_
   ·clear hO h1
    rintro T H ⟨s0, k3, lo11, hT, hO, h1⟩
    refine bF hT ?_
    clear hT
    unfold lC at h1
    refine aO ?_
    refine aS aC 4 ?_
    obtain ⟨c12, h1⟩ := aZ h1
    refine sG 3 [0 ≤ k3 ∧ k3 ≤ (lN s0)] ⟨c12, trivial⟩ ?_
    refine aFd (t := 71) (m := (0 + Int.toNat k3)) (nn := (List.length s0 - Int.toNat k3)) s0 0 lo11 [(lo11, 1, List.map (eI) (kR (0 + Int.toNat k3) s0))] hO (by omega) ?_
    intro H hO
    refine dG ?_
    refine dJ (l := [(0, (.msl 1 lo11 0 (List.length (kR (0 + Int.toNat k3) s0)))), (3, (eI k3))]) ⟨[(0, (.msl 1 lo11 0 (List.length s0))), (3, (eI k3))], by kernel_rfl, rfl, ⟨aR.eq (by simp [clearL_len]), aR.refl _, trivial⟩⟩ ?_
    refine aF (aG (?_))
    refine aO ?_
    refine aS aC 4 ?_
    obtain ⟨c13, h1⟩ := aZ h1
    obtain ⟨c14, h1⟩ := aZ h1
    refine pZ [0 ≤ k3 ∧ k3 ≤ (lN (kR (0 + Int.toNat k3) s0))] ⟨c13, trivial⟩ ?_
    refine bD [(2, (.msl 1 lo11 0 (Int.toNat k3)))] ?_
    refine bG ?_
    refine dJ (l := [(2, (.msl 1 lo11 0 (List.length (List.take (Int.toNat k3) (kR (0 + Int.toNat k3) s0)))))]) ⟨[(2, (.msl 1 lo11 0 (Int.toNat k3)))], by kernel_rfl, rfl, ⟨aR.eq (by rw [List.length_take, Nat.min_eq_left c14]), trivial⟩⟩ ?_
    refine aFD (en := (eI)) (kR (0 + Int.toNat k3) s0) (Int.toNat k3) 0 1 lo11 [(lo11, 1, List.map (eI) (List.take (Int.toNat k3) (kR (0 + Int.toNat k3) s0)))] hO (by kernel_rfl) (by kernel_rfl) ?_
    intro H hO
    obtain rfl := oI h1
    obtain rfl : _ = rr0 := ho0
    replace h0 : some (List.take (Int.toNat k3) (kR (0 + Int.toNat k3) s0)) = some r := h0
    obtain rfl := oI h0
    exact aF (bC (aT (aT (bC (aT (kA (x := (.msl 1 lo11 0 (List.length (List.take (Int.toNat k3) (kR (0 + Int.toNat k3) s0))))) (by kernel_rfl) (aR.refl _) ⟨lo11, rfl, hO⟩))))))
   refine aX aC 1 [] [(5, (eI (1 : Int)))] ?_
   refine bX 2 ?_
   refine eD [(0, (.msl 1 lo4 0 (List.length s0))), (3, (eI k3)), (4, (.msl 1 lo4 (0 + Int.toNat k3) (List.length s0 - Int.toNat k3))), (5, (eI (1 : Int)))] ?_
   refine eE (fun T H => ∃ s0 : List Int, ∃ k3 : Int, ∃ k25 : Int, ∃ s24o : Nat, ∃ s24n : Nat, ∃ lo16 : Nat, Has T [(0, (.msl 1 lo16 0 (List.length s0))), (3, (eI k3)), (4, (.msl 1 lo16 s24o s24n)), (5, (eI k25))] ∧ aM ⟨H0, [lo0p], []⟩ H [(lo16, 1, List.map (eI) s0)] ∧ nH s0 k3 k25 s24o s24n = some out1) ?_ ⟨s0, k3, (1 : Int), (0 + Int.toNat k3), (List.length s0 - Int.toNat k3), lo4, .eq (by kernel_rfl), hO, h1⟩
   clear hO h1
   rintro T H ⟨s0, k3, k25, s24o, s24n, lo16, hT, hO, h1⟩
   refine bF hT ?_
   clear hT
   unfold nH at h1
   obtain ⟨rr1, hl1, h1⟩ := aW h1
   refine dK (by kernel_rfl) (fun (s : List Int × Int × Int) T H => ∃ lo16 : Nat, Has T [(0, (.msl 1 lo16 0 (List.length s.1))), (3, (eI s.2.1)), (4, (.msl 1 lo16 s24o s24n)), (5, (eI s.2.2))] ∧ aM ⟨H0, [lo0p], []⟩ H [(lo16, 1, List.map (eI) s.1)]) hl1 ⟨lo16, .eq (by kernel_rfl), hO⟩ ?_
   clear hO
   rintro k1 s out2 T H ⟨lo16, hT, hO⟩ h2 ho1
   obtain ⟨s0, k3, k25⟩ := s
   replace h2 : fV s24o s24n s0 k3 k25 = some out2 := h2
   try dsimp only at hT
   refine bF hT ?_
   clear hT
   unfold fV at h2
   refine aO ?_
   refine aX aC 4 [] [(32, (aD (decide (k25 < ((s24n : Nat) : Int)))))] ?_
   refine bK h2 (fun h2 => ?_) (fun h2 => ?_)
   ·refine bN ?_
    refine bD [(0, (.msl 1 lo16 0 (List.length s0))), (3, (eI k3)), (4, (.msl 1 lo16 s24o s24n)), (5, (eI k25))] ?_
    refine eR (fun T H => ∃ s0 : List Int, ∃ k3 : Int, ∃ lo18 : Nat, Has T [(0, (.msl 1 lo18 0 (List.length s0))), (3, (eI k3)), (4, (.msl 1 lo18 s24o s24n)), (5, (eI k25))] ∧ aM ⟨H0, [lo0p], []⟩ H [(lo18, 1, List.map (eI) s0)] ∧ jQ s0 k3 k25 s24o s24n = some out2) ?_ ?_
    ·clear hO h2
     rintro T H ⟨s0, k3, lo18, hT, hO, h2⟩
     refine bF hT ?_
     clear hT
     unfold jQ at h2
     refine aS aC 3 ?_
     refine bA ?_
     exact aF (aG (⟨rfl, _, (oI h2).symm, _, .eq (by kernel_rfl), hO⟩))
    refine bX 3 ?_
    refine aO ?_
    refine fS (fR []) aC 10 ?_
    obtain ⟨c19, h2⟩ := aZ h2
    obtain ⟨c20, h2⟩ := aZ h2
    refine cJ 3 [0 ≤ k25 ∧ k25 < ((s24n : Nat) : Int)] ⟨c19, trivial⟩ ?_
    refine fY 0 lo16 1 (s24o + Int.toNat k25) (eI (List.getD s0 (s24o + Int.toNat k25) default)) (eI (List.getD s0 (s24o + Int.toNat k25) default)) (List.map (eI) s0) hO (QW c20) ?_
    obtain ⟨c21, h2⟩ := aZ h2
    obtain ⟨c22, h2⟩ := aZ h2
    refine cJ 8 [0 ≤ (wR (k25 - (1 : Int))) ∧ (wR (k25 - (1 : Int))) < ((s24n : Nat) : Int)] ⟨c21, trivial⟩ ?_
    refine fY 0 lo16 1 (s24o + Int.toNat (wR (k25 - (1 : Int)))) (eI (List.getD s0 (s24o + Int.toNat (wR (k25 - (1 : Int)))) default)) (eI (List.getD s0 (s24o + Int.toNat (wR (k25 - (1 : Int)))) default)) (List.map (eI) s0) hO (QW c22) ?_
    refine kI ?_
    refine bP [] [(44, (aD (!decide ((List.getD s0 (s24o + Int.toNat k25) default) = (List.getD s0 (s24o + Int.toNat (wR (k25 - (1 : Int)))) default)))))] ?_
    refine bK h2 (fun h2 => ?_) (fun h2 => ?_)
    ·refine aO ?_
     refine aS aC 8 ?_
     obtain ⟨c24, h2⟩ := aZ h2
     obtain ⟨c25, h2⟩ := aZ h2
     refine sG 5 [0 ≤ k25 ∧ k25 < ((s24n : Nat) : Int)] ⟨c24, trivial⟩ ?_
     refine jJ 0 lo16 1 (s24o + Int.toNat k25) (eI (List.getD s0 (s24o + Int.toNat k25) default)) (eI (List.getD s0 (s24o + Int.toNat k25) default)) (List.map (eI) s0) hO (QW c25) ?_
     obtain ⟨c26, h2⟩ := aZ h2
     refine sG 7 [0 ≤ k3 ∧ k3 < (lN s0)] ⟨c26, trivial⟩ ?_
     refine gY 0 lo16 1 (0 + Int.toNat k3) (eI (gD s0 k3)) (eI (List.getD s0 (s24o + Int.toNat k25) default)) (List.map (eI) s0) [(lo16, 1, List.map (eI) (List.set s0 (Int.toNat k3) (List.getD s0 (s24o + Int.toNat k25) default)))] hO (cA c26) (by simp only [List.set, iI]) ?_
     intro H hO
     refine dG ?_
     refine dJ (l := [(0, (.msl 1 lo16 0 (List.length (List.set s0 (Int.toNat k3) (List.getD s0 (s24o + Int.toNat k25) default))))), (3, (eI k3)), (4, (.msl 1 lo16 s24o s24n)), (5, (eI k25))]) ⟨[(0, (.msl 1 lo16 0 (List.length s0))), (3, (eI k3)), (4, (.msl 1 lo16 s24o s24n)), (5, (eI k25))], by kernel_rfl, rfl, ⟨aR.eq (by simp []), aR.refl _, aR.refl _, aR.refl _, trivial⟩⟩ ?_
     refine aF (aG (?_))
     refine aS aC 3 ?_
     refine bA ?_
     exact aF (aV (aG (⟨rfl, _, _, _, .eq (by kernel_rfl), hO, h2⟩)))
    refine bN ?_
    exact aF (aV (aG (⟨rfl, _, _, _, .eq (by kernel_rfl), hO, h2⟩)))
   refine gJ 2 ?_
   obtain rfl := oI h2
   obtain rfl : _ = rr1 := ho1
   replace h1 : lC s0 k3 = some out1 := h1
   exact aF (aY (aY (bV (aG (⟨rfl, _, _, _, .eq (by kernel_rfl), hO, h1⟩)))))
  refine bN ?_
  exact aF (aV (aG (⟨rfl, _, _, _, .eq (by kernel_rfl), hO, h1⟩)))
 refine gJ 0 ?_
 obtain rfl := oI h1
 obtain rfl : _ = rr0 := ho0
 replace h0 : lK s0 = some r := h0
 exact aF (aY (aY (bV (aG (⟨rfl, _, _, .eq (by kernel_rfl), hO, h0⟩)))))

theorem EW (l0 : (List aE)) (r : (List Int)) (h0 : pR l0 = some r) : cZ Try.prog 33 [(eL aH l0)] (eL (eI) r) := by
 intro H0
 refine zN aC Try.func33 (by kernel_rfl) (by kernel_rfl) (by kernel_rfl) ?_
 have hO := aM.start H0
 unfold pR at h0
 refine aX aC 1 [] [] ?_
 refine aO ?_
 refine aS aC 3 ?_
 refine oE (xs := []) (k := 1) (by kernel_rfl) (by kernel_rfl) ?_
 refine oO 1 (.sl true 0 (fun _ => .bad)) (eL (eI) ([])) (by kernel_rfl) (by kernel_rfl) (by kernel_rfl) (eN) (by kernel_rfl) (by kernel_rfl) hO ?_
 intro lo1 H hO
 refine ZA 5 1 (fun _ => .bad) (by kernel_rfl) hO (by kernel_rfl) ?_
 intro lo2 H hO
 refine gY 0 lo1 1 0 (eL (eI) ([])) (.msl 1 lo2 0 (List.length ([] : List Int))) [(eL (eI) ([]))] [(lo1, 1, [(.msl 1 lo2 0 (List.length ([] : List Int)))]), (lo2, 1, List.map (eI) ([] : List Int))] hO rfl (by kernel_rfl) ?_
 intro H hO
 refine dG ?_
 refine bP [] [(3, (.lp lo1 0 0))] ?_
 refine aO ?_
 refine aO ?_
 refine aS aC 2 ?_
 refine bI 1 ?_
 obtain ⟨x3, hx4, h0⟩ := aW h0
 refine cX (HF l0 _ hx4) hO ?_
 intro H hO
 refine dG ?_
 refine bP [0] [(7, (.fn (.func 70) [] [(.rp (eL aH x3))]))] ?_
 refine bX 0 ?_
 refine eD [(3, (.lp lo1 0 0)), (7, (.fn (.func 70) [] [(.rp (eL aH x3))]))] ?_
 refine eE (fun T H => ∃ out3 : List Int, ∃ t7c0 : (List aE), ∃ lo5 : Nat, Has T [(3, (.lp lo1 0 0)), (7, (.fn (.func 70) [] [(.rp (eL aH t7c0))]))] ∧ aM ⟨H0, [], []⟩ H [(lo1, 1, [(.msl 1 lo5 0 (List.length out3))]), (lo5, 1, List.map (eI) out3)] ∧ tS out3 t7c0 = some r) ?_ ⟨([] : List Int), x3, lo2, .eq (by kernel_rfl), hO, h0⟩
 clear hO h0
 rintro T H ⟨out3, t7c0, lo5, hT, hO, h0⟩
 refine bF (l := [(3, (.lp lo1 0 0)), (7, (.fn (.func 70) [] [(.rp (eL aH t7c0))]))]) hT ?_
 clear hT
 unfold tS at h0
 obtain ⟨o0, hl0, h0⟩ := aW h0
 refine wO (fid := 70) (ys := []) (cs := [(.rp (eL aH t7c0))]) #[8] (fun (A : rT) (b lL : Nat) (st : (List Int) ⊕ (List Int)) (G' : Gs) => Sum.elim (fun (s : List Int) => ∃ lo5 : Nat, G' = (lL, .raw (gQ b A .ready none)) :: (up [(lo1, 1, [(.msl 1 lo5 0 (List.length s))]), (lo5, 1, List.map (eI) s)] ++ [])) (fun (s : List Int) => False) st) (.inl out3) o0 (.tup []) (by kernel_rfl) (by kernel_rfl) (by kernel_rfl) hO (fun _ _ => ⟨lo5, rfl⟩) ?_ ?_
 ·intro b lL
  clear hO h0
  refine CB _ b (fun st t8 => rnd (fun (s : List Int) => qU t7c0 s t8) st) ?_ t7c0 _ _ hl0
  intro st t8 out1 rr hr
  obtain ⟨s, rfl, h1, rfl⟩ := ID hr
  clear hr
  intro Hr Gr hi hg
  obtain ⟨out3, rfl⟩ : ∃ x, x = s := ⟨_, rfl⟩
  dsimp only [Sum.elim_inl] at hi
  obtain ⟨lo5, rfl⟩ := hi
  replace h1 : qU t7c0 out3 t8 = some out1 := h1
  unfold qU at h1
  obtain ⟨E1, hE, hO⟩ := pE hg
  refine pF (uF (hO.gm 0 _ rfl).2 (by kernel_rfl) (by kernel_rfl) ?_)
  refine eD [(3, (.lp lo1 0 0)), (7, (.fn (.func 70) [] [(.rp (eL aH t7c0))])), (8, (aH t8))] ?_
  refine aS aC 2 ?_
  refine oO 3 (.agg [(.sl true 0 (fun _ => .bad)), (eI 0), (eI 0)]) (aH (aE.mk ([]) 0 0)) (by kernel_rfl) (by kernel_rfl) (by kernel_rfl) (yF (xs := [(.sl true 0 (fun _ => .bad)), (eI 0), (eI 0)]) (ys := [(eL aJ ([])), (eI 0), (eI 0)]) ⟨eN, aR.refl _, aR.refl _, trivial⟩) (by kernel_rfl) (by kernel_rfl) hO ?_
  intro lo6 H hO
  refine gY 2 lo6 3 0 (aH (aE.mk ([]) 0 0)) (aH t8) [(aH (aE.mk ([]) 0 0))] [(lo1, 1, [(.msl 1 lo5 0 (List.length out3))]), (lo5, 1, List.map (eI) out3), (lo6, 3, [(aH t8)])] hO rfl (by kernel_rfl) ?_
  intro H hO
  refine dG ?_
  refine dP [(3, (.lp lo1 0 0)), (4, (.lp lo6 0 0))] ?_
  refine aF (⟨rfl, rfl, (hO.gm 0 _ rfl).2, ?_⟩)
  intro o1 ho1
  replace hO := hO.nI o1
  refine bX 1 ?_
  refine aS aC 6 ?_
  refine jJ 0 lo1 1 0 (.msl 1 lo5 0 (List.length out3)) (.msl 1 lo5 0 (List.length out3)) [(.msl 1 lo5 0 (List.length out3))] hO rfl ?_
  refine bI 2 ?_
  refine jJ 2 lo6 3 0 (aH t8) (eI t8.At) [(aH t8)] hO rfl ?_
  refine oE (xs := [(eI t8.At)]) (k := 1) (by kernel_rfl) (by kernel_rfl) ?_
  obtain ⟨c8, h1⟩ := aZ h1
  refine vF (e := (eI)) out3 ([t8.At]) 1 lo5 1 8 (fM [(eI t8.At)]) (fun lo7 => [(lo1, 1, [(.msl 1 lo5 0 (List.length out3))]), (lo7, 1, List.map (eI) (out3 ++ ([t8.At]))), (lo6, 3, [(aH t8)])]) (by kernel_rfl) (by kernel_rfl) hO (by kernel_rfl) (by kernel_rfl) c8 (fun _ => by kernel_rfl) ?_
  intro lo7 H hO
  refine gY 0 lo1 1 0 (.msl 1 lo5 0 (List.length out3)) (.msl 1 lo7 0 (List.length (out3 ++ ([t8.At])))) [(.msl 1 lo5 0 (List.length out3))] [(lo1, 1, [(.msl 1 lo7 0 (List.length (out3 ++ ([t8.At]))))]), (lo7, 1, List.map (eI) (out3 ++ ([t8.At]))), (lo6, 3, [(aH t8)])] hO rfl (by kernel_rfl) ?_
  intro H hO
  refine dG ?_
  refine dP [(3, (.lp lo1 0 0))] ?_
  replace hO := hO.pick (L' := [(lo1, 1, [(.msl 1 lo7 0 (List.length (out3 ++ ([t8.At]))))]), (lo7, 1, List.map (eI) (out3 ++ ([t8.At])))]) [0, 1] (by decide) (by kernel_rfl)
  obtain rfl := oI h1
  exact aF (aV (⟨(dA hO hE ho1 .dead).1, rfl, _, ⟨lo7, rfl⟩, (dA hO hE ho1 _).2⟩))
 ·intro b lD9 lL H' G' hi hO
  rcases o0 with s | s
  ·dsimp only [Sum.elim_inl] at hi
   obtain ⟨lo5, rfl⟩ := hi
   replace h0 : ((gS s).bind fun x10 => (kF x10).bind fun x13 => some x13) = some r := h0
   obtain ⟨hlL, hO⟩ := mB hO
   refine ⟨_, _, hlL, (by intro e; cases e), ?_⟩
   refine dP [(3, (.lp lo1 0 0))] ?_
   refine aF (aV (aG (?_)))
   refine aO ?_
   refine aS aC 2 ?_
   refine jJ 0 lo1 1 0 (.msl 1 lo5 0 (List.length s)) (.msl 1 lo5 0 (List.length s)) [(.msl 1 lo5 0 (List.length s))] hO rfl ?_
   obtain ⟨x10, hx11, h0⟩ := aW h0
   refine zF [(lo1, 1, [(.msl 1 lo5 0 (List.length s))]), (lo5, 1, List.map (eI) x10)] 1 (sU lo5 s _ hx11) hO ?_
   intro H hO hl12
   simp only [List.length_map] at hl12
   refine dG ?_
   refine dP [(3, (.lp lo1 0 0))] ?_
   replace hO : aM ⟨H0, [], (lD9, .raw pJ) :: []⟩ H [(lo1, 1, [(.msl 1 lo5 0 (List.length x10))]), (lo5, 1, List.map (eI) x10)] := by simpa only [List.length_set, hl12] using hO
   refine aF (aG (?_))
   refine aO ?_
   refine aS aC 3 ?_
   refine jJ 0 lo1 1 0 (.msl 1 lo5 0 (List.length x10)) (.msl 1 lo5 0 (List.length x10)) [(.msl 1 lo5 0 (List.length x10))] hO rfl ?_
   obtain ⟨x13, hx14, h0⟩ := aW h0
   refine aAu (L' := fun lo15 => [(lo1, 1, [(.msl 1 lo5 0 (List.length x10))]), (lo15, 1, List.map (eI) x13)]) 1 lo5 1 (List.map (eI) x10) (List.map (eI) x13) 53 [(.msl 1 lo5 0 (List.length x10))] (fun lo15 => (.msl 1 lo15 0 (List.length x13))) (by kernel_rfl) (by kernel_rfl) (DL lo5 x10 _ hx14) hO (by kernel_rfl) (fun _ => by kernel_rfl) ?_
   intro lo15 H hO
   refine bA ?_
   refine dP [(2, (.msl 1 lo15 0 (List.length x13)))] ?_
   replace hO := hO.pick (L' := [(lo15, 1, List.map (eI) x13)]) [1] (by decide) (by kernel_rfl)
   refine aF (aG (?_))
   refine bG ?_
   refine dP [(2, (.msl 1 lo15 0 (List.length x13)))] ?_
   refine tM (en := (eI)) x13 0 0 2 1 lo15 (List.length x13) hO (by kernel_rfl) (by kernel_rfl) (by kernel_rfl) (L' := []) (by kernel_rfl) ?_
   intro H16 hO
   obtain rfl := oI h0
   have hD := (hO.gm 0 _ rfl).2
   replace hO := (hO.nI .dead).nM
   exact aF (QM1 (.inr rfl) hD (rs := [.tmp 2]) (xs := [(eL (eI) x13)]) (x := (eL (eI) x13)) (by kernel_rfl) (EN (x := (eL (eI) x13)) (by kernel_rfl) mY) (by kernel_rfl) ⟨rfl, hO.out⟩)
  ·exact hi.elim

theorem CG (x0 : Int) (r : Bool) (h0 : pH x0 = some r) : cZ Try.prog 55 [(eI x0)] (aD r) := by
 intro H0
 refine cY Try.func55 ?_
 have hO := aM.start H0
 unfold pH at h0
 refine aX aC 1 [] [] ?_
 refine bW aC 4 [(2, (aD (!decide (x0 = x0))))] ?_
 refine bG ?_
 obtain rfl := oI h0
 exact aF (Q_r hO)

theorem sL (x0 : (List Int)) (gF : Int) (r : (Int × Bool)) (h0 : fL x0 gF = some r) : cZ Try.prog 34 [(eL (eI) x0), (eI gF)] (.tup [(eI r.1), (aD r.2)]) := by
 intro H0
 refine cY Try.func34 ?_
 have hO := aM.start H0
 unfold fL at h0
 refine aX aC 2 [] [] ?_
 refine aX aC 3 [] [(6, (eI (lN x0)))] ?_
 refine aX aC 3 [] [(7, (eI (0 : Int))), (8, (eI (lN x0)))] ?_
 refine eR (fun T H => ∃ n6 : Int, ∃ i7 : Int, Has T [(0, (eL (eI) x0)), (1, (eI gF)), (6, (eI n6)), (7, (eI i7))] ∧ aM ⟨H0, [], []⟩ H [] ∧ jH x0 gF n6 i7 = some r) ?_ ?_
 ·clear hO h0
  rintro T H ⟨n6, i7, hT, hO, h0⟩
  refine bF hT ?_
  clear hT
  unfold jH at h0
  refine aO ?_
  refine aS aC 25 ?_
  obtain ⟨c1, h0⟩ := aZ h0
  obtain ⟨c2, h0⟩ := aZ h0
  refine sG 16 [(((decide (i7 < n6))) = true → 0 ≤ i7 ∧ i7 < (lN x0)), (((!(decide ((gD x0 i7) = gF))) && (decide (i7 < n6))) = true → 0 ≤ i7 ∧ i7 < (lN x0))] ⟨c1, c2, trivial⟩ ?_
  obtain ⟨x3, hx4, h0⟩ := aW h0
  refine nB [(42, false), (35, true)] 55 [(eI (gD x0 i7))] (aD x3) ((!(decide ((gD x0 i7) = gF))) && (decide (i7 < n6))) (by kernel_rfl) (by kernel_rfl) (by kernel_rfl) (fun hb5 => (CG (gD x0 i7) _ (jG hx4 hb5))) hO ?_
  intro H hO
  refine bI 19 ?_
  obtain ⟨x6, hx7, h0⟩ := aW h0
  refine nB [(48, true), (42, false), (35, true)] 55 [(eI gF)] (aD x6) (x3 && ((!(decide ((gD x0 i7) = gF))) && (decide (i7 < n6)))) (by kernel_rfl) (by kernel_rfl) (by kernel_rfl) (fun hb8 => (CG gF _ (jG hx7 hb8))) hO ?_
  intro H hO
  refine bA ?_
  refine bD [(4, (eI i7)), (5, (aD ((decide (i7 < n6)) && ((decide ((gD x0 i7) = gF)) || (x3 && x6)))))] ?_
  refine bG ?_
  obtain rfl := oI h0
  exact aF (Q_r hO)
 refine bX 0 ?_
 refine eD [(0, (eL (eI) x0)), (1, (eI gF)), (6, (eI (lN x0))), (7, (eI (0 : Int))), (8, (eI (lN x0)))] ?_
 refine eE (fun T H => ∃ n6 : Int, ∃ i7 : Int, ∃ j8 : Int, Has T [(0, (eL (eI) x0)), (1, (eI gF)), (6, (eI n6)), (7, (eI i7)), (8, (eI j8))] ∧ aM ⟨H0, [], []⟩ H [] ∧ lH x0 gF n6 i7 j8 = some r) ?_ ⟨(lN x0), (0 : Int), (lN x0), .eq (by kernel_rfl), hO, h0⟩
 clear hO h0
 rintro T H ⟨n6, i7, j8, hT, hO, h0⟩
 refine bF hT ?_
 clear hT
 unfold lH at h0
 obtain ⟨rr0, hl0, h0⟩ := aW h0
 refine dK (by kernel_rfl) (fun (s : Int × Int) T H => Has T [(0, (eL (eI) x0)), (1, (eI gF)), (6, (eI n6)), (7, (eI s.1)), (8, (eI s.2))] ∧ aM ⟨H0, [], []⟩ H []) hl0 ⟨.eq (by kernel_rfl), hO⟩ ?_
 clear hO
 rintro k0 s out1 T H ⟨hT, hO⟩ h1 ho0
 obtain ⟨i7, j8⟩ := s
 replace h1 : fB x0 gF n6 i7 j8 = some out1 := h1
 try dsimp only at hT
 refine bF hT ?_
 clear hT
 unfold fB at h1
 refine aO ?_
 refine aX aC 3 [] [(15, (aD (decide (i7 < j8))))] ?_
 refine bK h1 (fun h1 => ?_) (fun h1 => ?_)
 ·refine bN ?_
  refine bD [(0, (eL (eI) x0)), (1, (eI gF)), (6, (eI n6)), (7, (eI i7)), (8, (eI j8))] ?_
  refine bX 1 ?_
  refine aO ?_
  refine aS aC 7 ?_
  obtain ⟨c10, h1⟩ := aZ h1
  refine pZ [0 ≤ (1 : Int)] ⟨c10, trivial⟩ ?_
  refine bP [] [(9, (eI (wR (Int.fdiv (IntKind.u64.wrap (wR (i7 + j8))) (2 ^ (min (Int.toNat (1 : Int)) 64))))))] ?_
  refine aO ?_
  refine aS aC 6 ?_
  obtain ⟨c11, h1⟩ := aZ h1
  refine sG 5 [0 ≤ (wR (Int.fdiv (IntKind.u64.wrap (wR (i7 + j8))) (2 ^ (min (Int.toNat (1 : Int)) 64)))) ∧ (wR (Int.fdiv (IntKind.u64.wrap (wR (i7 + j8))) (2 ^ (min (Int.toNat (1 : Int)) 64)))) < (lN x0)] ⟨c11, trivial⟩ ?_
  obtain ⟨x12, hx13, h1⟩ := aW h1
  refine cX (fX (gD x0 (wR (Int.fdiv (IntKind.u64.wrap (wR (i7 + j8))) (2 ^ (min (Int.toNat (1 : Int)) 64))))) gF _ hx13) hO ?_
  intro H hO
  refine dG ?_
  refine bP [] [(27, (aD x12))] ?_
  refine bK h1 (fun h1 => ?_) (fun h1 => ?_)
  ·refine aS aC 3 ?_
   refine bA ?_
   exact aF (aV (aG (⟨rfl, _, (oI h1).symm, .eq (by kernel_rfl), hO⟩)))
  refine aS aC 2 ?_
  refine bA ?_
  exact aF (aV (aG (⟨rfl, _, (oI h1).symm, .eq (by kernel_rfl), hO⟩)))
 refine gJ 0 ?_
 obtain rfl := oI h1
 obtain rfl : _ = rr0 := ho0
 replace h0 : jH x0 gF n6 i7 = some r := h0
 exact aF (aY (aY (bV (aG (⟨rfl, _, _, .eq (by kernel_rfl), hO, h0⟩)))))

theorem UR (l0 : (List aE)) (n1 : Int) (t2 : Int) (r : (Int × Int)) (h0 : uI l0 n1 t2 = some r) : cZ Try.prog 14 [(eL aH l0), (eI n1), (eI t2)] (.tup [(eI r.1), (eI r.2)]) := by
 intro H0
 refine cY Try.func14 ?_
 have hO := aM.start H0
 unfold uI at h0
 refine aX aC 2 [] [] ?_
 refine aO ?_
 refine aO ?_
 refine aS aC 4 ?_
 refine bI 2 ?_
 obtain ⟨x1, hx2, h0⟩ := aW h0
 refine cX (KG l0 n1 _ hx2) hO ?_
 intro H hO
 refine bA ?_
 refine bP [] [(8, (eI x1))] ?_
 refine aX aC 2 [] [(17, (aD (!decide (x1 = (0 : Int)))))] ?_
 refine bK h0 (fun h0 => ?_) (fun h0 => ?_)
 ·refine bW aC 3 [(6, (eI (0 : Int))), (7, (eI x1))] ?_
  refine bG ?_
  obtain rfl := oI h0
  exact aF (aT (Q_r hO))
 refine bN ?_
 refine bD [(0, (eL aH l0)), (1, (eI n1)), (2, (eI t2))] ?_
 refine aO ?_
 refine bX 0 ?_
 refine aX aC 7 [] [(19, (aD ((decide (t2 < (0 : Int))) || (decide ((1125899906842624 : Int) < t2)))))] ?_
 refine bK h0 (fun h0 => ?_) (fun h0 => ?_)
 ·refine bW aC 2 [(6, (eI (0 : Int))), (7, (eI (13 : Int)))] ?_
  refine bG ?_
  obtain rfl := oI h0
  exact aF (bC (aT (Q_r hO)))
 refine aX aC 3 [19] [(26, (aD (decide (t2 = (1125899906842624 : Int)))))] ?_
 refine bK h0 (fun h0 => ?_) (fun h0 => ?_)
 ·refine bW aC 3 [(6, (eI t2)), (7, (eI (0 : Int)))] ?_
  refine bG ?_
  obtain rfl := oI h0
  exact aF (bC (aT (Q_r hO)))
 refine bN ?_
 refine dP [(0, (eL aH l0)), (1, (eI n1)), (2, (eI t2))] ?_
 refine aF (aV (aG (?_)))
 refine aO ?_
 refine aS aC 3 ?_
 refine bI 1 ?_
 obtain ⟨x7, hx8, h0⟩ := aW h0
 refine cX (EW l0 _ hx8) hO ?_
 intro H hO
 refine bA ?_
 refine bP [0] [(9, (eL (eI) x7))] ?_
 refine aO ?_
 refine aS aC 8 ?_
 refine bI 2 ?_
 obtain ⟨x10, hx11, h0⟩ := aW h0
 refine cX (sL x7 t2 _ hx11) hO ?_
 intro H hO
 refine bA ?_
 refine bP [] [(10, (eI x10.1))] ?_
 refine aX aC 6 [1] [(12, (eI (if (wR ((wR (x10.1 - n1)) + (1 : Int))) > (0 : Int) then (wR ((wR (x10.1 - n1)) + (1 : Int))) else (0 : Int))))] ?_
 refine aO ?_
 refine aX aC 3 [10] [(45, (aD (decide ((if (wR ((wR (x10.1 - n1)) + (1 : Int))) > (0 : Int) then (wR ((wR (x10.1 - n1)) + (1 : Int))) else (0 : Int)) = x10.1))))] ?_
 refine bK h0 (fun h0 => ?_) (fun h0 => ?_)
 ·refine bW aC 3 [(6, (eI t2)), (7, (eI (0 : Int)))] ?_
  refine bG ?_
  obtain rfl := oI h0
  exact aF (aT (Q_r hO))
 refine bN ?_
 refine bD [(9, (eL (eI) x7)), (12, (eI (if (wR ((wR (x10.1 - n1)) + (1 : Int))) > (0 : Int) then (wR ((wR (x10.1 - n1)) + (1 : Int))) else (0 : Int))))] ?_
 refine aO ?_
 refine aS aC 6 ?_
 obtain ⟨c14, h0⟩ := aZ h0
 refine pZ [0 ≤ (if (wR ((wR (x10.1 - n1)) + (1 : Int))) > (0 : Int) then (wR ((wR (x10.1 - n1)) + (1 : Int))) else (0 : Int)) ∧ (if (wR ((wR (x10.1 - n1)) + (1 : Int))) > (0 : Int) then (wR ((wR (x10.1 - n1)) + (1 : Int))) else (0 : Int)) < (lN x7)] ⟨c14, trivial⟩ ?_
 refine bD [(6, (eI (gD x7 (if (wR ((wR (x10.1 - n1)) + (1 : Int))) > (0 : Int) then (wR ((wR (x10.1 - n1)) + (1 : Int))) else (0 : Int))))), (7, (eI (0 : Int)))] ?_
 refine bG ?_
 obtain rfl := oI h0
 exact aF (Q_r hO)

theorem BG (w0 : bY) (l1 : (List aE)) (t2 : Int) (r : (Int × Int)) (h0 : oR w0 l1 t2 = some r) : cZ Try.prog 5 [(cP w0), (eL aH l1), (eI t2)] (.tup [(eI r.1), (eI r.2)]) := by
 intro H0
 refine cY Try.func5 ?_
 have hO := aM.start H0
 unfold oR at h0
 refine aO ?_
 refine aS aC 3 ?_
 refine fT 3 (cP w0) (by kernel_rfl) (by kernel_rfl) ?_
 refine bA ?_
 refine bP [0] [(3, (.rp (cP w0)))] ?_
 refine aO ?_
 refine aO ?_
 refine aS aC 5 ?_
 refine bI 3 ?_
 obtain ⟨x1, hx2, h0⟩ := aW h0
 refine cX (GV w0 l1 t2 _ hx2) hO ?_
 intro H hO
 refine bA ?_
 refine bP [] [(8, (eI x1))] ?_
 refine aX aC 2 [] [(16, (aD (!decide (x1 = (0 : Int)))))] ?_
 refine bK h0 (fun h0 => ?_) (fun h0 => ?_)
 ·refine bW aC 3 [(6, (eI (0 : Int))), (7, (eI x1))] ?_
  refine bG ?_
  obtain rfl := oI h0
  exact aF (aT (Q_r hO))
 refine bN ?_
 refine bD [(1, (eL aH l1)), (2, (eI t2)), (3, (.rp (cP w0)))] ?_
 refine aO ?_
 refine aX aC 2 [] [(19, (eI w0.Kind))] ?_
 refine bX 0 ?_
 refine aX aC 2 [] [(20, (aD (decide (w0.Kind = (2 : Int)))))] ?_
 refine bK h0 (fun h0 => ?_) (fun h0 => ?_)
 ·refine aO ?_
  refine aS aC 11 ?_
  refine bI 5 ?_
  obtain ⟨x6, hx7, h0⟩ := aW h0
  refine cX (aBP w0.Size w0.Hop t2 _ hx7) hO ?_
  intro H hO
  refine bA ?_
  refine bD [(2, (eI t2)), (9, (eI x6.1)), (10, (eI x6.2))] ?_
  refine bW aC 6 [(6, (eI (if t2 < x6.1 then t2 else x6.1))), (7, (eI x6.2))] ?_
  refine bG ?_
  obtain rfl := oI h0
  exact aF (bC (aT (Q_r hO)))
 refine aX aC 2 [19, 20] [(35, (aD (decide (w0.Kind = (3 : Int)))))] ?_
 refine bK h0 (fun h0 => ?_) (fun h0 => ?_)
 ·refine aO ?_
  refine aS aC 9 ?_
  refine bI 4 ?_
  obtain ⟨x10, hx11, h0⟩ := aW h0
  refine cX (UR l1 w0.Size t2 _ hx11) hO ?_
  intro H hO
  refine bA ?_
  refine bD [(6, (eI x10.1)), (7, (eI x10.2))] ?_
  refine bG ?_
  obtain rfl := oI h0
  exact aF (bC (aT (Q_r hO)))
 refine bN ?_
 refine dP [(2, (eI t2))] ?_
 refine aF (aV (aG (?_)))
 refine bW aC 3 [(6, (eI t2)), (7, (eI (0 : Int)))] ?_
 refine bG ?_
 obtain rfl := oI h0
 exact aF (Q_r hO)

theorem aBD (lo0p : Nat) (l0 : (List aE)) (r1 : (List aI)) (f2 : (List aB)) (r : (List aE)) (h0 : zZ l0 r1 f2 = some r) : aBG Try.prog 57 lo0p 3 (List.map aH l0) [(.msl 3 lo0p 0 (List.length l0)), (eL aJ r1), (eL aK f2)] (fun lo => .msl 3 lo 0 (List.length r)) (List.map aH r) := by
 intro H0 hl0
 refine cY Try.func57 ?_
 have hO := aM.tH hl0
 clear hl0
 unfold zZ at h0
 refine aX aC 1 [] [] ?_
 refine eR (fun T H => ∃ l0 : List aE, ∃ lo1 : Nat, Has T [(0, (.msl 3 lo1 0 (List.length l0)))] ∧ aM ⟨H0, [lo0p], []⟩ H [(lo1, 3, List.map aH l0)] ∧ BV l0 = some r) ?_ ?_
 ·clear hO h0
  rintro T H ⟨l0, lo1, hT, hO, h0⟩
  refine bF hT ?_
  clear hT
  unfold BV at h0
  refine bW aC 2 [(6, (.msl 3 lo1 0 (List.length l0)))] ?_
  refine bG ?_
  obtain rfl := oI h0
  exact aF (kA (x := (.msl 3 lo1 0 (List.length l0))) (by kernel_rfl) (aR.refl _) ⟨lo1, rfl, hO⟩)
 refine aX aC 3 [2] [(9, (eL aK f2)), (10, (eI (lN f2))), (11, (eI (0 : Int)))] ?_
 refine bX 0 ?_
 refine eD [(0, (.msl 3 lo0p 0 (List.length l0))), (1, (eL aJ r1)), (9, (eL aK f2)), (10, (eI (lN f2))), (11, (eI (0 : Int)))] ?_
 refine eE (fun T H => ∃ l0 : List aE, ∃ t9 : (List aB), ∃ t10 : Int, ∃ t11 : Int, ∃ lo3 : Nat, Has T [(0, (.msl 3 lo3 0 (List.length l0))), (1, (eL aJ r1)), (9, (eL aK t9)), (10, (eI t10)), (11, (eI t11))] ∧ aM ⟨H0, [lo0p], []⟩ H [(lo3, 3, List.map aH l0)] ∧ BM l0 r1 t9 t10 t11 = some r) ?_ ⟨l0, f2, (lN f2), (0 : Int), lo0p, .eq (by kernel_rfl), hO, h0⟩
 clear hO h0
 rintro T H ⟨l0, t9, t10, t11, lo3, hT, hO, h0⟩
 refine bF hT ?_
 clear hT
 unfold BM at h0
 obtain ⟨rr0, hl0, h0⟩ := aW h0
 refine dK (by kernel_rfl) (fun (s : List aE × Int) T H => ∃ lo3 : Nat, Has T [(0, (.msl 3 lo3 0 (List.length s.1))), (1, (eL aJ r1)), (9, (eL aK t9)), (10, (eI t10)), (11, (eI s.2))] ∧ aM ⟨H0, [lo0p], []⟩ H [(lo3, 3, List.map aH s.1)]) hl0 ⟨lo3, .eq (by kernel_rfl), hO⟩ ?_
 clear hO
 rintro k0 s out1 T H ⟨lo3, hT, hO⟩ h1 ho0
 obtain ⟨l0, t11⟩ := s
 replace h1 : qK r1 t9 t10 l0 t11 = some out1 := h1
 try dsimp only at hT
 refine bF hT ?_
 clear hT
 unfold qK at h1
 refine aX aC 1 [] [(12, (aD (decide (t11 < t10))))] ?_
 refine aO ?_
 refine bK h1 (fun h1 => ?_) (fun h1 => ?_)
 ·refine bN ?_
  refine bD [(0, (.msl 3 lo3 0 (List.length l0))), (1, (eL aJ r1)), (9, (eL aK t9)), (10, (eI t10)), (11, (eI t11))] ?_
  refine aO ?_
  refine bX 1 ?_
  refine aO ?_
  refine aS aC 4 ?_
  obtain ⟨c5, h1⟩ := aZ h1
  refine sG 2 [0 ≤ t11 ∧ t11 < (lN t9)] ⟨c5, trivial⟩ ?_
  refine kY 2 (aK (aB.mk 0 0)) (by kernel_rfl) (by kernel_rfl) hO ?_
  intro lo6 H hO
  refine gY 1 lo6 2 0 (aK (aB.mk 0 0)) (aK (gD t9 t11)) [(aK (aB.mk 0 0))] [(lo3, 3, List.map aH l0), (lo6, 2, [(aK (gD t9 t11))])] hO rfl (by kernel_rfl) ?_
  intro H hO
  refine dG ?_
  refine bP [] [(8, (.lp lo6 0 0))] ?_
  refine eD [(0, (.msl 3 lo3 0 (List.length l0))), (1, (eL aJ r1)), (8, (.lp lo6 0 0)), (9, (eL aK t9)), (10, (eI t10)), (11, (eI t11))] ?_
  refine KV 2 1 8 2 lo6 (aK (gD t9 t11)) [(lo3, 3, List.map aH l0)] hO (by kernel_rfl) (by kernel_rfl) (by kernel_rfl) ?_
  intro H hO
  refine fS (fR [19, 21, 23]) aC 11 ?_
  refine kJ 2 ?_
  obtain ⟨x7, hx8, h1⟩ := aW h1
  refine AY (HL r1 _ hx8) hO ?_
  intro H hO
  refine kJ 8 ?_
  refine VE (xs := [(aH (aE.mk x7 ((gD t9 t11).At) ((gD t9 t11).Net)))]) (k := 3) (by kernel_rfl) (by kernel_rfl) ?_
  obtain ⟨c11, h1⟩ := aZ h1
  refine LL (e := aH) l0 ([aE.mk x7 ((gD t9 t11).At) ((gD t9 t11).Net)]) 0 lo3 3 40 (fM [(aH (aE.mk x7 ((gD t9 t11).At) ((gD t9 t11).Net)))]) (fun lo10 => [(lo10, 3, List.map aH (l0 ++ ([aE.mk x7 ((gD t9 t11).At) ((gD t9 t11).Net)])))]) (by kernel_rfl) (by kernel_rfl) hO (by kernel_rfl) (by kernel_rfl) c11 (fun _ => by kernel_rfl) ?_
  intro lo10 H hO
  refine kI ?_
  refine dP [(0, (.msl 3 lo10 0 (List.length (l0 ++ ([aE.mk x7 ((gD t9 t11).At) ((gD t9 t11).Net)]))))), (1, (eL aJ r1)), (9, (eL aK t9)), (10, (eI t10)), (11, (eI t11))] ?_
  refine aF (aV (aG (?_)))
  refine aS aC 2 ?_
  refine bA ?_
  exact aF (aG (⟨rfl, _, (oI h1).symm, _, .eq (by kernel_rfl), hO⟩))
 refine gJ 0 ?_
 obtain rfl := oI h1
 obtain rfl : _ = rr0 := ho0
 replace h0 : BV l0 = some r := h0
 exact aF (aY (aY (bV (aG (⟨rfl, _, _, .eq (by kernel_rfl), hO, h0⟩)))))

theorem UO (l0 : (List aE)) (by1_f : Nat) (by1_a by1_c : List V) (by1 : (List aB) → Option ((List aB) × Int)) (by1_h : ∀ a0 r, by1 a0 = some r → cZ Try.prog by1_f (by1_a ++ [(eL aK a0)] ++ by1_c) (.tup [(eL aK r.1), (eI r.2)])) (r : ((List aE) × Int)) (h0 : uS l0 by1 = some r) : cZ Try.prog 35 [(eL aH l0), (.fn (.func by1_f) by1_a by1_c)] (.tup [(eL aH r.1), (eI r.2)]) := by
 intro H0
 refine zN aC Try.func35 (by kernel_rfl) (by kernel_rfl) (by kernel_rfl) ?_
 have hO := aM.start H0
 unfold uS at h0
 refine aO ?_
 refine aS aC 3 ?_
 refine fT 1 (.fn (.func by1_f) by1_a by1_c) (by kernel_rfl) (by kernel_rfl) ?_
 refine oO 1 (.sl true 0 (fun _ => .bad)) (eL aH ([])) (by kernel_rfl) (by kernel_rfl) (by kernel_rfl) (eN) (by kernel_rfl) (by kernel_rfl) hO ?_
 intro lo1 H hO
 refine kY 1 (eI 0) (by kernel_rfl) (by kernel_rfl) hO ?_
 intro lo2 H hO
 refine dG ?_
 refine bP [1] [(3, (.rp (.fn (.func by1_f) by1_a by1_c))), (4, (.lp lo1 0 0)), (5, (.lp lo2 0 0))] ?_
 refine aO ?_
 refine aS aC 3 ?_
 refine oE (xs := []) (k := 3) (by kernel_rfl) (by kernel_rfl) ?_
 refine oO 1 (.sl true 0 (fun _ => .bad)) (eL aH ([])) (by kernel_rfl) (by kernel_rfl) (by kernel_rfl) (eN) (by kernel_rfl) (by kernel_rfl) hO ?_
 intro lo3 H hO
 refine ZA 11 3 (fun _ => .bad) (by kernel_rfl) hO (by kernel_rfl) ?_
 intro lo4 H hO
 refine gY 2 lo3 1 0 (eL aH ([])) (.msl 3 lo4 0 (List.length ([] : List aE))) [(eL aH ([]))] [(lo1, 1, [(eL aH ([]))]), (lo2, 1, [(eI 0)]), (lo3, 1, [(.msl 3 lo4 0 (List.length ([] : List aE)))]), (lo4, 3, List.map aH ([] : List aE))] hO rfl (by kernel_rfl) ?_
 intro H hO
 refine dG ?_
 refine bP [] [(6, (.lp lo3 0 0))] ?_
 refine aO ?_
 refine aO ?_
 refine aS aC 2 ?_
 refine bI 1 ?_
 obtain ⟨x5, hx6, h0⟩ := aW h0
 refine cX (FZ l0 _ hx6) hO ?_
 intro H hO
 refine dG ?_
 refine bP [0] [(13, (.fn (.func 72) [] [(.rp (eL aH x5))]))] ?_
 refine bX 0 ?_
 refine eD [(3, (.rp (.fn (.func by1_f) by1_a by1_c))), (4, (.lp lo1 0 0)), (5, (.lp lo2 0 0)), (6, (.lp lo3 0 0)), (13, (.fn (.func 72) [] [(.rp (eL aH x5))]))] ?_
 refine eE (fun T H => ∃ t4 : (List aE), ∃ t5 : Int, ∃ out6 : List aE, ∃ mG : (List aE), ∃ lo7 : Nat, Has T [(3, (.rp (.fn (.func by1_f) by1_a by1_c))), (4, (.lp lo1 0 0)), (5, (.lp lo2 0 0)), (6, (.lp lo3 0 0)), (13, (.fn (.func 72) [] [(.rp (eL aH mG))]))] ∧ aM ⟨H0, [], []⟩ H [(lo1, 1, [(eL aH t4)]), (lo2, 1, [(eI t5)]), (lo3, 1, [(.msl 3 lo7 0 (List.length out6))]), (lo7, 3, List.map aH out6)] ∧ xK by1 t4 t5 out6 mG = some r) ?_ ⟨[], 0, ([] : List aE), x5, lo4, .eq (by kernel_rfl), hO, h0⟩
 clear hO h0
 rintro T H ⟨t4, t5, out6, mG, lo7, hT, hO, h0⟩
 refine bF (l := [(3, (.rp (.fn (.func by1_f) by1_a by1_c))), (4, (.lp lo1 0 0)), (5, (.lp lo2 0 0)), (6, (.lp lo3 0 0)), (13, (.fn (.func 72) [] [(.rp (eL aH mG))]))]) hT ?_
 clear hT
 unfold xK at h0
 obtain ⟨o0, hl0, h0⟩ := aW h0
 refine wO (fid := 72) (ys := []) (cs := [(.rp (eL aH mG))]) #[14, 15] (fun (A : rT) (b lL : Nat) (st : ((List aE) × Int × List aE) ⊕ ((List aE) × Int × List aE)) (G' : Gs) => Sum.elim (fun (s : (List aE) × Int × List aE) => ∃ lo7 : Nat, G' = (lL, .raw (gQ b A .ready none)) :: (up [(lo1, 1, [(eL aH s.1)]), (lo2, 1, [(eI s.2.1)]), (lo3, 1, [(.msl 3 lo7 0 (List.length s.2.2))]), (lo7, 3, List.map aH s.2.2)] ++ [])) (fun (s : (List aE) × Int × List aE) => ∃ lo7 : Nat, G' = (lL, .raw (gQ b A .done (some .ret))) :: (up [(lo1, 1, [(eL aH s.1)]), (lo2, 1, [(eI s.2.1)]), (lo3, 1, [(.msl 3 lo7 0 (List.length s.2.2))]), (lo7, 3, List.map aH s.2.2)] ++ [])) st) (.inl (t4, t5, out6)) o0 (.tup []) (by kernel_rfl) (by kernel_rfl) (by kernel_rfl) hO (fun _ _ => ⟨lo7, rfl⟩) ?_ ?_
 ·intro b lL
  clear hO h0
  refine AR _ b (fun st t14 t15 => rnd (fun (s : (List aE) × Int × List aE) => oU by1 mG s.1 s.2.1 s.2.2 t14 t15) st) ?_ mG _ _ hl0
  intro st t14 t15 out1 rr hr
  obtain ⟨s, rfl, h1, rfl⟩ := ID hr
  clear hr
  intro Hr Gr hi hg
  obtain ⟨t4, t5, out6⟩ := s
  dsimp only [Sum.elim_inl] at hi
  obtain ⟨lo7, rfl⟩ := hi
  replace h1 : oU by1 mG t4 t5 out6 t14 t15 = some out1 := h1
  unfold oU at h1
  obtain ⟨E1, hE, hO⟩ := pE hg
  refine pF (uF (hO.gm 0 _ rfl).2 (by kernel_rfl) (by kernel_rfl) ?_)
  refine eD [(3, (.rp (.fn (.func by1_f) by1_a by1_c))), (4, (.lp lo1 0 0)), (5, (.lp lo2 0 0)), (6, (.lp lo3 0 0)), (13, (.fn (.func 72) [] [(.rp (eL aH mG))])), (14, (eL aJ t14)), (15, (eL aK t15))] ?_
  refine aX aC 1 [13, 14] [(7, (eL aJ t14))] ?_
  refine aS aC 1 ?_
  refine bA ?_
  refine dP [(3, (.rp (.fn (.func by1_f) by1_a by1_c))), (4, (.lp lo1 0 0)), (5, (.lp lo2 0 0)), (6, (.lp lo3 0 0)), (7, (eL aJ t14)), (8, (eL aK t15))] ?_
  refine aF (⟨rfl, rfl, (hO.gm 0 _ rfl).2, ?_⟩)
  intro o1 ho1
  replace hO := hO.nI o1
  refine bX 1 ?_
  refine aO ?_
  refine aS aC 8 ?_
  refine bI 2 ?_
  obtain ⟨x8, hx9, h1⟩ := aW h1
  refine cX (by1_h t15 _ hx9) hO ?_
  intro H hO
  refine bA ?_
  refine bP [3, 8] [(9, (eL aK x8.1)), (10, (eI x8.2))] ?_
  refine aO ?_
  refine aX aC 2 [] [(23, (aD (!decide (x8.2 = (0 : Int)))))] ?_
  refine bK h1 (fun h1 => ?_) (fun h1 => ?_)
  ·refine aO ?_
   refine aS aC 3 ?_
   refine bI 1 ?_
   refine gY 0 lo1 1 0 (eL aH t4) (.sl true 0 (fun _ => .bad)) [(eL aH t4)] [(lo1, 1, [(.sl true 0 (fun _ => .bad))]), (lo2, 1, [(eI t5)]), (lo3, 1, [(.msl 3 lo7 0 (List.length out6))]), (lo7, 3, List.map aH out6)] hO rfl (by kernel_rfl) ?_
   intro H hO
   refine gY 1 lo2 1 0 (eI t5) (eI x8.2) [(eI t5)] [(lo1, 1, [(.sl true 0 (fun _ => .bad))]), (lo2, 1, [(eI x8.2)]), (lo3, 1, [(.msl 3 lo7 0 (List.length out6))]), (lo7, 3, List.map aH out6)] hO rfl (by kernel_rfl) ?_
   intro H hO
   refine dG ?_
   refine BD 0 lo1 1 (.sl true 0 (fun _ => .bad)) (eL aH ([])) [(lo1, 1, [(eL aH ([]))]), (lo2, 1, [(eI x8.2)]), (lo3, 1, [(.msl 3 lo7 0 (List.length out6))]), (lo7, 3, List.map aH out6)] hO (by kernel_rfl) (by kernel_rfl) eN (by kernel_rfl) ?_
   intro H hO
   refine bD [(4, (.lp lo1 0 0)), (5, (.lp lo2 0 0)), (6, (.lp lo3 0 0))] ?_
   refine bG ?_
   refine dP [(4, (.lp lo1 0 0)), (5, (.lp lo2 0 0)), (6, (.lp lo3 0 0))] ?_
   obtain rfl := oI h1
   exact aF (aT (bC (⟨(dA hO hE ho1 .dead).1, rfl, _, ⟨lo7, rfl⟩, (dA hO hE ho1 _).2⟩)))
  refine bN ?_
  refine bD [(4, (.lp lo1 0 0)), (5, (.lp lo2 0 0)), (6, (.lp lo3 0 0)), (7, (eL aJ t14)), (9, (eL aK x8.1))] ?_
  refine aO ?_
  refine aS aC 5 ?_
  refine jJ 2 lo3 1 0 (.msl 3 lo7 0 (List.length out6)) (.msl 3 lo7 0 (List.length out6)) [(.msl 3 lo7 0 (List.length out6))] hO rfl ?_
  refine bI 3 ?_
  obtain ⟨x12, hx13, h1⟩ := aW h1
  refine aAu (L' := fun lo14 => [(lo1, 1, [(eL aH t4)]), (lo2, 1, [(eI t5)]), (lo3, 1, [(.msl 3 lo7 0 (List.length out6))]), (lo14, 3, List.map aH x12)]) 3 lo7 3 (List.map aH out6) (List.map aH x12) 57 [(.msl 3 lo7 0 (List.length out6)), (eL aJ t14), (eL aK x8.1)] (fun lo14 => (.msl 3 lo14 0 (List.length x12))) (by kernel_rfl) (by kernel_rfl) (aBD lo7 out6 t14 x8.1 _ hx13) hO (by kernel_rfl) (fun _ => by kernel_rfl) ?_
  intro lo14 H hO
  refine gY 2 lo3 1 0 (.msl 3 lo7 0 (List.length out6)) (.msl 3 lo14 0 (List.length x12)) [(.msl 3 lo7 0 (List.length out6))] [(lo1, 1, [(eL aH t4)]), (lo2, 1, [(eI t5)]), (lo3, 1, [(.msl 3 lo14 0 (List.length x12))]), (lo14, 3, List.map aH x12)] hO rfl (by kernel_rfl) ?_
  intro H hO
  refine dG ?_
  refine bP [7, 9] [] ?_
  refine aO ?_
  refine aS aC 3 ?_
  refine jJ 2 lo3 1 0 (.msl 3 lo14 0 (List.length x12)) (.msl 3 lo14 0 (List.length x12)) [(.msl 3 lo14 0 (List.length x12))] hO rfl ?_
  refine bA ?_
  refine bP [] [(31, (aD (decide ((4096 : Int) < (lN x12)))))] ?_
  refine bK h1 (fun h1 => ?_) (fun h1 => ?_)
  ·refine aO ?_
   refine aS aC 2 ?_
   refine gY 0 lo1 1 0 (eL aH t4) (.sl true 0 (fun _ => .bad)) [(eL aH t4)] [(lo1, 1, [(.sl true 0 (fun _ => .bad))]), (lo2, 1, [(eI t5)]), (lo3, 1, [(.msl 3 lo14 0 (List.length x12))]), (lo14, 3, List.map aH x12)] hO rfl (by kernel_rfl) ?_
   intro H hO
   refine gY 1 lo2 1 0 (eI t5) (eI (7 : Int)) [(eI t5)] [(lo1, 1, [(.sl true 0 (fun _ => .bad))]), (lo2, 1, [(eI (7 : Int))]), (lo3, 1, [(.msl 3 lo14 0 (List.length x12))]), (lo14, 3, List.map aH x12)] hO rfl (by kernel_rfl) ?_
   intro H hO
   refine dG ?_
   refine BD 0 lo1 1 (.sl true 0 (fun _ => .bad)) (eL aH ([])) [(lo1, 1, [(eL aH ([]))]), (lo2, 1, [(eI (7 : Int))]), (lo3, 1, [(.msl 3 lo14 0 (List.length x12))]), (lo14, 3, List.map aH x12)] hO (by kernel_rfl) (by kernel_rfl) eN (by kernel_rfl) ?_
   intro H hO
   refine bD [(4, (.lp lo1 0 0)), (5, (.lp lo2 0 0)), (6, (.lp lo3 0 0))] ?_
   refine bG ?_
   refine dP [(4, (.lp lo1 0 0)), (5, (.lp lo2 0 0)), (6, (.lp lo3 0 0))] ?_
   obtain rfl := oI h1
   exact aF (bC (⟨(dA hO hE ho1 .dead).1, rfl, _, ⟨lo14, rfl⟩, (dA hO hE ho1 _).2⟩))
  refine bN ?_
  refine dP [(4, (.lp lo1 0 0)), (5, (.lp lo2 0 0)), (6, (.lp lo3 0 0))] ?_
  obtain rfl := oI h1
  exact aF (aV (⟨(dA hO hE ho1 .dead).1, rfl, _, ⟨lo14, rfl⟩, (dA hO hE ho1 _).2⟩))
 ·intro b lD16 lL H' G' hi hO
  rcases o0 with s | s
  ·dsimp only [Sum.elim_inl] at hi
   obtain ⟨lo7, rfl⟩ := hi
   replace h0 : (some (s.2.2, (0 : Int))) = some r := h0
   obtain ⟨hlL, hO⟩ := mB hO
   refine ⟨_, _, hlL, (by intro e; cases e), ?_⟩
   refine dP [(4, (.lp lo1 0 0)), (5, (.lp lo2 0 0)), (6, (.lp lo3 0 0))] ?_
   refine aF (aV (aG (?_)))
   refine aO ?_
   refine OT (e := aH) s.2.2 2 3 1 3 lo3 lo7 (List.length s.2.2) [(lo1, 1, [(eL aH s.1)]), (lo2, 1, [(eI s.2.1)]), (lo3, 1, [(eL aH s.2.2)])] hO (by kernel_rfl) (by kernel_rfl) (by kernel_rfl) (.inr (by decide)) (by kernel_rfl) ?_
   intro H hO
   refine aS aC 3 ?_
   refine jJ 2 lo3 1 0 (eL aH s.2.2) (eL aH s.2.2) [(eL aH s.2.2)] hO rfl ?_
   refine gY 0 lo1 1 0 (eL aH s.1) (eL aH s.2.2) [(eL aH s.1)] [(lo1, 1, [(eL aH s.2.2)]), (lo2, 1, [(eI s.2.1)]), (lo3, 1, [(eL aH s.2.2)])] hO rfl (by kernel_rfl) ?_
   intro H hO
   refine gY 1 lo2 1 0 (eI s.2.1) (eI (0 : Int)) [(eI s.2.1)] [(lo1, 1, [(eL aH s.2.2)]), (lo2, 1, [(eI (0 : Int))]), (lo3, 1, [(eL aH s.2.2)])] hO rfl (by kernel_rfl) ?_
   intro H hO
   refine dG ?_
   replace hO := hO.pick (L' := [(lo1, 1, [(eL aH s.2.2)]), (lo2, 1, [(eI (0 : Int))])]) [0, 1] (by decide) (by kernel_rfl)
   refine bP [6] [] ?_
   refine bG ?_
   obtain rfl := oI h0
   have hD := (hO.gm 0 _ rfl).2
   replace hO := (hO.nI .dead).nM
   exact aF (QM1 (.inr rfl) hD (rs := [.cell 4 25, .cell 5 26]) (xs := [(eL aH s.2.2), (eI (0 : Int))]) (x := (.tup [(eL aH s.2.2), (eI (0 : Int))])) (by kernel_rfl) (lR (lo := lo1) (k := 1) (y := (eL aH s.2.2)) (x := (eL aH s.2.2)) 0 hO (by kernel_rfl) (by kernel_rfl) (by kernel_rfl) (by kernel_rfl) (lR (lo := lo2) (k := 1) (y := (eI (0 : Int))) (x := (eI (0 : Int))) 1 hO (by kernel_rfl) (by kernel_rfl) (by kernel_rfl) (by kernel_rfl) mY)) (by kernel_rfl) ⟨rfl, hO.out⟩)
  ·dsimp only [Sum.elim_inr] at hi
   obtain ⟨lo7, rfl⟩ := hi
   replace h0 : (some (s.1, s.2.1)) = some r := h0
   obtain ⟨hlL, hO⟩ := mB hO
   refine ⟨_, _, hlL, (by intro e; cases e), ?_⟩
   refine bG ?_
   replace hO := hO.pick (L' := [(lo1, 1, [(eL aH s.1)]), (lo2, 1, [(eI s.2.1)])]) [0, 1] (by decide) (by kernel_rfl)
   obtain rfl := oI h0
   have hD := (hO.gm 0 _ rfl).2
   replace hO := (hO.nI .dead).nM
   exact aF (bC (aT (QM1 (.inr rfl) hD (rs := [.cell 4 25, .cell 5 26]) (xs := [(eL aH s.1), (eI s.2.1)]) (x := (.tup [(eL aH s.1), (eI s.2.1)])) (by kernel_rfl) (lR (lo := lo1) (k := 1) (y := (eL aH s.1)) (x := (eL aH s.1)) 0 hO (by kernel_rfl) (by kernel_rfl) (by kernel_rfl) (by kernel_rfl) (lR (lo := lo2) (k := 1) (y := (eI s.2.1)) (x := (eI s.2.1)) 1 hO (by kernel_rfl) (by kernel_rfl) (by kernel_rfl) (by kernel_rfl) mY)) (by kernel_rfl) ⟨rfl, hO.out⟩)))

theorem aBt (l0 : (List aE)) (by1_f : Nat) (by1_a by1_c : List V) (by1 : (List aB) → Option ((List aB) × Int)) (by1_h : ∀ a0 r, by1 a0 = some r → cZ Try.prog by1_f (by1_a ++ [(eL aK a0)] ++ by1_c) (.tup [(eL aK r.1), (eI r.2)])) (r : ((List aE) × Int)) (h0 : AP l0 by1 = some r) : cZ Try.prog 15 [(eL aH l0), (.fn (.func by1_f) by1_a by1_c)] (.tup [(eL aH r.1), (eI r.2)]) := by
 intro H0
 refine cY Try.func15 ?_
 have hO := aM.start H0
 unfold AP at h0
 refine aX aC 2 [] [] ?_
 refine aO ?_
 refine aO ?_
 refine aS aC 3 ?_
 refine bI 1 ?_
 obtain ⟨x1, hx2, h0⟩ := aW h0
 refine cX (xE l0 _ hx2) hO ?_
 intro H hO
 refine bA ?_
 refine bP [] [(8, (aD (!x1)))] ?_
 refine bK h0 (fun h0 => ?_) (fun h0 => ?_)
 ·refine bW aC 2 [(4, (.sl true 0 (fun _ => .bad))), (5, (eI (2 : Int)))] ?_
  refine bG ?_
  refine dJ (l := [(4, (eL aH ([]))), (5, (eI (2 : Int)))]) ⟨[(4, (.sl true 0 (fun _ => .bad))), (5, (eI (2 : Int)))], by kernel_rfl, rfl, ⟨eN, aR.refl _, trivial⟩⟩ ?_
  obtain rfl := oI h0
  exact aF (aT (Q_r hO))
 refine bN ?_
 refine bD [(0, (eL aH l0)), (1, (.fn (.func by1_f) by1_a by1_c))] ?_
 refine aO ?_
 refine aS aC 7 ?_
 refine bI 2 ?_
 obtain ⟨x5, hx6, h0⟩ := aW h0
 refine cX (UO l0 by1_f by1_a by1_c by1 by1_h _ hx6) hO ?_
 intro H hO
 refine bA ?_
 refine bD [(4, (eL aH x5.1)), (5, (eI x5.2))] ?_
 refine bG ?_
 obtain rfl := oI h0
 exact aF (Q_r hO)

theorem zD (s0 : (List aB)) (r : (List aB)) (h0 : iR s0 = some r) : FK Try.prog 37 [(eL aK s0)] (fun lo => (.msl 2 lo 0 (List.length r))) 2 (List.map aK r) := by
 intro H0
 refine cY Try.func37 ?_
 have hO := aM.start H0
 unfold iR at h0
 refine aX aC 1 [] [] ?_
 refine aO ?_
 refine aO ?_
 refine aS aC 2 ?_
 refine bI 1 ?_
 refine aEP false (List.length s0) (fun i => aK (List.getD s0 i default)) (by kernel_rfl) (by kernel_rfl) ?_
 intro b1 hn2
 refine dG ?_
 refine bP [] [(4, (aD b1))] ?_
 refine mQ (b1) (fun hc3 => ?_) (fun hc3 => ?_)
 ·replace h0 : some ([] : List aB) = some r := by
   have hl := List.eq_nil_of_length_eq_zero (hn2 hc3)
   rw [hl] at h0
   exact (aZ h0).2
  refine bW aC 1 [(2, (.sl true 0 (fun _ => .bad)))] ?_
  refine bG ?_
  refine dP [(2, (.sl true 0 (fun _ => .bad)))] ?_
  refine XJ (el := (fun _ => .bad)) 0 2 2 hO (by kernel_rfl) ?_
  intro lo4 H5 hO
  obtain rfl := oI h0
  exact aF (aT (kA (x := (.msl 2 lo4 0 (List.length ([] : List aB)))) (by kernel_rfl) (aR.refl _) ⟨lo4, rfl, hO⟩))
 ·refine bN ?_
  refine bD [(0, (eL aK s0))] ?_
  refine aO ?_
  refine aS aC 4 ?_
  refine oE (xs := []) (k := 2) (by kernel_rfl) (by kernel_rfl) ?_
  refine bI 2 ?_
  obtain ⟨c7, h0⟩ := aZ h0
  refine RF (e := aK) s0 (fun _ => .bad) 2 16 (eL aK s0) (fun lo6 => [(lo6, 2, List.map aK s0)]) (by kernel_rfl) (by kernel_rfl) hO (RT (fun _ => by kernel_rfl)) c7 (fun _ => by kernel_rfl) ?_
  intro lo6 H hO
  refine bA ?_
  refine bD [(2, (.msl 2 lo6 0 (List.length s0)))] ?_
  refine bG ?_
  obtain rfl := oI h0
  exact aF (kA (x := (.msl 2 lo6 0 (List.length s0))) (by kernel_rfl) (aR.refl _) ⟨lo6, rfl, hO⟩)

theorem aAk (f0 : (List aB)) (r : ((List aB) × Int)) (h0 : uZ f0 = some r) : cZ Try.prog 38 [(eL aK f0)] (.tup [(eL aK r.1), (eI r.2)]) := by
 intro H0
 refine cY Try.func38 ?_
 have hO := aM.start H0
 unfold uZ at h0
 refine aX aC 2 [] [] ?_
 refine aO ?_
 refine aO ?_
 refine aS aC 3 ?_
 refine bI 1 ?_
 obtain ⟨x1, hx2, h0⟩ := aW h0
 refine cX (xG f0 _ hx2) hO ?_
 intro H hO
 refine bA ?_
 refine bP [] [(6, (aD (!x1)))] ?_
 refine bK h0 (fun h0 => ?_) (fun h0 => ?_)
 ·refine bW aC 2 [(2, (.sl true 0 (fun _ => .bad))), (3, (eI (7 : Int)))] ?_
  refine bG ?_
  refine dJ (l := [(2, (eL aK ([]))), (3, (eI (7 : Int)))]) ⟨[(2, (.sl true 0 (fun _ => .bad))), (3, (eI (7 : Int)))], by kernel_rfl, rfl, ⟨eN, aR.refl _, trivial⟩⟩ ?_
  obtain rfl := oI h0
  exact aF (aT (Q_r hO))
 refine bN ?_
 refine bD [(0, (eL aK f0))] ?_
 refine bW aC 3 [(2, (eL aK f0)), (3, (eI (0 : Int)))] ?_
 refine bG ?_
 obtain rfl := oI h0
 exact aF (Q_r hO)

theorem ZO (f0 : (List aB)) (t1 : Int) (r : ((List aB) × Int)) (h0 : yK f0 t1 = some r) : cZ Try.prog 17 [(eL aK f0), (eI t1)] (.tup [(eL aK r.1), (eI r.2)]) := by
 intro H0
 refine cY Try.func17 ?_
 have hO := aM.start H0
 unfold yK at h0
 refine aX aC 2 [] [] ?_
 refine aO ?_
 refine bX 0 ?_
 refine aO ?_
 refine aS aC 4 ?_
 refine bI 1 ?_
 obtain ⟨x1, hx2, h0⟩ := aW h0
 refine cX (xG f0 _ hx2) hO ?_
 intro H hO
 refine bA ?_
 refine bP [] [(9, (aD (!x1)))] ?_
 refine bK h0 (fun h0 => ?_) (fun h0 => ?_)
 ·refine bW aC 2 [(4, (.sl true 0 (fun _ => .bad))), (5, (eI (2 : Int)))] ?_
  refine bG ?_
  refine dJ (l := [(4, (eL aK ([]))), (5, (eI (2 : Int)))]) ⟨[(4, (.sl true 0 (fun _ => .bad))), (5, (eI (2 : Int)))], by kernel_rfl, rfl, ⟨eN, aR.refl _, trivial⟩⟩ ?_
  obtain rfl := oI h0
  exact aF (bC (aT (Q_r hO)))
 refine aX aC 3 [9] [(13, (aD (decide ((1125899906842624 : Int) ≤ t1))))] ?_
 refine bK h0 (fun h0 => ?_) (fun h0 => ?_)
 ·refine bW aC 2 [(4, (.sl true 0 (fun _ => .bad))), (5, (eI (0 : Int)))] ?_
  refine bG ?_
  refine dJ (l := [(4, (eL aK ([]))), (5, (eI (0 : Int)))]) ⟨[(4, (.sl true 0 (fun _ => .bad))), (5, (eI (0 : Int)))], by kernel_rfl, rfl, ⟨eN, aR.refl _, trivial⟩⟩ ?_
  obtain rfl := oI h0
  exact aF (bC (aT (Q_r hO)))
 refine aX aC 3 [13] [(16, (aD (decide (t1 ≤ (-1 : Int)))))] ?_
 refine bK h0 (fun h0 => ?_) (fun h0 => ?_)
 ·refine aO ?_
  refine aS aC 4 ?_
  refine bI 1 ?_
  obtain ⟨x7, hx8, h0⟩ := aW h0
  refine aAB (L' := fun lo9 => [(lo9, 2, List.map aK x7)]) 2 (List.map aK x7) 37 [(eL aK f0)] (fun lo9 => (.msl 2 lo9 0 (List.length x7))) (by kernel_rfl) (by kernel_rfl) (zD f0 _ hx8) hO (fun _ => by kernel_rfl) ?_
  intro lo9 H hO
  refine bA ?_
  refine bD [(4, (.msl 2 lo9 0 (List.length x7))), (5, (eI (0 : Int)))] ?_
  refine bG ?_
  refine dP [(4, (.msl 2 lo9 0 (List.length x7))), (5, (eI (0 : Int)))] ?_
  refine tM (en := aK) x7 0 0 4 2 lo9 (List.length x7) hO (by kernel_rfl) (by kernel_rfl) (by kernel_rfl) (L' := []) (by kernel_rfl) ?_
  intro H10 hO
  obtain rfl := oI h0
  exact aF (bC (aT (Q_r hO)))
 refine bN ?_
 refine dP [(0, (eL aK f0)), (1, (eI t1))] ?_
 refine aF (aV (aG (?_)))
 refine aX aC 2 [] [(6, (eI (0 : Int))), (7, (eI (0 : Int)))] ?_
 refine eR (fun T H => ∃ v6 : Int, ∃ at7 : Int, Has T [(0, (eL aK f0)), (6, (eI v6)), (7, (eI at7))] ∧ aM ⟨H0, [], []⟩ H [] ∧ wZ f0 v6 at7 = some r) ?_ ?_
 ·clear hO h0
  rintro T H ⟨v6, at7, hT, hO, h0⟩
  refine bF hT ?_
  clear hT
  unfold wZ at h0
  refine aO ?_
  refine aS aC 2 ?_
  refine oE (xs := []) (k := 2) (by kernel_rfl) (by kernel_rfl) ?_
  refine bA ?_
  refine bP [] [(8, (.sl true 0 (fun _ => .bad)))] ?_
  refine eR (fun T H => ∃ out8 : List aB, ∃ lo11 : Nat, Has T [(0, (eL aK f0)), (7, (eI at7)), (8, (.msl 2 lo11 0 (List.length out8)))] ∧ aM ⟨H0, [], []⟩ H [(lo11, 2, List.map aK out8)] ∧ xC f0 at7 out8 = some r) ?_ ?_
  ·clear hO h0
   rintro T H ⟨out8, lo11, hT, hO, h0⟩
   refine bF hT ?_
   clear hT
   unfold xC at h0
   refine aO ?_
   refine aS aC 10 ?_
   obtain ⟨c15, h0⟩ := aZ h0
   refine sG 4 [0 ≤ at7 ∧ at7 ≤ (lN f0)] ⟨c15, trivial⟩ ?_
   obtain ⟨c17, h0⟩ := aZ h0
   refine vF (e := aK) out8 (List.drop (Int.toNat at7) f0) 0 lo11 2 16 (.sl false (List.length f0 - Int.toNat at7) (fun i => aK (List.getD f0 (Int.toNat at7 + i) default))) (fun lo16 => [(lo16, 2, List.map aK (out8 ++ (List.drop (Int.toNat at7) f0)))]) (by kernel_rfl) (by kernel_rfl) hO (by kernel_rfl) (aDh (fun _ => by kernel_rfl)) c17 (fun _ => by kernel_rfl) ?_
   intro lo16 H hO
   refine KE (e := aK) (out8 ++ (List.drop (Int.toNat at7) f0)) 0 55 2 lo16 (List.length (out8 ++ (List.drop (Int.toNat at7) f0))) [] (by kernel_rfl) hO (by kernel_rfl) (by kernel_rfl) (by kernel_rfl) (by kernel_rfl) ?_
   intro H hO
   obtain ⟨x18, hx19, h0⟩ := aW h0
   refine cX (aAk (out8 ++ (List.drop (Int.toNat at7) f0)) _ hx19) hO ?_
   intro H hO
   refine bA ?_
   refine bD [(4, (eL aK x18.1)), (5, (eI x18.2))] ?_
   refine bG ?_
   obtain rfl := oI h0
   exact aF (Q_r hO)
  refine aX aC 2 [] [(45, (aD (!decide (v6 = (0 : Int)))))] ?_
  refine bK h0 (fun h0 => ?_) (fun h0 => ?_)
  ·refine aS aC 6 ?_
   refine bI 3 ?_
   refine oE (xs := [(aK (aB.mk (-1 : Int) v6))]) (k := 2) (by kernel_rfl) (by kernel_rfl) ?_
   obtain ⟨c23, h0⟩ := aZ h0
   refine RF (e := aK) ([aB.mk (-1 : Int) v6]) (fun _ => .bad) 2 16 (fM [(aK (aB.mk (-1 : Int) v6))]) (fun lo22 => [(lo22, 2, List.map aK ([aB.mk (-1 : Int) v6]))]) (by kernel_rfl) (by kernel_rfl) hO (by kernel_rfl) c23 (fun _ => by kernel_rfl) ?_
   intro lo22 H hO
   refine bA ?_
   exact aF (aG (⟨rfl, _, _, .eq (by kernel_rfl), hO, h0⟩))
  refine bN ?_
  refine dP [(0, (eL aK f0)), (7, (eI at7)), (8, (.sl true 0 (fun _ => .bad)))] ?_
  refine XJ (el := (fun _ => .bad)) 2 8 2 hO (by kernel_rfl) ?_
  intro lo24 H25 hO
  exact aF (aG (⟨rfl, ([] : List aB), _, .eq (by kernel_rfl), hO, h0⟩))
 refine bX 1 ?_
 refine eD [(0, (eL aK f0)), (1, (eI t1)), (6, (eI (0 : Int))), (7, (eI (0 : Int)))] ?_
 refine eE (fun T H => ∃ v6 : Int, ∃ at7 : Int, Has T [(0, (eL aK f0)), (1, (eI t1)), (6, (eI v6)), (7, (eI at7))] ∧ aM ⟨H0, [], []⟩ H [] ∧ AH f0 t1 v6 at7 = some r) ?_ ⟨(0 : Int), (0 : Int), .eq (by kernel_rfl), hO, h0⟩
 clear hO h0
 rintro T H ⟨v6, at7, hT, hO, h0⟩
 refine bF hT ?_
 clear hT
 unfold AH at h0
 obtain ⟨rr0, hl0, h0⟩ := aW h0
 refine dK (by kernel_rfl) (fun (s : Int × Int) T H => Has T [(0, (eL aK f0)), (1, (eI t1)), (6, (eI s.1)), (7, (eI s.2))] ∧ aM ⟨H0, [], []⟩ H []) hl0 ⟨.eq (by kernel_rfl), hO⟩ ?_
 clear hO
 rintro k0 s out1 T H ⟨hT, hO⟩ h1 ho0
 obtain ⟨v6, at7⟩ := s
 replace h1 : mR f0 t1 v6 at7 = some out1 := h1
 try dsimp only at hT
 refine bF hT ?_
 clear hT
 unfold mR at h1
 refine aO ?_
 refine aO ?_
 refine aS aC 13 ?_
 obtain ⟨c26, h1⟩ := aZ h1
 refine pZ [(((decide (at7 < (lN f0)))) = true → 0 ≤ at7 ∧ at7 < (lN f0))] ⟨c26, trivial⟩ ?_
 refine bP [] [(33, (aD ((decide (at7 < (lN f0))) && (decide (((gD f0 at7).At) < t1)))))] ?_
 refine bK h1 (fun h1 => ?_) (fun h1 => ?_)
 ·refine bN ?_
  refine bD [(0, (eL aK f0)), (1, (eI t1)), (6, (eI v6)), (7, (eI at7))] ?_
  refine bX 2 ?_
  refine aO ?_
  refine aS aC 8 ?_
  obtain ⟨c28, h1⟩ := aZ h1
  refine pZ [0 ≤ at7 ∧ at7 < (lN f0)] ⟨c28, trivial⟩ ?_
  refine bP [6] [(6, (eI (wR (v6 + ((gD f0 at7).Net)))))] ?_
  refine aS aC 3 ?_
  refine bA ?_
  exact aF (aV (aG (⟨rfl, _, (oI h1).symm, .eq (by kernel_rfl), hO⟩)))
 refine gJ 1 ?_
 obtain rfl := oI h1
 obtain rfl : _ = rr0 := ho0
 replace h0 : wZ f0 v6 at7 = some r := h0
 exact aF (aY (aY (bV (aG (⟨rfl, _, _, .eq (by kernel_rfl), hO, h0⟩)))))

theorem UM (f0 : (List aB)) (t1 : Int) (r : ((List aB) × Int)) (h0 : rO f0 t1 = some r) : cZ Try.prog 16 [(eL aK f0), (.rp (eI t1))] (.tup [(eL aK r.1), (eI r.2)]) := by
 intro H0
 refine cY Try.func16 ?_
 have hO := aM.start H0
 unfold rO at h0
 refine aX aC 2 [] [] ?_
 refine aO ?_
 refine aS aC 7 ?_
 refine bI 2 ?_
 obtain ⟨x1, hx2, h0⟩ := aW h0
 refine cX (ZO f0 t1 _ hx2) hO ?_
 intro H hO
 refine bA ?_
 refine bD [(3, (eL aK x1.1)), (4, (eI x1.2))] ?_
 refine bG ?_
 obtain rfl := oI h0
 exact aF (Q_r hO)

theorem ZR (l0 : (List aE)) (t1 : Int) (r : ((List aE) × Int)) (h0 : yG l0 t1 = some r) : cZ Try.prog 6 [(eL aH l0), (eI t1)] (.tup [(eL aH r.1), (eI r.2)]) := by
 intro H0
 refine cY Try.func6 ?_
 have hO := aM.start H0
 unfold yG at h0
 refine aO ?_
 refine aS aC 3 ?_
 refine fT 1 (eI t1) (by kernel_rfl) (by kernel_rfl) ?_
 refine bA ?_
 refine bP [1] [(3, (.rp (eI t1)))] ?_
 refine aO ?_
 refine aS aC 7 ?_
 refine bI 2 ?_
 obtain ⟨x1, hx2, h0⟩ := aW h0
 refine cX (aBt l0 16 [] [(.rp (eI t1))] (fun y0 => rO y0 t1) (fun y0 r h => UM y0 t1 r h) _ hx2) hO ?_
 intro H hO
 refine bA ?_
 refine bD [(4, (eL aH x1.1)), (5, (eI x1.2))] ?_
 refine bG ?_
 obtain rfl := oI h0
 exact aF (Q_r hO)

theorem RH (l0 : (List aE)) (t1 : Int) (r : Int) (h0 : tD l0 t1 = some r) : cZ Try.prog 20 [(eL aH l0), (eI t1)] (eI r) := by
 intro H0
 refine cY Try.func20 ?_
 have hO := aM.start H0
 unfold tD at h0
 refine aX aC 1 [] [] ?_
 refine eR (fun T H => ∃ t1 : Int, Has T [(1, (eI t1))] ∧ aM ⟨H0, [], []⟩ H [] ∧ vQ t1 = some r) ?_ ?_
 ·clear hO h0
  rintro T H ⟨t1, hT, hO, h0⟩
  refine bF hT ?_
  clear hT
  unfold vQ at h0
  refine bW aC 2 [(4, (eI t1))] ?_
  refine bG ?_
  obtain rfl := oI h0
  exact aF (Q_r hO)
 refine aX aC 3 [0] [(7, (eL aH l0)), (8, (eI (lN l0))), (9, (eI (0 : Int)))] ?_
 refine bX 0 ?_
 refine eD [(1, (eI t1)), (7, (eL aH l0)), (8, (eI (lN l0))), (9, (eI (0 : Int)))] ?_
 refine eE (fun T H => ∃ t1 : Int, ∃ t7 : (List aE), ∃ t8 : Int, ∃ t9 : Int, Has T [(1, (eI t1)), (7, (eL aH t7)), (8, (eI t8)), (9, (eI t9))] ∧ aM ⟨H0, [], []⟩ H [] ∧ vZ t1 t7 t8 t9 = some r) ?_ ⟨t1, l0, (lN l0), (0 : Int), .eq (by kernel_rfl), hO, h0⟩
 clear hO h0
 rintro T H ⟨t1, t7, t8, t9, hT, hO, h0⟩
 refine bF hT ?_
 clear hT
 unfold vZ at h0
 obtain ⟨rr0, hl0, h0⟩ := aW h0
 refine dK (by kernel_rfl) (fun (s : Int × Int) T H => Has T [(1, (eI s.1)), (7, (eL aH t7)), (8, (eI t8)), (9, (eI s.2))] ∧ aM ⟨H0, [], []⟩ H []) hl0 ⟨.eq (by kernel_rfl), hO⟩ ?_
 clear hO
 rintro k0 s out1 T H ⟨hT, hO⟩ h1 ho0
 obtain ⟨t1, t9⟩ := s
 replace h1 : pQ t7 t8 t1 t9 = some out1 := h1
 try dsimp only at hT
 refine bF hT ?_
 clear hT
 unfold pQ at h1
 refine aX aC 1 [] [(10, (aD (decide (t9 < t8))))] ?_
 refine aO ?_
 refine bK h1 (fun h1 => ?_) (fun h1 => ?_)
 ·refine bN ?_
  refine bD [(1, (eI t1)), (7, (eL aH t7)), (8, (eI t8)), (9, (eI t9))] ?_
  refine eR (fun T H => ∃ t1 : Int, Has T [(1, (eI t1)), (7, (eL aH t7)), (8, (eI t8)), (9, (eI t9))] ∧ aM ⟨H0, [], []⟩ H [] ∧ sC t1 t7 t8 t9 = some out1) ?_ ?_
  ·clear hO h1
   rintro T H ⟨t1, hT, hO, h1⟩
   refine bF hT ?_
   clear hT
   unfold sC at h1
   refine aS aC 2 ?_
   refine bA ?_
   exact aF (aG (⟨rfl, _, (oI h1).symm, .eq (by kernel_rfl), hO⟩))
  refine bX 1 ?_
  refine aO ?_
  refine aS aC 4 ?_
  obtain ⟨c2, h1⟩ := aZ h1
  refine sG 2 [0 ≤ t9 ∧ t9 < (lN t7)] ⟨c2, trivial⟩ ?_
  refine oO 3 (.agg [(.sl true 0 (fun _ => .bad)), (eI 0), (eI 0)]) (aH (aE.mk ([]) 0 0)) (by kernel_rfl) (by kernel_rfl) (by kernel_rfl) (yF (xs := [(.sl true 0 (fun _ => .bad)), (eI 0), (eI 0)]) (ys := [(eL aJ ([])), (eI 0), (eI 0)]) ⟨eN, aR.refl _, aR.refl _, trivial⟩) (by kernel_rfl) (by kernel_rfl) hO ?_
  intro lo3 H hO
  refine gY 0 lo3 3 0 (aH (aE.mk ([]) 0 0)) (aH (gD t7 t9)) [(aH (aE.mk ([]) 0 0))] [(lo3, 3, [(aH (gD t7 t9))])] hO rfl (by kernel_rfl) ?_
  intro H hO
  refine dG ?_
  refine bP [] [(6, (.lp lo3 0 0))] ?_
  refine aO ?_
  refine aS aC 3 ?_
  refine bI 1 ?_
  refine jJ 0 lo3 3 0 (aH (gD t7 t9)) (eI ((gD t7 t9).Net)) [(aH (gD t7 t9))] hO rfl ?_
  refine bA ?_
  refine bP [] [(15, (aD (decide ((0 : Int) < ((gD t7 t9).Net)))))] ?_
  refine bK h1 (fun h1 => ?_) (fun h1 => ?_)
  ·refine aS aC 6 ?_
   refine bI 2 ?_
   refine jJ 0 lo3 3 0 (aH (gD t7 t9)) (eI ((gD t7 t9).At)) [(aH (gD t7 t9))] hO rfl ?_
   refine bA ?_
   replace hO := hO.pick (L' := []) [] (by decide) (by kernel_rfl)
   exact aF (aV (aG (⟨rfl, _, .eq (by kernel_rfl), hO, h1⟩)))
  refine bN ?_
  replace hO := hO.pick (L' := []) [] (by decide) (by kernel_rfl)
  exact aF (aV (aG (⟨rfl, _, .eq (by kernel_rfl), hO, h1⟩)))
 refine gJ 0 ?_
 obtain rfl := oI h1
 obtain rfl : _ = rr0 := ho0
 replace h0 : vQ t1 = some r := h0
 exact aF (aY (aY (bV (aG (⟨rfl, _, .eq (by kernel_rfl), hO, h0⟩)))))

theorem IW (l0 : (List aE)) (r : (List aE)) (h0 : rN l0 = some r) : cZ Try.prog 40 [(eL aH l0)] (.fn (.func 59) [] [(.rp (eL aH r))]) := by
 intro H0
 refine cY Try.func40 ?_
 have hO := aM.start H0
 unfold rN at h0
 refine aO ?_
 refine aS aC 2 ?_
 refine fT 1 (eL aH l0) (by kernel_rfl) (by kernel_rfl) ?_
 refine bA ?_
 refine bD [(1, (.rp (eL aH l0)))] ?_
 refine bW aC 2 [(2, (.fn (.func 59) [] [(.rp (eL aH l0))]))] ?_
 refine bG ?_
 obtain rfl := oI h0
 exact aF (kA (x := (.fn (.func 59) [] [(.rp (eL aH l0))])) (by kernel_rfl) (aR.refl _) ⟨rfl, hO.out⟩)

theorem CP {σ : Type} (I : σ → Gs → Prop) (yield0_b : Nat) (cG : σ → (List aI) → (List aB) → Option (σ × Bool)) (yield0_h : ∀ st a0 a1 st2 r, cG st a0 a1 = some (st2, r) → BQ Try.prog (yv yield0_b) I st [(eL aJ a0), (eL aK a1)] st2 (aD r)) (t1 : (List aE)) (sg0 : σ) (r : σ) (h0 : nY cG t1 sg0 = some r) : xN Try.prog 59 I sg0 [(yv yield0_b), (.rp (eL aH t1))] r (.tup []) := by
 intro H0 G0 hI hg
 refine zN aC Try.func59 (by kernel_rfl) (by kernel_rfl) (by kernel_rfl) ?_
 obtain ⟨G, hO, hI⟩ : ∃ G, aM ⟨H0, List.map (fun p : Nat × dL => p.1) G0, G⟩ H0 [] ∧ I sg0 G := ⟨G0, aM.DV hg, hI⟩
 clear hg
 unfold nY at h0
 refine aO ?_
 refine aS aC 1 ?_
 refine fT 1 (yv yield0_b) (by kernel_rfl) (by kernel_rfl) ?_
 refine dG ?_
 refine bP [0] [(2, (.rp (yv yield0_b)))] ?_
 refine aO ?_
 refine aO ?_
 refine aS aC 3 ?_
 refine bI 1 ?_
 obtain ⟨x1, hx2, h0⟩ := aW h0
 refine cX (xE t1 _ hx2) hO ?_
 intro H hO
 refine bA ?_
 refine bP [] [(7, (aD (!x1)))] ?_
 refine bK h0 (fun h0 => ?_) (fun h0 => ?_)
 ·refine bG ?_
  obtain rfl := oI h0
  exact aF (aT (QM0 (.inr rfl) (rs := []) (xs := []) (x := (.tup [])) (by kernel_rfl) mY (by kernel_rfl) ⟨rfl, G, hI, hO.zE⟩))
 refine bN ?_
 refine bD [(1, (.rp (eL aH t1))), (2, (.rp (yv yield0_b)))] ?_
 refine aO ?_
 refine aS aC 2 ?_
 refine bI 1 ?_
 obtain ⟨x5, hx6, h0⟩ := aW h0
 refine cX (FZ t1 _ hx6) hO ?_
 intro H hO
 refine dG ?_
 refine bP [1] [(9, (.fn (.func 72) [] [(.rp (eL aH x5))]))] ?_
 refine bX 0 ?_
 refine eD [(2, (.rp (yv yield0_b))), (9, (.fn (.func 72) [] [(.rp (eL aH x5))]))] ?_
 refine eE (fun T H => ∃ sg : σ, ∃ t9c0 : (List aE), ∃ G : Gs, Has T [(2, (.rp (yv yield0_b))), (9, (.fn (.func 72) [] [(.rp (eL aH t9c0))]))] ∧ aM ⟨H0, List.map (fun p : Nat × dL => p.1) G0, G⟩ H [] ∧ I sg G ∧ sE cG sg t9c0 = some r) ?_ ⟨sg0, x5, G, .eq (by kernel_rfl), hO, hI, h0⟩
 clear hO hI h0
 rintro T H ⟨sg, t9c0, G, hT, hO, hI, h0⟩
 refine bF (l := [(2, (.rp (yv yield0_b))), (9, (.fn (.func 72) [] [(.rp (eL aH t9c0))]))]) hT ?_
 clear hT
 unfold sE at h0
 obtain ⟨o0, hl0, h0⟩ := aW h0
 refine wO (fid := 72) (ys := []) (cs := [(.rp (eL aH t9c0))]) #[10, 11] (fun (A : rT) (b lL : Nat) (st : (σ) ⊕ (σ)) (G' : Gs) => Sum.elim (fun (s : σ) => ∃ G : Gs, I s G ∧ G' = (lL, .raw (gQ b A .ready none)) :: (up [] ++ G)) (fun (s : σ) => ∃ G : Gs, I s G ∧ G' = (lL, .raw (gQ b A .done (some .ret))) :: (up [] ++ G)) st) (.inl sg) o0 (.tup []) (by kernel_rfl) (by kernel_rfl) (by kernel_rfl) hO (fun _ _ => ⟨G, hI, rfl⟩) ?_ ?_
 ·intro b lL
  clear hO hI h0
  refine AR _ b (fun st t10 t11 => rnd (fun (s : σ) => lX cG t9c0 s t10 t11) st) ?_ t9c0 _ _ hl0
  intro st t10 t11 out1 rr hr
  obtain ⟨s, rfl, h1, rfl⟩ := ID hr
  clear hr
  intro Hr Gr hi hg
  obtain ⟨sg, rfl⟩ : ∃ x, x = s := ⟨_, rfl⟩
  dsimp only [Sum.elim_inl] at hi
  obtain ⟨G, hI, rfl⟩ := hi
  replace h1 : lX cG t9c0 sg t10 t11 = some out1 := h1
  unfold lX at h1
  obtain ⟨E1, hE, hO⟩ := pE hg
  refine pF (uF (hO.gm 0 _ rfl).2 (by kernel_rfl) (by kernel_rfl) ?_)
  refine eD [(2, (.rp (yv yield0_b))), (9, (.fn (.func 72) [] [(.rp (eL aH t9c0))])), (10, (eL aJ t10)), (11, (eL aK t11))] ?_
  refine aX aC 1 [9, 10] [(3, (eL aJ t10))] ?_
  refine aS aC 1 ?_
  refine bA ?_
  refine dP [(2, (.rp (yv yield0_b))), (3, (eL aJ t10)), (4, (eL aK t11))] ?_
  refine aF (⟨rfl, rfl, (hO.gm 0 _ rfl).2, ?_⟩)
  intro o1 ho1
  replace hO := hO.nI o1
  refine bX 1 ?_
  refine aO ?_
  refine aS aC 5 ?_
  refine bI 3 ?_
  obtain ⟨x7, hx8, h1⟩ := aW h1
  refine aDz (I := I) (yv yield0_b) [(eL aJ t10), (eL aK t11)] (aD x7.2) (by kernel_rfl) (by kernel_rfl) (yield0_h _ t10 t11 x7.1 x7.2 hx8) hO hI ?_
  intro G H hO hI
  refine bA ?_
  refine bD [(16, (aD (!x7.2)))] ?_
  refine bK h1 (fun h1 => ?_) (fun h1 => ?_)
  ·refine bG ?_
   refine dP [] ?_
   obtain rfl := oI h1
   exact aF (bC (⟨(dA hO hE ho1 .dead).1, rfl, _, ⟨G, hI, rfl⟩, (dA hO hE ho1 _).2⟩))
  refine bN ?_
  refine dP [] ?_
  obtain rfl := oI h1
  exact aF (aV (⟨(dA hO hE ho1 .dead).1, rfl, _, ⟨G, hI, rfl⟩, (dA hO hE ho1 _).2⟩))
 ·intro b lD10 lL H' G' hi hO
  rcases o0 with s | s
  ·dsimp only [Sum.elim_inl] at hi
   obtain ⟨G, hI, rfl⟩ := hi
   replace h0 : (some s) = some r := h0
   obtain ⟨hlL, hO⟩ := mB hO
   refine ⟨_, _, hlL, (by intro e; cases e), ?_⟩
   obtain rfl := oI h0
   have hD := (hO.gm 0 _ rfl).2
   replace hO := (hO.nI .dead).nM
   exact aF (aV (QM1 (.inl rfl) hD (rs := []) (xs := []) (x := (.tup [])) (by kernel_rfl) mY (by kernel_rfl) ⟨rfl, G, hI, hO.zE⟩))
  ·dsimp only [Sum.elim_inr] at hi
   obtain ⟨G, hI, rfl⟩ := hi
   replace h0 : (some s) = some r := h0
   obtain ⟨hlL, hO⟩ := mB hO
   refine ⟨_, _, hlL, (by intro e; cases e), ?_⟩
   refine bG ?_
   obtain rfl := oI h0
   have hD := (hO.gm 0 _ rfl).2
   replace hO := (hO.nI .dead).nM
   exact aF (bC (QM1 (.inr rfl) hD (rs := []) (xs := []) (x := (.tup [])) (by kernel_rfl) mY (by kernel_rfl) ⟨rfl, G, hI, hO.zE⟩))

theorem ZN (f0 : (List aB)) (r : (List aB)) (h0 : BS f0 = some r) : cZ Try.prog 60 [(eL aK f0)] (.fn (.func 73) [] [(.rp (eL aK r))]) := by
 intro H0
 refine cY Try.func60 ?_
 have hO := aM.start H0
 unfold BS at h0
 refine aO ?_
 refine aS aC 2 ?_
 refine fT 1 (eL aK f0) (by kernel_rfl) (by kernel_rfl) ?_
 refine bA ?_
 refine bD [(1, (.rp (eL aK f0)))] ?_
 refine bW aC 2 [(2, (.fn (.func 73) [] [(.rp (eL aK f0))]))] ?_
 refine bG ?_
 obtain rfl := oI h0
 exact aF (kA (x := (.fn (.func 73) [] [(.rp (eL aK f0))])) (by kernel_rfl) (aR.refl _) ⟨rfl, hO.out⟩)

theorem PJ {σ : Type} (I : σ → Gs → Prop) (yield0_b : Nat) (cG : σ → bJ → Option (σ × Bool)) (yield0_h : ∀ st a0 st2 r, cG st a0 = some (st2, r) → BQ Try.prog (yv yield0_b) I st [(cU a0)] st2 (aD r)) (t1 : (List aB)) (sg0 : σ) (r : σ) (h0 : rU cG t1 sg0 = some r) : xN Try.prog 73 I sg0 [(yv yield0_b), (.rp (eL aK t1))] r (.tup []) := by
 intro H0 G0 hI hg
 refine cY Try.func73 ?_
 obtain ⟨G, hO, hI⟩ : ∃ G, aM ⟨H0, List.map (fun p : Nat × dL => p.1) G0, G⟩ H0 [] ∧ I sg0 G := ⟨G0, aM.DV hg, hI⟩
 clear hg
 unfold rU at h0
 refine aX aC 2 [] [(3, (eI (0 : Int))), (4, (eI (0 : Int)))] ?_
 refine eR (fun T H => ∃ sg : σ, ∃ n3 : Int, ∃ kT : Int, ∃ G : Gs, Has T [(0, (yv yield0_b)), (3, (eI n3)), (4, (eI kT))] ∧ aM ⟨H0, List.map (fun p : Nat × dL => p.1) G0, G⟩ H [] ∧ I sg G ∧ oT cG sg n3 kT = some r) ?_ ?_
 ·clear hO hI h0
  rintro T H ⟨sg, n3, kT, G, hT, hO, hI, h0⟩
  refine bF hT ?_
  clear hT
  unfold oT at h0
  refine aX aC 2 [3] [(34, (aD (decide ((0 : Int) < n3))))] ?_
  refine bK h0 (fun h0 => ?_) (fun h0 => ?_)
  ·refine aS aC 4 ?_
   refine bI 3 ?_
   obtain ⟨x2, hx3, h0⟩ := aW h0
   refine LR (I := I) (yv yield0_b) [(cU (bJ.mk kT (1125899906842624 : Int)))] (aD x2.2) (by kernel_rfl) (by kernel_rfl) (yield0_h _ (bJ.mk kT (1125899906842624 : Int)) x2.1 x2.2 hx3) hO hI ?_
   intro G H hO hI
   refine dG ?_
   obtain rfl := oI h0
   exact aF (yU (x := (.tup [])) (by kernel_rfl) (aR.refl _) ⟨rfl, G, hI, hO.zE⟩)
  refine bN ?_
  obtain rfl := oI h0
  exact aF (yU (x := (.tup [])) (by kernel_rfl) (aR.refl _) ⟨rfl, G, hI, hO.zE⟩)
 refine aX aC 3 [1] [(7, (eL aK t1)), (8, (eI (lN t1))), (9, (eI (0 : Int)))] ?_
 refine bX 0 ?_
 refine eD [(0, (yv yield0_b)), (3, (eI (0 : Int))), (4, (eI (0 : Int))), (7, (eL aK t1)), (8, (eI (lN t1))), (9, (eI (0 : Int)))] ?_
 refine eE (fun T H => ∃ sg : σ, ∃ n3 : Int, ∃ kT : Int, ∃ t7 : (List aB), ∃ t8 : Int, ∃ t9 : Int, ∃ G : Gs, Has T [(0, (yv yield0_b)), (3, (eI n3)), (4, (eI kT)), (7, (eL aK t7)), (8, (eI t8)), (9, (eI t9))] ∧ aM ⟨H0, List.map (fun p : Nat × dL => p.1) G0, G⟩ H [] ∧ I sg G ∧ tQ cG sg n3 kT t7 t8 t9 = some r) ?_ ⟨sg0, (0 : Int), (0 : Int), t1, (lN t1), (0 : Int), G, .eq (by kernel_rfl), hO, hI, h0⟩
 clear hO hI h0
 rintro T H ⟨sg, n3, kT, t7, t8, t9, G, hT, hO, hI, h0⟩
 refine bF hT ?_
 clear hT
 unfold tQ at h0
 obtain ⟨rr0, hl0, h0⟩ := aW h0
 refine dK (by kernel_rfl) (fun (s : σ × Int × Int × Int) T H => ∃ G : Gs, Has T [(0, (yv yield0_b)), (3, (eI s.2.1)), (4, (eI s.2.2.1)), (7, (eL aK t7)), (8, (eI t8)), (9, (eI s.2.2.2))] ∧ aM ⟨H0, List.map (fun p : Nat × dL => p.1) G0, G⟩ H [] ∧ I s.1 G) hl0 ⟨G, .eq (by kernel_rfl), hO, hI⟩ ?_
 clear hO hI
 rintro k0 s out1 T H ⟨G, hT, hO, hI⟩ h1 ho0
 obtain ⟨sg, n3, kT, t9⟩ := s
 replace h1 : gX cG t7 t8 sg n3 kT t9 = some out1 := h1
 try dsimp only at hT
 refine bF hT ?_
 clear hT
 unfold gX at h1
 refine aX aC 1 [] [(10, (aD (decide (t9 < t8))))] ?_
 refine aO ?_
 refine bK h1 (fun h1 => ?_) (fun h1 => ?_)
 ·refine bN ?_
  refine bD [(0, (yv yield0_b)), (3, (eI n3)), (4, (eI kT)), (7, (eL aK t7)), (8, (eI t8)), (9, (eI t9))] ?_
  refine aO ?_
  refine bX 1 ?_
  refine aO ?_
  refine aS aC 4 ?_
  obtain ⟨c5, h1⟩ := aZ h1
  refine sG 2 [0 ≤ t9 ∧ t9 < (lN t7)] ⟨c5, trivial⟩ ?_
  refine kY 2 (aK (aB.mk 0 0)) (by kernel_rfl) (by kernel_rfl) hO ?_
  intro lo6 H hO
  refine gY 0 lo6 2 0 (aK (aB.mk 0 0)) (aK (gD t7 t9)) [(aK (aB.mk 0 0))] [(lo6, 2, [(aK (gD t7 t9))])] hO rfl (by kernel_rfl) ?_
  intro H hO
  refine dG ?_
  refine bP [] [(6, (.lp lo6 0 0))] ?_
  refine eR (fun T H => ∃ sg : σ, ∃ kT : Int, ∃ j6 : aB, ∃ G : Gs, Has T [(0, (yv yield0_b)), (3, (eI n3)), (4, (eI kT)), (6, (.lp lo6 0 0)), (7, (eL aK t7)), (8, (eI t8)), (9, (eI t9))] ∧ aM ⟨H0, List.map (fun p : Nat × dL => p.1) G0, G⟩ H [(lo6, 2, [(aK j6)])] ∧ I sg G ∧ mW cG sg n3 kT j6 t7 t8 t9 = some out1) ?_ ?_
  ·clear hO hI h1
   rintro T H ⟨sg, kT, j6, G, hT, hO, hI, h1⟩
   refine bF hT ?_
   clear hT
   unfold mW at h1
   refine aO ?_
   refine aS aC 5 ?_
   refine bI 2 ?_
   refine jJ 0 lo6 2 0 (aK j6) (eI j6.Net) [(aK j6)] hO rfl ?_
   refine bA ?_
   refine bP [3] [(3, (eI (wR (n3 + j6.Net))))] ?_
   refine aO ?_
   refine aS aC 11 ?_
   refine bI 6 ?_
   refine rR [(23, true)] 0 lo6 2 0 (aK j6) (eI j6.At) [(aK j6)] (by kernel_rfl) (by kernel_rfl) hO (by kernel_rfl) (decide ((wR (n3 + j6.Net)) = (0 : Int))) (by kernel_rfl) (fun hb7 => rfl) ?_
   refine bI 8 ?_
   obtain ⟨⟨x10, x11⟩, hx9, h1⟩ := aW h1
   replace hx9 := aAN hx9
   refine YN (I := I) [(23, true)] (decide ((wR (n3 + j6.Net)) = (0 : Int))) (yv yield0_b) [(cU (bJ.mk kT j6.At))] (aD x11) ⟨fun hb => yield0_h _ (bJ.mk kT j6.At) x10 x11 (hx9.1 hb), hx9.2⟩ hO hI ?_
   intro G H hO hI
   refine bA ?_
   replace hO := hO.pick (L' := []) [] (by decide) (by kernel_rfl)
   refine bP [6] [(31, (aD ((decide ((wR (n3 + j6.Net)) = (0 : Int))) && (!x11))))] ?_
   refine bK h1 (fun h1 => ?_) (fun h1 => ?_)
   ·refine bG ?_
    obtain rfl := oI h1
    obtain rfl : _ = rr0 := ho0
    replace h0 : some x10 = some r := h0
    obtain rfl := oI h0
    exact aF (bC (aT (aT (bC (aT (kA (x := (.tup [])) (by kernel_rfl) (aR.refl _) ⟨rfl, G, hI, hO.zE⟩))))))
   refine bN ?_
   refine dP [(0, (yv yield0_b)), (3, (eI (wR (n3 + j6.Net)))), (4, (eI kT)), (7, (eL aK t7)), (8, (eI t8)), (9, (eI t9))] ?_
   refine aF (aV (aG (?_)))
   refine aS aC 2 ?_
   refine bA ?_
   exact aF (aG (⟨rfl, _, (oI h1).symm, _, .eq (by kernel_rfl), hO, hI⟩))
  refine aX aC 2 [] [(14, (aD (decide (n3 = (0 : Int)))))] ?_
  refine bK h1 (fun h1 => ?_) (fun h1 => ?_)
  ·refine aS aC 3 ?_
   refine bI 1 ?_
   refine jJ 0 lo6 2 0 (aK (gD t7 t9)) (eI ((gD t7 t9).At)) [(aK (gD t7 t9))] hO rfl ?_
   refine bA ?_
   exact aF (aG (⟨rfl, _, _, _, _, .eq (by kernel_rfl), hO, hI, h1⟩))
  refine bN ?_
  exact aF (aG (⟨rfl, _, _, _, _, .eq (by kernel_rfl), hO, hI, h1⟩))
 refine gJ 0 ?_
 obtain rfl := oI h1
 obtain rfl : _ = rr0 := ho0
 replace h0 : oT cG sg n3 kT = some r := h0
 exact aF (aY (aY (bV (aG (⟨rfl, _, _, _, _, .eq (by kernel_rfl), hO, hI, h0⟩)))))

theorem YO (mV : Int) (hop1 : Int) (s2 : bJ) (mK : Int) (kD : Int) (r : (Int × bJ × Int × Int × Int)) (h0 : zV mV hop1 s2 mK kD = some r) : cZ Try.prog 61 [(eI mV), (eI hop1), (cU s2), (eI mK), (eI kD)] (.fn (.func 74) [] [(.rp (eI r.1)), (.rp (cU r.2.1)), (.rp (eI r.2.2.1)), (.rp (eI r.2.2.2.1)), (.rp (eI r.2.2.2.2))]) := by
 intro H0
 refine cY Try.func61 ?_
 have hO := aM.start H0
 unfold zV at h0
 refine aO ?_
 refine aS aC 6 ?_
 refine fT 1 (eI mV) (by kernel_rfl) (by kernel_rfl) ?_
 refine fT 1 (eI hop1) (by kernel_rfl) (by kernel_rfl) ?_
 refine fT 2 (cU s2) (by kernel_rfl) (by kernel_rfl) ?_
 refine fT 1 (eI mK) (by kernel_rfl) (by kernel_rfl) ?_
 refine fT 1 (eI kD) (by kernel_rfl) (by kernel_rfl) ?_
 refine bA ?_
 refine bD [(5, (.rp (eI mV))), (6, (.rp (eI hop1))), (7, (.rp (cU s2))), (8, (.rp (eI mK))), (9, (.rp (eI kD)))] ?_
 refine bW aC 2 [(10, (.fn (.func 74) [] [(.rp (eI hop1)), (.rp (cU s2)), (.rp (eI mV)), (.rp (eI mK)), (.rp (eI kD))]))] ?_
 refine bG ?_
 obtain rfl := oI h0
 exact aF (kA (x := (.fn (.func 74) [] [(.rp (eI hop1)), (.rp (cU s2)), (.rp (eI mV)), (.rp (eI mK)), (.rp (eI kD))])) (by kernel_rfl) (aR.refl _) ⟨rfl, hO.out⟩)

theorem NR {σ : Type} (I : σ → Gs → Prop) (yield0_b : Nat) (cG : σ → Int → Option (σ × Bool)) (yield0_h : ∀ st a0 st2 r, cG st a0 = some (st2, r) → BQ Try.prog (yv yield0_b) I st [(eI a0)] st2 (aD r)) (t1 : Int) (t2 : bJ) (t3 : Int) (t4 : Int) (t5 : Int) (sg0 : σ) (r : σ) (h0 : rA cG t1 t2 t3 t4 t5 sg0 = some r) : xN Try.prog 74 I sg0 [(yv yield0_b), (.rp (eI t1)), (.rp (cU t2)), (.rp (eI t3)), (.rp (eI t4)), (.rp (eI t5))] r (.tup []) := by
 intro H0 G0 hI hg
 refine cY Try.func74 ?_
 obtain ⟨G, hO, hI⟩ : ∃ G, aM ⟨H0, List.map (fun p : Nat × dL => p.1) G0, G⟩ H0 [] ∧ I sg0 G := ⟨G0, aM.DV hg, hI⟩
 clear hg
 unfold rA at h0
 refine aO ?_
 refine fS (fR [9, 11, 12, 14, 15, 16, 18]) aC 12 ?_
 refine kJ 5 ?_
 obtain ⟨x1, hx2, h0⟩ := aW h0
 refine AY (DZ t1 (wR (t2.From - t3)) _ hx2) hO ?_
 intro H hO
 refine kJ 9 ?_
 obtain ⟨x4, hx5, h0⟩ := aW h0
 refine AY (DZ t1 (wR (t4 - (1 : Int))) _ hx5) hO ?_
 intro H hO
 refine kI ?_
 refine bP [3, 4] [(7, (eI (if x4 > x1 then x4 else x1)))] ?_
 refine aX aC 2 [7] [(8, (eI (if x4 > x1 then x4 else x1)))] ?_
 refine bX 0 ?_
 refine eD [(0, (yv yield0_b)), (1, (.rp (eI t1))), (2, (.rp (cU t2))), (5, (.rp (eI t5))), (8, (eI (if x4 > x1 then x4 else x1)))] ?_
 refine eE (fun T H => ∃ sg : σ, ∃ t8 : Int, ∃ G : Gs, Has T [(0, (yv yield0_b)), (1, (.rp (eI t1))), (2, (.rp (cU t2))), (5, (.rp (eI t5))), (8, (eI t8))] ∧ aM ⟨H0, List.map (fun p : Nat × dL => p.1) G0, G⟩ H [] ∧ I sg G ∧ qC cG sg t1 t2 t5 t8 = some r) ?_ ⟨sg0, if x4 > x1 then x4 else x1, G, .eq (by kernel_rfl), hO, hI, h0⟩
 clear hO hI h0
 rintro T H ⟨sg, t8, G, hT, hO, hI, h0⟩
 refine bF hT ?_
 clear hT
 unfold qC at h0
 obtain ⟨rr0, hl0, h0⟩ := aW h0
 refine dK (by kernel_rfl) (fun (s : σ × Int) T H => ∃ G : Gs, Has T [(0, (yv yield0_b)), (1, (.rp (eI t1))), (2, (.rp (cU t2))), (5, (.rp (eI t5))), (8, (eI s.2))] ∧ aM ⟨H0, List.map (fun p : Nat × dL => p.1) G0, G⟩ H [] ∧ I s.1 G) hl0 ⟨G, .eq (by kernel_rfl), hO, hI⟩ ?_
 clear hO hI
 rintro k0 s out1 T H ⟨G, hT, hO, hI⟩ h1 ho0
 obtain ⟨sg, t8⟩ := s
 replace h1 : kC cG t1 t2 t5 sg t8 = some out1 := h1
 try dsimp only at hT
 refine bF hT ?_
 clear hT
 unfold kC at h1
 refine aO ?_
 refine aX aC 6 [] [(26, (aD (decide (t8 < (if (1125899906842624 : Int) < (if t5 < t2.To then t5 else t2.To) then (1125899906842624 : Int) else (if t5 < t2.To then t5 else t2.To))))))] ?_
 refine bK h1 (fun h1 => ?_) (fun h1 => ?_)
 ·refine bN ?_
  refine bD [(0, (yv yield0_b)), (1, (.rp (eI t1))), (2, (.rp (cU t2))), (5, (.rp (eI t5))), (8, (eI t8))] ?_
  refine aO ?_
  refine bX 1 ?_
  refine aO ?_
  refine aS aC 4 ?_
  refine bI 2 ?_
  obtain ⟨x8, hx9, h1⟩ := aW h1
  refine LR (I := I) (yv yield0_b) [(eI t8)] (aD x8.2) (by kernel_rfl) (by kernel_rfl) (yield0_h _ t8 x8.1 x8.2 hx9) hO hI ?_
  intro G H hO hI
  refine bA ?_
  refine bP [] [(33, (aD (!x8.2)))] ?_
  refine bK h1 (fun h1 => ?_) (fun h1 => ?_)
  ·refine bG ?_
   obtain rfl := oI h1
   obtain rfl : _ = rr0 := ho0
   replace h0 : some x8.1 = some r := h0
   obtain rfl := oI h0
   exact aF (bC (aT (aT (bC (kA (x := (.tup [])) (by kernel_rfl) (aR.refl _) ⟨rfl, G, hI, hO.zE⟩)))))
  refine bN ?_
  refine dP [(0, (yv yield0_b)), (1, (.rp (eI t1))), (2, (.rp (cU t2))), (5, (.rp (eI t5))), (8, (eI t8))] ?_
  refine aF (aV (aG (?_)))
  refine aS aC 4 ?_
  refine bA ?_
  exact aF (aG (⟨rfl, _, (oI h1).symm, _, .eq (by kernel_rfl), hO, hI⟩))
 refine gJ 0 ?_
 obtain rfl := oI h1
 obtain rfl : _ = rr0 := ho0
 replace h0 : some sg = some r := h0
 obtain rfl := oI h0
 exact aF (aY (aY (bV (yU (x := (.tup [])) (by kernel_rfl) (aR.refl _) ⟨rfl, G, hI, hO.zE⟩))))

theorem TN (f0 : (List aB)) (t1 : Int) (r : Int) (h0 : zM f0 t1 = some r) : cZ Try.prog 46 [(eL aK f0), (eI t1)] (eI r) := by
 intro H0
 refine cY Try.func46 ?_
 have hO := aM.start H0
 unfold zM at h0
 refine aX aC 1 [] [] ?_
 refine aO ?_
 refine aO ?_
 refine aS aC 3 ?_
 refine bI 1 ?_
 obtain ⟨x1, hx2, h0⟩ := aW h0
 refine cX (xG f0 _ hx2) hO ?_
 intro H hO
 refine bA ?_
 refine bP [] [(10, (aD (!x1)))] ?_
 refine bK h0 (fun h0 => ?_) (fun h0 => ?_)
 ·refine bW aC 1 [(4, (eI (0 : Int)))] ?_
  refine bG ?_
  obtain rfl := oI h0
  exact aF (aT (Q_r hO))
 refine bN ?_
 refine bD [(0, (eL aK f0)), (1, (eI t1))] ?_
 refine aX aC 1 [] [(5, (eI (0 : Int)))] ?_
 refine eR (fun T H => ∃ v5 : Int, Has T [(5, (eI v5))] ∧ aM ⟨H0, [], []⟩ H [] ∧ xM v5 = some r) ?_ ?_
 ·clear hO h0
  rintro T H ⟨v5, hT, hO, h0⟩
  refine bF hT ?_
  clear hT
  unfold xM at h0
  refine bW aC 2 [(4, (eI v5))] ?_
  refine bG ?_
  obtain rfl := oI h0
  exact aF (Q_r hO)
 refine aX aC 3 [0] [(11, (eL aK f0)), (12, (eI (lN f0))), (13, (eI (0 : Int)))] ?_
 refine bX 0 ?_
 refine eD [(1, (eI t1)), (5, (eI (0 : Int))), (11, (eL aK f0)), (12, (eI (lN f0))), (13, (eI (0 : Int)))] ?_
 refine eE (fun T H => ∃ v5 : Int, ∃ t11 : (List aB), ∃ t12 : Int, ∃ t13 : Int, Has T [(1, (eI t1)), (5, (eI v5)), (11, (eL aK t11)), (12, (eI t12)), (13, (eI t13))] ∧ aM ⟨H0, [], []⟩ H [] ∧ CQ t1 v5 t11 t12 t13 = some r) ?_ ⟨(0 : Int), f0, (lN f0), (0 : Int), .eq (by kernel_rfl), hO, h0⟩
 clear hO h0
 rintro T H ⟨v5, t11, t12, t13, hT, hO, h0⟩
 refine bF hT ?_
 clear hT
 unfold CQ at h0
 obtain ⟨rr0, hl0, h0⟩ := aW h0
 refine dK (by kernel_rfl) (fun (s : Int × Int) T H => Has T [(1, (eI t1)), (5, (eI s.1)), (11, (eL aK t11)), (12, (eI t12)), (13, (eI s.2))] ∧ aM ⟨H0, [], []⟩ H []) hl0 ⟨.eq (by kernel_rfl), hO⟩ ?_
 clear hO
 rintro k0 s out1 T H ⟨hT, hO⟩ h1 ho0
 obtain ⟨v5, t13⟩ := s
 replace h1 : oW t1 t11 t12 v5 t13 = some out1 := h1
 try dsimp only at hT
 refine bF hT ?_
 clear hT
 unfold oW at h1
 refine aX aC 1 [] [(14, (aD (decide (t13 < t12))))] ?_
 refine aO ?_
 refine bK h1 (fun h1 => ?_) (fun h1 => ?_)
 ·refine bN ?_
  refine bD [(1, (eI t1)), (5, (eI v5)), (11, (eL aK t11)), (12, (eI t12)), (13, (eI t13))] ?_
  refine aO ?_
  refine bX 1 ?_
  refine aO ?_
  refine aS aC 4 ?_
  obtain ⟨c6, h1⟩ := aZ h1
  refine sG 2 [0 ≤ t13 ∧ t13 < (lN t11)] ⟨c6, trivial⟩ ?_
  refine kY 2 (aK (aB.mk 0 0)) (by kernel_rfl) (by kernel_rfl) hO ?_
  intro lo7 H hO
  refine gY 0 lo7 2 0 (aK (aB.mk 0 0)) (aK (gD t11 t13)) [(aK (aB.mk 0 0))] [(lo7, 2, [(aK (gD t11 t13))])] hO rfl (by kernel_rfl) ?_
  intro H hO
  refine dG ?_
  refine bP [] [(7, (.lp lo7 0 0))] ?_
  refine aO ?_
  refine aO ?_
  refine aS aC 4 ?_
  refine bI 1 ?_
  refine jJ 0 lo7 2 0 (aK (gD t11 t13)) (eI ((gD t11 t13).At)) [(aK (gD t11 t13))] hO rfl ?_
  refine bA ?_
  refine bP [] [(20, (aD (decide (t1 < ((gD t11 t13).At)))))] ?_
  refine bK h1 (fun h1 => ?_) (fun h1 => ?_)
  ·refine gJ 0 ?_
   replace hO := hO.pick (L' := []) [] (by decide) (by kernel_rfl)
   obtain rfl := oI h1
   obtain rfl : _ = rr0 := ho0
   replace h0 : xM v5 = some r := h0
   exact aF (aY (vB (by kernel_rfl) (aY (aY (bV (aG (⟨rfl, _, .eq (by kernel_rfl), hO, h0⟩)))))))
  refine bN ?_
  refine bD [(1, (eI t1)), (5, (eI v5)), (7, (.lp lo7 0 0)), (11, (eL aK t11)), (12, (eI t12)), (13, (eI t13))] ?_
  refine aS aC 5 ?_
  refine bI 2 ?_
  refine jJ 0 lo7 2 0 (aK (gD t11 t13)) (eI ((gD t11 t13).Net)) [(aK (gD t11 t13))] hO rfl ?_
  refine bA ?_
  refine dP [(1, (eI t1)), (5, (eI (wR (v5 + ((gD t11 t13).Net))))), (11, (eL aK t11)), (12, (eI t12)), (13, (eI t13))] ?_
  replace hO := hO.pick (L' := []) [] (by decide) (by kernel_rfl)
  refine aF (aV (aG (?_)))
  refine aS aC 2 ?_
  refine bA ?_
  exact aF (aG (⟨rfl, _, (oI h1).symm, .eq (by kernel_rfl), hO⟩))
 refine gJ 0 ?_
 obtain rfl := oI h1
 obtain rfl : _ = rr0 := ho0
 replace h0 : xM v5 = some r := h0
 exact aF (aY (aY (bV (aG (⟨rfl, _, .eq (by kernel_rfl), hO, h0⟩)))))

theorem UH (f0 : (List aB)) (w1 : bJ) (r : Int) (h0 : uO f0 w1 = some r) : cZ Try.prog 64 [(eL aK f0), (cU w1)] (eI r) := by
 intro H0
 refine cY Try.func64 ?_
 have hO := aM.start H0
 unfold uO at h0
 refine aO ?_
 refine aS aC 2 ?_
 refine fT 2 (cU w1) (by kernel_rfl) (by kernel_rfl) ?_
 refine bA ?_
 refine bP [1] [(3, (.rp (cU w1)))] ?_
 refine aO ?_
 refine aS aC 5 ?_
 refine bI 3 ?_
 obtain ⟨x1, hx2, h0⟩ := aW h0
 refine cX (TN f0 w1.From _ hx2) hO ?_
 intro H hO
 refine bA ?_
 refine bP [] [(5, (eI x1))] ?_
 refine eR (fun T H => ∃ n5 : Int, Has T [(5, (eI n5))] ∧ aM ⟨H0, [], []⟩ H [] ∧ xI n5 = some r) ?_ ?_
 ·clear hO h0
  rintro T H ⟨n5, hT, hO, h0⟩
  refine bF hT ?_
  clear hT
  unfold xI at h0
  refine bW aC 2 [(4, (eI n5))] ?_
  refine bG ?_
  obtain rfl := oI h0
  exact aF (Q_r hO)
 refine aX aC 3 [0] [(12, (eL aK f0)), (13, (eI (lN f0))), (14, (eI (0 : Int)))] ?_
 refine bX 0 ?_
 refine eD [(3, (.rp (cU w1))), (5, (eI x1)), (12, (eL aK f0)), (13, (eI (lN f0))), (14, (eI (0 : Int)))] ?_
 refine eE (fun T H => ∃ w3 : bJ, ∃ n5 : Int, ∃ t12 : (List aB), ∃ t13 : Int, ∃ t14 : Int, Has T [(3, (.rp (cU w3))), (5, (eI n5)), (12, (eL aK t12)), (13, (eI t13)), (14, (eI t14))] ∧ aM ⟨H0, [], []⟩ H [] ∧ xH w3 n5 t12 t13 t14 = some r) ?_ ⟨w1, x1, f0, (lN f0), (0 : Int), .eq (by kernel_rfl), hO, h0⟩
 clear hO h0
 rintro T H ⟨w3, n5, t12, t13, t14, hT, hO, h0⟩
 refine bF hT ?_
 clear hT
 unfold xH at h0
 obtain ⟨rr0, hl0, h0⟩ := aW h0
 refine dK (by kernel_rfl) (fun (s : Int × Int) T H => Has T [(3, (.rp (cU w3))), (5, (eI s.1)), (12, (eL aK t12)), (13, (eI t13)), (14, (eI s.2))] ∧ aM ⟨H0, [], []⟩ H []) hl0 ⟨.eq (by kernel_rfl), hO⟩ ?_
 clear hO
 rintro k0 s out1 T H ⟨hT, hO⟩ h1 ho0
 obtain ⟨n5, t14⟩ := s
 replace h1 : qR w3 t12 t13 n5 t14 = some out1 := h1
 try dsimp only at hT
 refine bF hT ?_
 clear hT
 unfold qR at h1
 refine aX aC 1 [] [(15, (aD (decide (t14 < t13))))] ?_
 refine aO ?_
 refine bK h1 (fun h1 => ?_) (fun h1 => ?_)
 ·refine bN ?_
  refine bD [(3, (.rp (cU w3))), (5, (eI n5)), (12, (eL aK t12)), (13, (eI t13)), (14, (eI t14))] ?_
  refine eR (fun T H => ∃ n5 : Int, Has T [(3, (.rp (cU w3))), (5, (eI n5)), (12, (eL aK t12)), (13, (eI t13)), (14, (eI t14))] ∧ aM ⟨H0, [], []⟩ H [] ∧ qQ w3 n5 t12 t13 t14 = some out1) ?_ ?_
  ·clear hO h1
   rintro T H ⟨n5, hT, hO, h1⟩
   refine bF hT ?_
   clear hT
   unfold qQ at h1
   refine aS aC 2 ?_
   refine bA ?_
   exact aF (aG (⟨rfl, _, (oI h1).symm, .eq (by kernel_rfl), hO⟩))
  refine bX 1 ?_
  refine aO ?_
  refine aS aC 4 ?_
  obtain ⟨c5, h1⟩ := aZ h1
  refine sG 2 [0 ≤ t14 ∧ t14 < (lN t12)] ⟨c5, trivial⟩ ?_
  refine kY 2 (aK (aB.mk 0 0)) (by kernel_rfl) (by kernel_rfl) hO ?_
  intro lo6 H hO
  refine gY 0 lo6 2 0 (aK (aB.mk 0 0)) (aK (gD t12 t14)) [(aK (aB.mk 0 0))] [(lo6, 2, [(aK (gD t12 t14))])] hO rfl (by kernel_rfl) ?_
  intro H hO
  refine dG ?_
  refine bP [] [(7, (.lp lo6 0 0))] ?_
  refine aO ?_
  refine aS aC 12 ?_
  refine bI 1 ?_
  refine jJ 0 lo6 2 0 (aK (gD t12 t14)) (eI ((gD t12 t14).At)) [(aK (gD t12 t14))] hO rfl ?_
  refine bI 7 ?_
  refine rR [(23, true)] 0 lo6 2 0 (aK (gD t12 t14)) (eI ((gD t12 t14).At)) [(aK (gD t12 t14))] (by kernel_rfl) (by kernel_rfl) hO (by kernel_rfl) (decide (w3.From < ((gD t12 t14).At))) (by kernel_rfl) (fun hb7 => rfl) ?_
  refine bA ?_
  refine bP [] [(29, (aD ((decide (w3.From < ((gD t12 t14).At))) && (decide (((gD t12 t14).At) < w3.To)))))] ?_
  refine bK h1 (fun h1 => ?_) (fun h1 => ?_)
  ·refine aS aC 6 ?_
   refine bI 2 ?_
   refine jJ 0 lo6 2 0 (aK (gD t12 t14)) (eI ((gD t12 t14).Net)) [(aK (gD t12 t14))] hO rfl ?_
   refine bA ?_
   replace hO := hO.pick (L' := []) [] (by decide) (by kernel_rfl)
   exact aF (aV (aG (⟨rfl, _, .eq (by kernel_rfl), hO, h1⟩)))
  refine bN ?_
  replace hO := hO.pick (L' := []) [] (by decide) (by kernel_rfl)
  exact aF (aV (aG (⟨rfl, _, .eq (by kernel_rfl), hO, h1⟩)))
 refine gJ 0 ?_
 obtain rfl := oI h1
 obtain rfl : _ = rr0 := ho0
 replace h0 : xI n5 = some r := h0
 exact aF (aY (aY (bV (aG (⟨rfl, _, .eq (by kernel_rfl), hO, h0⟩)))))

theorem ZB (lm : Nat) (los : List (Nat × Nat)) (m : List (Int × aN)) (hl : los.length = m.length) (r : List aI) (f : List aB) (size hop frm front : Int) (out : Bool × List (Int × aN)) (h0 : wY m r f size hop frm front = some out) :
  aEB Try.prog 41 [(.mp lm), (eL aJ r), (eL aK f), (eI size), (eI hop), (eI frm), (eI front)] (pmG shP lm los m) [] (fun x M L => ∃ los' : List (Nat × Nat), los'.length = out.2.length ∧ x = aD out.1 ∧ M = pmG shP lm los' out.2 ∧ L = []) := by
 intro F H0 hO
 obtain ⟨Fh, Fe, Fg⟩ := F
 refine zN aC Try.func41 (by kernel_rfl) (by kernel_rfl) (by kernel_rfl) ?_
 unfold wY at h0
 refine aO ?_
 refine aS aC 8 ?_
 refine fT 1 (.mp lm) (by kernel_rfl) (by kernel_rfl) ?_
 refine fT 1 (eL aJ r) (by kernel_rfl) (by kernel_rfl) ?_
 refine fT 1 (eL aK f) (by kernel_rfl) (by kernel_rfl) ?_
 refine fT 1 (eI size) (by kernel_rfl) (by kernel_rfl) ?_
 refine fT 1 (eI hop) (by kernel_rfl) (by kernel_rfl) ?_
 refine fT 1 (eI frm) (by kernel_rfl) (by kernel_rfl) ?_
 refine fT 1 (eI front) (by kernel_rfl) (by kernel_rfl) ?_
 refine kY 1 (aD false) (by kernel_rfl) (by kernel_rfl) hO ?_
 intro lo1 H hO
 replace hO : aM ⟨Fh, Fe, pmG shP lm los m ++ Fg⟩ H [(lo1, 1, [(aD false)])] := hO
 refine dG ?_
 refine bD [(7, (.rp (.mp lm))), (8, (.rp (eL aJ r))), (9, (.rp (eL aK f))), (10, (.rp (eI size))), (11, (.rp (eI hop))), (12, (.rp (eI frm))), (13, (.rp (eI front))), (14, (.lp lo1 0 0))] ?_
 refine aO ?_
 refine aO ?_
 refine aS aC 2 ?_
 refine bI 1 ?_
 obtain ⟨x1, hx1, h0⟩ := aW h0
 refine cX (ZN f _ hx1) hO ?_
 intro H hO
 refine dG ?_
 refine bD [(7, (.rp (.mp lm))), (8, (.rp (eL aJ r))), (9, (.rp (eL aK f))), (10, (.rp (eI size))), (11, (.rp (eI hop))), (12, (.rp (eI frm))), (13, (.rp (eI front))), (14, (.lp lo1 0 0)), (20, (.fn (.func 73) [] [(.rp (eL aK x1))]))] ?_
 refine bX 0 ?_
 obtain ⟨o0, hl0, h0⟩ := aW h0
 refine wO (fid := 73) (ys := []) (cs := [(.rp (eL aK x1))]) #[21] (fun (A : rT) (b lL : Nat) (st : (Bool × List (Int × aN)) ⊕ (Bool × List (Int × aN))) (G' : Gs) => Sum.elim (fun (s : Bool × List (Int × aN)) => ∃ los : List (Nat × Nat), los.length = s.2.length ∧ G' = (lL, .raw (gQ b A .ready none)) :: (up [(lo1, 1, [(aD s.1)])] ++ (pmG shP lm los s.2 ++ Fg))) (fun (s : Bool × List (Int × aN)) => ∃ los : List (Nat × Nat), los.length = s.2.length ∧ G' = (lL, .raw (gQ b A .done (some .ret))) :: (up [(lo1, 1, [(aD s.1)])] ++ (pmG shP lm los s.2 ++ Fg))) st) (.inl (false, m)) o0 (.tup []) (by kernel_rfl) (by kernel_rfl) (by kernel_rfl) hO (fun _ _ => ⟨los, hl, rfl⟩) ?_ ?_
 ·intro b lL
  clear hO h0
  refine PJ _ b (fun st s => rnd (fun (q : Bool × List (Int × aN)) => qA r f size hop frm front q.1 q.2 s) st) ?_ x1 _ _ hl0
  intro st s21 out1 rr hr
  obtain ⟨s, rfl, h1, rfl⟩ := ID hr
  clear hr
  intro Hr Gr hi hg
  obtain ⟨t14, m1⟩ := s
  dsimp only [Sum.elim_inl] at hi
  obtain ⟨los1, hl1, rfl⟩ := hi
  replace h1 : qA r f size hop frm front t14 m1 s21 = some out1 := h1
  unfold qA at h1
  obtain ⟨E1, hE, hO⟩ := pE hg
  refine pF (uF (hO.gm 0 _ rfl).2 (by kernel_rfl) (by kernel_rfl) ?_)
  refine eD [(7, (.rp (.mp lm))), (8, (.rp (eL aJ r))), (9, (.rp (eL aK f))), (10, (.rp (eI size))), (11, (.rp (eI hop))), (12, (.rp (eI frm))), (13, (.rp (eI front))), (14, (.lp lo1 0 0)), (21, (cU s21))] ?_
  refine aS aC 2 ?_
  refine kY 2 (cU (bJ.mk 0 0)) (by kernel_rfl) (by kernel_rfl) hO ?_
  intro lo2 H hO
  refine gY 1 lo2 2 0 (cU (bJ.mk 0 0)) (cU s21) [(cU (bJ.mk 0 0))] [(lo1, 1, [(aD t14)]), (lo2, 2, [(cU s21)])] hO rfl (by kernel_rfl) ?_
  intro H hO
  refine dG ?_
  refine dP [(7, (.rp (.mp lm))), (8, (.rp (eL aJ r))), (9, (.rp (eL aK f))), (10, (.rp (eI size))), (11, (.rp (eI hop))), (12, (.rp (eI frm))), (13, (.rp (eI front))), (14, (.lp lo1 0 0)), (15, (.lp lo2 0 0))] ?_
  refine aF (⟨rfl, rfl, (hO.gm 0 _ rfl).2, ?_⟩)
  intro o1 ho1
  replace hO := hO.nI o1
  refine bX 1 ?_
  refine aO ?_
  refine aS aC 6 ?_
  refine bI 2 ?_
  refine jJ 1 lo2 2 0 (cU s21) (cU s21) [(cU s21)] hO rfl ?_
  refine bI 5 ?_
  obtain ⟨x2, hx2, h1⟩ := aW h1
  refine cX (YO size hop s21 frm front _ hx2) hO ?_
  intro H hO
  refine dG ?_
  refine bD [(7, (.rp (.mp lm))), (8, (.rp (eL aJ r))), (9, (.rp (eL aK f))), (10, (.rp (eI size))), (11, (.rp (eI hop))), (12, (.rp (eI frm))), (13, (.rp (eI front))), (14, (.lp lo1 0 0)), (27, (.fn (.func 74) [] [(.rp (eI x2.1)), (.rp (cU x2.2.1)), (.rp (eI x2.2.2.1)), (.rp (eI x2.2.2.2.1)), (.rp (eI x2.2.2.2.2))]))] ?_
  replace hO := hO.pick (L' := [(lo1, 1, [(aD t14)])]) [0] (by decide) (by kernel_rfl)
  refine bX 2 ?_
  obtain ⟨oi, hli, h1⟩ := aW h1
  refine aDG (fid := 74) (ys := []) (cs := [(.rp (eI x2.1)), (.rp (cU x2.2.1)), (.rp (eI x2.2.2.1)), (.rp (eI x2.2.2.2.1)), (.rp (eI x2.2.2.2.2))]) #[28] (fun (A2 : rT) (b2 lL2 : Nat) (st : (Bool × List (Int × aN)) ⊕ (Bool × List (Int × aN))) (G' : Gs) => Sum.elim (fun (s : Bool × List (Int × aN)) => ∃ los : List (Nat × Nat), los.length = s.2.length ∧ G' = (lL2, .raw (gQ b2 A2 .ready none)) :: (up [(lo1, 1, [(aD s.1)])] ++ ((lL, o1) :: (pmG shP lm los s.2 ++ Fg)))) (fun (s : Bool × List (Int × aN)) => ∃ los : List (Nat × Nat), los.length = s.2.length ∧ G' = (lL2, .raw (gQ b2 A2 .done (some .ret))) :: (up [(lo1, 1, [(aD s.1)])] ++ ((lL, o1) :: (pmG shP lm los s.2 ++ Fg)))) st) (.inl (t14, m1)) oi (.tup []) ((hO.gm 0 _ rfl).2.trans (congrArg some ho1)) (by kernel_rfl) (by kernel_rfl) (by kernel_rfl) hO (fun _ _ => ⟨los1, hl1, rfl⟩) ?_ ?_
  ·intro b2 lL2
   clear hO h1
   refine NR _ b2 (fun st t => rnd (fun (q : Bool × List (Int × aN)) => oC r f size q.1 q.2 t) st) ?_ x2.1 x2.2.1 x2.2.2.1 x2.2.2.2.1 x2.2.2.2.2 _ _ hli
   clear hE
   intro st t28 out2 rr hr
   obtain ⟨s, rfl, h2, rfl⟩ := ID hr
   clear hr
   intro Hr2 Gr2 hi hg2
   obtain ⟨t14, m2⟩ := s
   dsimp only [Sum.elim_inl] at hi
   obtain ⟨los2, hl2, rfl⟩ := hi
   replace h2 : oC r f size t14 m2 t28 = some out2 := h2
   unfold oC at h2
   obtain ⟨E2, hE2, hO⟩ := pE hg2
   refine pF (uF (hO.gm 0 _ rfl).2 (by kernel_rfl) (by kernel_rfl) ?_)
   refine eD [(7, (.rp (.mp lm))), (8, (.rp (eL aJ r))), (9, (.rp (eL aK f))), (10, (.rp (eI size))), (11, (.rp (eI hop))), (12, (.rp (eI frm))), (13, (.rp (eI front))), (14, (.lp lo1 0 0)), (28, (eI t28))] ?_
   refine aS aC 1 ?_
   refine bA ?_
   refine dP [(7, (.rp (.mp lm))), (8, (.rp (eL aJ r))), (9, (.rp (eL aK f))), (10, (.rp (eI size))), (11, (.rp (eI hop))), (12, (.rp (eI frm))), (13, (.rp (eI front))), (14, (.lp lo1 0 0)), (16, (eI t28))] ?_
   refine aF (⟨rfl, rfl, (hO.gm 0 _ rfl).2, ?_⟩)
   intro o2 ho2
   replace hO := hO.nI o2
   refine bX 3 ?_
   replace hO : aM ⟨Hr2, E2, (lm, pV sV (pmM los2 m2)) :: (up (pmL shP los2 m2) ++ ((lL2, o2) :: (lL, o1) :: Fg))⟩ _ [(lo1, 1, [(aD t14)])] := hO.qH (List.perm_middle.trans (List.Perm.cons _ List.perm_middle)).symm
   refine aO ?_
   refine aS aC 4 ?_
   refine bI 2 ?_
   refine WQ (f := sV) (mty := 79) (ok := false) aC t28 none hO ?_
   refine bA ?_
   refine bD [(7, (.rp (.mp lm))), (8, (.rp (eL aJ r))), (9, (.rp (eL aK f))), (10, (.rp (eI size))), (11, (.rp (eI hop))), (12, (.rp (eI frm))), (13, (.rp (eI front))), (14, (.lp lo1 0 0)), (16, (eI t28)), (17, (sV ((gK (pmM los2 m2) t28).getD none)))] ?_
   refine eR (fun T H => ∃ (a bb : Nat) (MM : List (Int × Option Nat)) (R : List (Nat × Nat × List V)) (p0 : aN), Has T [(7, (.rp (.mp lm))), (8, (.rp (eL aJ r))), (9, (.rp (eL aK f))), (10, (.rp (eI size))), (11, (.rp (eI hop))), (12, (.rp (eI frm))), (13, (.rp (eI front))), (14, (.lp lo1 0 0)), (17, (.lp a 0 0))] ∧ Put shP m2 t28 a MM R ∧ aM ⟨Hr2, E2, (lm, pV sV MM) :: (up R ++ ((lL2, o2) :: (lL, o1) :: Fg))⟩ H [(a, 3, [(.agg [(eI p0.Span.From), (eI p0.Span.To), (.msl 2 bb 0 (List.length p0.Rows))])]), (bb, 2, List.map bH p0.Rows), (lo1, 1, [(aD t14)])] ∧ ((pY r f p0).bind fun p => some (.inl (t14, fE m2 t28 p))) = some out2) ?_ ?_
   ·clear hO h2
    rintro T H ⟨a, bb, MM, R, p0, hT, hP, hO, h2⟩
    refine bF hT ?_
    clear hT
    obtain ⟨p1, hp, h2⟩ := aW h2
    have fin : ∀ (H : aU) (bb : Nat), aM ⟨Hr2, E2, (lm, pV sV MM) :: (up R ++ ((lL2, o2) :: (lL, o1) :: Fg))⟩ H (shP a bb p1 ++ [(lo1, 1, [(aD t14)])]) → ∃ los' : List (Nat × Nat), los'.length = (fE m2 t28 p1).length ∧ aM ⟨Hr2, E2, (lL2, o2) :: ((lL, o1) :: (pmG shP lm los' (fE m2 t28 p1) ++ Fg))⟩ H [(lo1, 1, [(aD t14)])] := by
     intro H bb hO
     obtain ⟨los', hl', hO⟩ := hO.aAM hP
     exact ⟨los', hl', hO.qH (List.perm_middle.trans (List.Perm.cons _ List.perm_middle))⟩
    unfold pY at hp
    refine aO ?_
    refine aS aC 7 ?_
    refine bI 3 ?_
    refine jJ 0 a 3 0 (.agg [(eI p0.Span.From), (eI p0.Span.To), (.msl 2 bb 0 (List.length p0.Rows))]) (.msl 2 bb 0 (List.length p0.Rows)) [(.agg [(eI p0.Span.From), (eI p0.Span.To), (.msl 2 bb 0 (List.length p0.Rows))])] hO rfl ?_
    refine bA ?_
    refine bD [(7, (.rp (.mp lm))), (8, (.rp (eL aJ r))), (9, (.rp (eL aK f))), (10, (.rp (eI size))), (11, (.rp (eI hop))), (12, (.rp (eI frm))), (13, (.rp (eI front))), (14, (.lp lo1 0 0)), (17, (.lp a 0 0)), (18, (eI (wR ((lN p0.Rows) - (1 : Int)))))] ?_
    refine aO ?_
    obtain ⟨c12, hp⟩ := aZ hp
    obtain ⟨x13, hx14, hp⟩ := aW hp
    refine fS (fR [65]) aC 15 ?_
    refine qV (K := fun T H => Has (lift T) [(7, (.rp (.mp lm))), (8, (.rp (eL aJ r))), (9, (.rp (eL aK f))), (10, (.rp (eI size))), (11, (.rp (eI hop))), (12, (.rp (eI frm))), (13, (.rp (eI front))), (14, (.lp lo1 0 0)), (17, (.lp a 0 0)), (18, (eI (wR ((lN p0.Rows) - (1 : Int))))), (68, (aD ((decide ((wR ((lN p0.Rows) - (1 : Int))) < (0 : Int))) || (!x13))))] ∧ aM ⟨Hr2, E2, (lm, pV sV MM) :: (up R ++ ((lL2, o2) :: (lL, o1) :: Fg))⟩ H [(a, 3, [(.agg [(eI p0.Span.From), (eI p0.Span.To), (.msl 2 bb 0 (List.length p0.Rows))])]), (bb, 2, List.map bH p0.Rows), (lo1, 1, [(aD t14)])]) ?_ ?_
    ·refine kJ 3 ?_
     refine pN (t := 56) (e := decide ((wR ((lN p0.Rows) - (1 : Int))) < (0 : Int))) (by kernel_rfl) (fun hg15 => ?_) (fun hg15 => ?_)
     ·refine kI ?_
      exact ⟨⟨[(7, (.rp (.mp lm))), (8, (.rp (eL aJ r))), (9, (.rp (eL aK f))), (10, (.rp (eI size))), (11, (.rp (eI hop))), (12, (.rp (eI frm))), (13, (.rp (eI front))), (14, (.lp lo1 0 0)), (17, (.lp a 0 0)), (18, (eI (wR ((lN p0.Rows) - (1 : Int))))), (68, (aD true))], by kernel_rfl, rfl, ⟨aR.refl _, aR.refl _, aR.refl _, aR.refl _, aR.refl _, aR.refl _, aR.refl _, aR.refl _, aR.refl _, aR.refl _, aR.eq (congrArg aD (by rw [hg15]; rfl)), trivial⟩⟩, hO⟩
     ·refine kJ 6 ?_
      refine iZ 0 a 3 0 (.agg [(eI p0.Span.From), (eI p0.Span.To), (.msl 2 bb 0 (List.length p0.Rows))]) (.msl 2 bb 0 (List.length p0.Rows)) [(.agg [(eI p0.Span.From), (eI p0.Span.To), (.msl 2 bb 0 (List.length p0.Rows))])] (by kernel_rfl) (by kernel_rfl) (by kernel_rfl) hO (by kernel_rfl) rfl ?_
      have c13 := c12 (by rw [hg15]; rfl)
      refine cJ 10 [0 ≤ (wR ((lN p0.Rows) - (1 : Int))) ∧ (wR ((lN p0.Rows) - (1 : Int))) < (lN p0.Rows)] ⟨c13, trivial⟩ ?_
      refine iZ 1 bb 2 (0 + Int.toNat (wR ((lN p0.Rows) - (1 : Int)))) (bH (gD p0.Rows (wR ((lN p0.Rows) - (1 : Int))))) (eL aJ ((gD p0.Rows (wR ((lN p0.Rows) - (1 : Int)))).Row)) (List.map bH p0.Rows) (by kernel_rfl) (by kernel_rfl) (by kernel_rfl) hO (by kernel_rfl) (cA c13) ?_
      refine kJ 12 ?_
      refine pO 62 [(eL aJ ((gD p0.Rows (wR ((lN p0.Rows) - (1 : Int)))).Row)), (eL aJ r)] (aD x13) (by kernel_rfl) (by kernel_rfl) (QS ((gD p0.Rows (wR ((lN p0.Rows) - (1 : Int)))).Row) r _ (jG hx14 (by rw [hg15]; rfl))) hO ?_
      intro H hO
      refine kI ?_
      exact ⟨⟨[(7, (.rp (.mp lm))), (8, (.rp (eL aJ r))), (9, (.rp (eL aK f))), (10, (.rp (eI size))), (11, (.rp (eI hop))), (12, (.rp (eI frm))), (13, (.rp (eI front))), (14, (.lp lo1 0 0)), (17, (.lp a 0 0)), (18, (eI (wR ((lN p0.Rows) - (1 : Int))))), (68, (aD (!x13)))], by kernel_rfl, rfl, ⟨aR.refl _, aR.refl _, aR.refl _, aR.refl _, aR.refl _, aR.refl _, aR.refl _, aR.refl _, aR.refl _, aR.refl _, aR.eq (congrArg aD (by rw [hg15]; rfl)), trivial⟩⟩, hO⟩
    ·rintro T H ⟨hT, hO⟩
     refine dJ hT ?_
     clear hT
     refine aF (aG ?_)
     refine bK hp (fun hp => ?_) (fun hp => ?_)
     ·obtain ⟨x15, hx15, hp⟩ := aW hp
      obtain ⟨x16, hx16, hp⟩ := aW hp
      obtain ⟨c17, hp⟩ := aZ hp
      refine fS (fR [74, 75, 76, 81, 83, 84]) aC 19 ?_
      refine kJ 4 ?_
      refine fY 0 a 3 0 (.agg [(eI p0.Span.From), (eI p0.Span.To), (.msl 2 bb 0 (List.length p0.Rows))]) (.msl 2 bb 0 (List.length p0.Rows)) [(.agg [(eI p0.Span.From), (eI p0.Span.To), (.msl 2 bb 0 (List.length p0.Rows))])] hO rfl ?_
      refine kJ 6 ?_
      refine AY (HL r _ hx15) hO ?_
      intro H hO
      refine kJ 11 ?_
      refine fY 0 a 3 0 (.agg [(eI p0.Span.From), (eI p0.Span.To), (.msl 2 bb 0 (List.length p0.Rows))]) (cU p0.Span) [(.agg [(eI p0.Span.From), (eI p0.Span.To), (.msl 2 bb 0 (List.length p0.Rows))])] hO rfl ?_
      refine AY (UH f p0.Span _ hx16) hO ?_
      intro H hO
      refine kJ 14 ?_
      refine VE (xs := [(bH (bB.mk x15 x16))]) (k := 2) (by kernel_rfl) (by kernel_rfl) ?_
      refine LL (e := bH) p0.Rows ([bB.mk x15 x16]) 1 bb 2 32 (fM [(bH (bB.mk x15 x16))]) (fun bc => [(a, 3, [(.agg [(eI p0.Span.From), (eI p0.Span.To), (.msl 2 bb 0 (List.length p0.Rows))])]), (bc, 2, List.map bH (p0.Rows ++ ([bB.mk x15 x16]))), (lo1, 1, [(aD t14)])]) (by kernel_rfl) (by kernel_rfl) hO (by kernel_rfl) (by kernel_rfl) c17 (fun _ => by kernel_rfl) ?_
      intro bc H hO
      refine kJ 18 ?_
      refine kZ 0 a 3 0 (.agg [(eI p0.Span.From), (eI p0.Span.To), (.msl 2 bb 0 (List.length p0.Rows))]) (.agg [(eI p0.Span.From), (eI p0.Span.To), (.msl 2 bc 0 (List.length (p0.Rows ++ ([bB.mk x15 x16]))))]) [(.agg [(eI p0.Span.From), (eI p0.Span.To), (.msl 2 bb 0 (List.length p0.Rows))])] [(a, 3, [(.agg [(eI p0.Span.From), (eI p0.Span.To), (.msl 2 bc 0 (List.length (p0.Rows ++ ([bB.mk x15 x16]))))])]), (bc, 2, List.map bH (p0.Rows ++ ([bB.mk x15 x16]))), (lo1, 1, [(aD t14)])] hO rfl (by kernel_rfl) ?_
      intro H hO
      refine nO (by kernel_rfl) ?_
      obtain rfl := oI hp
      refine dP [(7, (.rp (.mp lm))), (8, (.rp (eL aJ r))), (9, (.rp (eL aK f))), (10, (.rp (eI size))), (11, (.rp (eI hop))), (12, (.rp (eI frm))), (13, (.rp (eI front))), (14, (.lp lo1 0 0))] ?_
      obtain ⟨los', hl', hO⟩ := fin H bc hO
      obtain rfl := oI h2
      exact aF (aV (⟨(dA hO hE2 ho2 .dead).1, rfl, _, ⟨los', hl', rfl⟩, (dA hO hE2 ho2 _).2⟩))
     ·refine bN ?_
      obtain rfl := oI hp
      refine dP [(7, (.rp (.mp lm))), (8, (.rp (eL aJ r))), (9, (.rp (eL aK f))), (10, (.rp (eI size))), (11, (.rp (eI hop))), (12, (.rp (eI frm))), (13, (.rp (eI front))), (14, (.lp lo1 0 0))] ?_
      obtain ⟨los', hl', hO⟩ := fin H bb hO
      obtain rfl := oI h2
      exact aF (aV (⟨(dA hO hE2 ho2 .dead).1, rfl, _, ⟨los', hl', rfl⟩, (dA hO hE2 ho2 _).2⟩))
   cases hg : gK m2 t28 with
   | none =>
    rw [hg] at h2
    replace h2 : cond (decide ((lN m2) = (1024 : Int))) (some (.inr (false, m2))) ((pY r f (aN.mk (bJ.mk t28 (if (1125899906842624 : Int) < (wR (t28 + size)) then (1125899906842624 : Int) else (wR (t28 + size)))) [])).bind fun p => some (.inl (t14, fE m2 t28 p))) = some out2 := h2
    rw [aAF hg]
    refine eD [(7, (.rp (.mp lm))), (8, (.rp (eL aJ r))), (9, (.rp (eL aK f))), (10, (.rp (eI size))), (11, (.rp (eI hop))), (12, (.rp (eI frm))), (13, (.rp (eI front))), (14, (.lp lo1 0 0)), (16, (eI t28)), (17, (.lit (.pointer none)))] ?_
    refine aO ?_
    refine aS aC 2 ?_
    refine bI 1 ?_
    refine WW true ?_
    refine dG ?_
    refine bD [(7, (.rp (.mp lm))), (8, (.rp (eL aJ r))), (9, (.rp (eL aK f))), (10, (.rp (eI size))), (11, (.rp (eI hop))), (12, (.rp (eI frm))), (13, (.rp (eI front))), (14, (.lp lo1 0 0)), (16, (eI t28)), (33, (aD true))] ?_
    refine mQ (true) (fun hc => ?_) (fun hc => by cases hc)
    refine aO ?_
    refine aO ?_
    refine aS aC 3 ?_
    refine bI 1 ?_
    refine NN (mty := 79) hO ?_
    rw [RU hl2]
    refine bA ?_
    refine bD [(7, (.rp (.mp lm))), (8, (.rp (eL aJ r))), (9, (.rp (eL aK f))), (10, (.rp (eI size))), (11, (.rp (eI hop))), (12, (.rp (eI frm))), (13, (.rp (eI front))), (14, (.lp lo1 0 0)), (16, (eI t28)), (36, (aD (decide ((lN m2) = (1024 : Int)))))] ?_
    refine bK h2 (fun h2 => ?_) (fun h2 => ?_)
    ·refine aO ?_
     refine aS aC 1 ?_
     refine gY 0 lo1 1 0 (aD t14) (aD false) [(aD t14)] [(lo1, 1, [(aD false)])] hO rfl (by kernel_rfl) ?_
     intro H hO
     refine dG ?_
     refine bD [(14, (.lp lo1 0 0))] ?_
     refine bG ?_
     obtain rfl := oI h2
     replace hO : aM ⟨Hr2, E2, (lL2, o2) :: ((lL, o1) :: (pmG shP lm los2 m2 ++ Fg))⟩ H [(lo1, 1, [(aD false)])] := (show aM ⟨Hr2, E2, pmG shP lm los2 m2 ++ ((lL2, o2) :: (lL, o1) :: Fg)⟩ H [(lo1, 1, [(aD false)])] from hO).qH (List.perm_middle.trans (List.Perm.cons _ List.perm_middle))
     exact aF (aT (aT (bC (⟨(dA hO hE2 ho2 .dead).1, rfl, _, ⟨los2, hl2, rfl⟩, (dA hO hE2 ho2 _).2⟩))))
    refine bN ?_
    refine bD [(7, (.rp (.mp lm))), (8, (.rp (eL aJ r))), (9, (.rp (eL aK f))), (10, (.rp (eI size))), (11, (.rp (eI hop))), (12, (.rp (eI frm))), (13, (.rp (eI front))), (14, (.lp lo1 0 0)), (16, (eI t28))] ?_
    refine aO ?_
    refine aS aC 9 ?_
    refine bI 7 ?_
    refine kY 3 (.agg [(eI (bJ.mk t28 (if (1125899906842624 : Int) < (wR (t28 + size)) then (1125899906842624 : Int) else (wR (t28 + size)))).From), (eI (bJ.mk t28 (if (1125899906842624 : Int) < (wR (t28 + size)) then (1125899906842624 : Int) else (wR (t28 + size)))).To), (.sl true 0 (fun _ => .bad))]) (by kernel_rfl) (by kernel_rfl) hO ?_
    intro lo3 H hO
    refine bA ?_
    refine aCt 1 3 lo3 2 2 [(eI (bJ.mk t28 (if (1125899906842624 : Int) < (wR (t28 + size)) then (1125899906842624 : Int) else (wR (t28 + size)))).From), (eI (bJ.mk t28 (if (1125899906842624 : Int) < (wR (t28 + size)) then (1125899906842624 : Int) else (wR (t28 + size)))).To), (.sl true 0 (fun _ => .bad))] (fun _ => .bad) (fun lo4 => [(lo1, 1, [(aD t14)]), (lo3, 3, [(.agg [(eI (bJ.mk t28 (if (1125899906842624 : Int) < (wR (t28 + size)) then (1125899906842624 : Int) else (wR (t28 + size)))).From), (eI (bJ.mk t28 (if (1125899906842624 : Int) < (wR (t28 + size)) then (1125899906842624 : Int) else (wR (t28 + size)))).To), (.msl 2 lo4 0 0)])]), (lo4, 2, [])]) hO (by kernel_rfl) (by kernel_rfl) (fun _ => by kernel_rfl) ?_
    intro lo4 H hO
    refine bD [(7, (.rp (.mp lm))), (8, (.rp (eL aJ r))), (9, (.rp (eL aK f))), (10, (.rp (eI size))), (11, (.rp (eI hop))), (12, (.rp (eI frm))), (13, (.rp (eI front))), (14, (.lp lo1 0 0)), (16, (eI t28)), (17, (.lp lo3 0 0))] ?_
    refine aS aC 4 ?_
    refine bI 3 ?_
    refine NV (f := sV) (mty := 79) t28 (some lo3) hO ?_
    intro H hO
    refine dG ?_
    replace hO := hO.pick (L' := [(lo3, 3, [(.agg [(eI (bJ.mk t28 (if (1125899906842624 : Int) < (wR (t28 + size)) then (1125899906842624 : Int) else (wR (t28 + size)))).From), (eI (bJ.mk t28 (if (1125899906842624 : Int) < (wR (t28 + size)) then (1125899906842624 : Int) else (wR (t28 + size)))).To), (.msl 2 lo4 0 0)])]), (lo4, 2, []), (lo1, 1, [(aD t14)])]) [1, 2, 0] (by decide) (by kernel_rfl)
    exact aF (aG ⟨rfl, lo3, lo4, _, _, (aN.mk (bJ.mk t28 (if (1125899906842624 : Int) < (wR (t28 + size)) then (1125899906842624 : Int) else (wR (t28 + size)))) []), .eq (by kernel_rfl), aDj hl2 hg, hO, h2⟩)
   | some p0 =>
    rw [hg] at h2
    obtain ⟨a, bb, R, e1, hP, hO⟩ := aM.focus (sh := shP) (los := los2) (m := m2) (G := (lL2, o2) :: (lL, o1) :: Fg) hO hl2 hg
    rw [e1]
    refine eD [(7, (.rp (.mp lm))), (8, (.rp (eL aJ r))), (9, (.rp (eL aK f))), (10, (.rp (eI size))), (11, (.rp (eI hop))), (12, (.rp (eI frm))), (13, (.rp (eI front))), (14, (.lp lo1 0 0)), (16, (eI t28)), (17, (.lp a 0 0))] ?_
    refine aO ?_
    refine aS aC 2 ?_
    refine bI 1 ?_
    refine WW false ?_
    refine dG ?_
    refine bD [(7, (.rp (.mp lm))), (8, (.rp (eL aJ r))), (9, (.rp (eL aK f))), (10, (.rp (eI size))), (11, (.rp (eI hop))), (12, (.rp (eI frm))), (13, (.rp (eI front))), (14, (.lp lo1 0 0)), (16, (eI t28)), (17, (.lp a 0 0)), (33, (aD false))] ?_
    refine mQ (false) (fun hc => by cases hc) (fun hc => ?_)
    refine bN ?_
    exact aF (aG ⟨rfl, a, bb, _, R, p0, .eq (by kernel_rfl), hP, hO, h2⟩)
  ·intro b2 lL2 H' G' hi hO
   rcases oi with s | s
   ·dsimp only [Sum.elim_inl] at hi
    obtain ⟨los2, hl2, rfl⟩ := hi
    obtain rfl := oI h1
    obtain ⟨hlL, hO⟩ := MF hO
    refine ⟨_, _, hlL, (by intro e; cases e), ?_⟩
    refine dP [(7, (.rp (.mp lm))), (8, (.rp (eL aJ r))), (9, (.rp (eL aK f))), (10, (.rp (eI size))), (11, (.rp (eI hop))), (12, (.rp (eI frm))), (13, (.rp (eI front))), (14, (.lp lo1 0 0))] ?_
    exact aF (aV (aV (⟨(dA hO hE ho1 .dead).1, rfl, _, ⟨los2, hl2, rfl⟩, (dA hO hE ho1 _).2⟩)))
   ·dsimp only [Sum.elim_inr] at hi
    obtain ⟨los2, hl2, rfl⟩ := hi
    obtain rfl := oI h1
    obtain ⟨hlL, hO⟩ := MF hO
    refine ⟨_, _, hlL, (by intro e; cases e), ?_⟩
    refine bG ?_
    exact aF (bC (bC (⟨(dA hO hE ho1 .dead).1, rfl, _, ⟨los2, hl2, rfl⟩, (dA hO hE ho1 _).2⟩)))
 ·intro b lD lL H' G' hi hO
  rcases o0 with s | s
  ·dsimp only [Sum.elim_inl] at hi
   obtain ⟨los1, hl1, rfl⟩ := hi
   obtain rfl := oI h0
   obtain ⟨hlL, hO⟩ := mB hO
   refine ⟨_, _, hlL, (by intro e; cases e), ?_⟩
   refine dP [(14, (.lp lo1 0 0))] ?_
   refine aF (aV (aG (?_)))
   refine aO ?_
   refine aS aC 1 ?_
   refine gY 0 lo1 1 0 (aD s.1) (aD true) [(aD s.1)] [(lo1, 1, [(aD true)])] hO rfl (by kernel_rfl) ?_
   intro H hO
   refine dG ?_
   refine bD [(14, (.lp lo1 0 0))] ?_
   refine bG ?_
   have hD := (hO.gm 0 _ rfl).2
   replace hO := (hO.nI .dead).nM
   exact aF (QM1 (.inr rfl) hD (rs := [.cell 14 4]) (xs := [(aD true)]) (x := (aD true)) (by kernel_rfl) (lR (lo := lo1) (k := 1) (y := (aD true)) (x := (aD true)) 0 hO (by kernel_rfl) (by kernel_rfl) (by kernel_rfl) (by kernel_rfl) mY) (by kernel_rfl) ⟨_, [], ⟨los1, hl1, rfl, rfl, rfl⟩, hO.pick (L' := []) [] (by decide) (by kernel_rfl)⟩)
  ·dsimp only [Sum.elim_inr] at hi
   obtain ⟨los1, hl1, rfl⟩ := hi
   obtain rfl := oI h0
   obtain ⟨hlL, hO⟩ := mB hO
   refine ⟨_, _, hlL, (by intro e; cases e), ?_⟩
   refine bG ?_
   refine aF (bC (aT ?_))
   have hD := (hO.gm 0 _ rfl).2
   replace hO := (hO.nI .dead).nM
   exact QM1 (.inr rfl) hD (rs := [.cell 14 4]) (xs := [(aD s.1)]) (x := (aD s.1)) (by kernel_rfl) (lR (lo := lo1) (k := 1) (y := (aD s.1)) (x := (aD s.1)) 0 hO (by kernel_rfl) (by kernel_rfl) (by kernel_rfl) (by kernel_rfl) mY) (by kernel_rfl) ⟨_, [], ⟨los1, hl1, rfl, rfl, rfl⟩, hO.pick (L' := []) [] (by decide) (by kernel_rfl)⟩

end Go.Abs
