/- What the law HopForgets stands on: the framework, the given functions as plain functions, their walks, and the plain laws; part 4. -/
import Derived.Test.YteecjdpicjpnfaaHopForgetsZ3
set_option linter.unusedSimpArgs false
set_option linter.unusedVariables false
namespace Go.Abs
open Go Go.RowKit Go.Proofs
theorem tN (lo0p : Nat) (aA : (List Int)) (a1 : Int) (b2 : Int) (r : List Int) (h0 : gJ aA a1 b2 = some r) : mS Try.prog 80 lo0p 1 (List.map (eI) aA) (List.map (eI) r) [(.msl 1 lo0p 0 (List.length aA)), (eI a1), (eI b2)] (.tup []) := by
  intro H0 hl0
  refine dL Try.func80 ?_
  have hO := aK.qX hl0
  clear hl0
  obtain ⟨N0, hN0⟩ : ∃ n, n = List.length aA := ⟨_, rfl⟩
  have hN : List.length aA = N0 := hN0.symm
  unfold gJ at h0
  refine aW aD 4 [2] [(6, (eI (wR (b2 - a1))))] ?_
  refine aW aD 2 [] [(15, (aC (decide ((8 : Int) ≤ (wR (b2 - a1))))))] ?_
  refine bQ h0 (fun h0 => ?_) (fun h0 => ?_)
  · refine aM ?_
    refine aS aD 4 ?_
    refine bN 2 ?_
    refine jS 1 (cR .u64 0) (by kernel_rfl) (by kernel_rfl) hO ?_
    intro lo2 H hO
    refine fX 1 lo2 1 0 (cR .u64 0) (cR .u64 (IntKind.u64.wrap (wR (b2 - a1)))) [(cR .u64 0)] [(lo0p, 1, List.map (eI) aA), (lo2, 1, [(cR .u64 (IntKind.u64.wrap (wR (b2 - a1))))])] hO rfl (by kernel_rfl) ?_
    intro H hO
    refine dK ?_
    refine bU [15] [(7, (.lp lo2 0 0))] ?_
    refine aM ?_
    refine aS aD 3 ?_
    refine bN 1 ?_
    obtain ⟨x3, hx4, h0⟩ := aV h0
    refine dX (zN (wR (b2 - a1)) _ hx4) hO ?_
    intro H hO
    refine bA ?_
    refine bU [] [(8, (cR .u64 x3))] ?_
    refine aM ?_
    refine aS aD 7 ?_
    obtain ⟨c6, h0⟩ := aZ h0
    refine rR [(4 : Int) ≠ 0] ⟨c6, trivial⟩ ?_
    refine bC [(0, (.msl 1 lo0p 0 (List.length aA))), (1, (eI a1)), (6, (eI (wR (b2 - a1)))), (7, (.lp lo2 0 0)), (8, (cR .u64 x3)), (9, (eI (wR ((wR (a1 + (wR ((wR (Int.tdiv (wR (b2 - a1)) (4 : Int))) * (2 : Int))))) - (1 : Int)))))] ?_
    refine cC 0 ?_
    refine fQ [(0, (.msl 1 lo0p 0 (List.length aA))), (1, (eI a1)), (6, (eI (wR (b2 - a1)))), (7, (.lp lo2 0 0)), (8, (cR .u64 x3)), (9, (eI (wR ((wR (a1 + (wR ((wR (Int.tdiv (wR (b2 - a1)) (4 : Int))) * (2 : Int))))) - (1 : Int)))))] ?_
    refine fV (fun T H => ∃ aA : List Int, ∃ jP : Int, ∃ lB : Int, ∃ iM : Int, ∃ idx9 : Int, Has T [(0, (.msl 1 lo0p 0 (List.length aA))), (1, (eI a1)), (6, (eI jP)), (7, (.lp lo2 0 0)), (8, (cR .u64 iM)), (9, (eI idx9))] ∧ aK ⟨H0, [lo0p], []⟩ H [(lo0p, 1, List.map (eI) aA), (lo2, 1, [(cR .u64 lB)])] ∧ List.length aA = N0 ∧ jA aA a1 jP lB iM idx9 = some r) ?_ ⟨aA, wR (b2 - a1), IntKind.u64.wrap (wR (b2 - a1)), x3, wR ((wR (a1 + (wR ((wR (Int.tdiv (wR (b2 - a1)) (4 : Int))) * (2 : Int))))) - (1 : Int)), .eq (by kernel_rfl), hO, hN, h0⟩
    clear hO hN h0
    rintro T H ⟨aA, jP, lB, iM, idx9, hT, hO, hN, h0⟩
    refine bK hT ?_
    clear hT
    unfold jA at h0
    obtain ⟨rr0, hl0, h0⟩ := aV h0
    refine dV (by kernel_rfl) (fun (s : List Int × Int × Int) T H => Has T [(0, (.msl 1 lo0p 0 (List.length s.1))), (1, (eI a1)), (6, (eI jP)), (7, (.lp lo2 0 0)), (8, (cR .u64 iM)), (9, (eI s.2.2))] ∧ aK ⟨H0, [lo0p], []⟩ H [(lo0p, 1, List.map (eI) s.1), (lo2, 1, [(cR .u64 s.2.1)])] ∧ List.length s.1 = N0) hl0 ⟨.eq (by kernel_rfl), hO, hN⟩ ?_
    clear hO hN
    rintro k0 s out1 T H ⟨hT, hO, hN⟩ h1 ho0
    obtain ⟨aA, lB, idx9⟩ := s
    replace h1 : cS a1 jP iM aA lB idx9 = some out1 := h1
    try dsimp only at hT
    refine bK hT ?_
    clear hT
    unfold cS at h1
    refine aM ?_
    refine aM ?_
    refine aS aD 8 ?_
    obtain ⟨c7, h1⟩ := aZ h1
    refine rR [(4 : Int) ≠ 0] ⟨c7, trivial⟩ ?_
    refine bU [] [(33, (aC (decide (idx9 ≤ (wR ((wR (a1 + (wR ((wR (Int.tdiv jP (4 : Int))) * (2 : Int))))) + (1 : Int)))))))] ?_
    refine bQ h1 (fun h1 => ?_) (fun h1 => ?_)
    · refine bR ?_
      refine bC [(0, (.msl 1 lo0p 0 (List.length aA))), (1, (eI a1)), (6, (eI jP)), (7, (.lp lo2 0 0)), (8, (cR .u64 iM)), (9, (eI idx9))] ?_
      refine aM ?_
      refine cC 1 ?_
      refine aM ?_
      refine aS aD 6 ?_
      obtain ⟨x9, hx10, h1⟩ := aV h1
      refine AB [(lo0p, 1, List.map (eI) aA)] [1, 0] (AD lo2 lB _ hx10) hO ?_
      intro r11 L12 H hP13 hO
      obtain ⟨rfl, rfl⟩ := hP13
      replace hO : aK ⟨H0, [lo0p], []⟩ H [(lo2, 1, [(cR .u64 x9.2)]), (lo0p, 1, List.map (eI) aA)] := hO
      refine bA ?_
      replace hO := hO.pick (L' := [(lo0p, 1, List.map (eI) aA), (lo2, 1, [(cR .u64 x9.2)])]) [1, 0] (by decide) (by kernel_rfl)
      refine bU [] [(10, (eI (wR (bM .and .u64 x9.1 (IntKind.u64.wrap (iM - (1 : Int)))))))] ?_
      refine iI (fun T H => ∃ aA : List Int, ∃ lB : Int, ∃ fI : Int, Has T [(0, (.msl 1 lo0p 0 (List.length aA))), (1, (eI a1)), (6, (eI jP)), (7, (.lp lo2 0 0)), (8, (cR .u64 iM)), (9, (eI idx9)), (10, (eI fI))] ∧ aK ⟨H0, [lo0p], []⟩ H [(lo0p, 1, List.map (eI) aA), (lo2, 1, [(cR .u64 lB)])] ∧ List.length aA = N0 ∧ eS aA a1 jP lB iM idx9 fI = some out1) ?_ ?_
      · clear hO hN h1
        rintro T H ⟨aA, lB, fI, hT, hO, hN, h1⟩
        refine bK hT ?_
        clear hT
        unfold eS at h1
        refine gI (gH []) aD 20 ?_
        obtain ⟨c14, h1⟩ := aZ h1
        refine cH 11 [0 ≤ (wR (a1 + fI)) ∧ (wR (a1 + fI)) < (lN aA)] ⟨c14, trivial⟩ ?_
        refine gW 0 lo0p 1 (0 + Int.toNat (wR (a1 + fI))) (eI (gD aA (wR (a1 + fI)))) (eI (gD aA (wR (a1 + fI)))) (List.map (eI) aA) hO (bW c14) ?_
        obtain ⟨c15, h1⟩ := aZ h1
        refine cH 15 [0 ≤ idx9 ∧ idx9 < (lN aA)] ⟨c15, trivial⟩ ?_
        refine gW 0 lo0p 1 (0 + Int.toNat idx9) (eI (gD aA idx9)) (eI (gD aA idx9)) (List.map (eI) aA) hO (bW c15) ?_
        obtain ⟨c16, h1⟩ := aZ h1
        refine cH 17 [0 ≤ idx9 ∧ idx9 < (lN aA)] ⟨c16, trivial⟩ ?_
        refine kP 0 lo0p 1 (0 + Int.toNat idx9) (eI (gD aA idx9)) (eI (gD aA (wR (a1 + fI)))) (List.map (eI) aA) [(lo0p, 1, List.map (eI) (List.set aA (Int.toNat idx9) (gD aA (wR (a1 + fI))))), (lo2, 1, [(cR .u64 lB)])] hO (bW c16) (by simp only [List.set, hU]) ?_
        intro H hO
        replace hN : List.length (List.set aA (Int.toNat idx9) (gD aA (wR (a1 + fI)))) = N0 := by simpa using hN
        obtain ⟨c17, h1⟩ := aZ h1
        refine cH 19 [0 ≤ (wR (a1 + fI)) ∧ (wR (a1 + fI)) < (lN aA)] ⟨c17, trivial⟩ ?_
        refine kP 0 lo0p 1 (0 + Int.toNat (wR (a1 + fI))) (eI (gD (List.set aA (Int.toNat idx9) (gD aA (wR (a1 + fI)))) (wR (a1 + fI)))) (eI (gD aA idx9)) (List.map (eI) (List.set aA (Int.toNat idx9) (gD aA (wR (a1 + fI))))) [(lo0p, 1, List.map (eI) (List.set (List.set aA (Int.toNat idx9) (gD aA (wR (a1 + fI)))) (Int.toNat (wR (a1 + fI))) (gD aA idx9))), (lo2, 1, [(cR .u64 lB)])] hO (mN c17 (by simp [])) (by simp only [List.set, hU]) ?_
        intro H hO
        replace hN : List.length (List.set (List.set aA (Int.toNat idx9) (gD aA (wR (a1 + fI)))) (Int.toNat (wR (a1 + fI))) (gD aA idx9)) = N0 := by simpa using hN
        refine nC (by kernel_rfl) ?_
        refine eD (l := [(0, (.msl 1 lo0p 0 (List.length (List.set (List.set aA (Int.toNat idx9) (gD aA (wR (a1 + fI)))) (Int.toNat (wR (a1 + fI))) (gD aA idx9))))), (1, (eI a1)), (6, (eI jP)), (7, (.lp lo2 0 0)), (8, (cR .u64 iM)), (9, (eI idx9))]) ⟨[(0, (.msl 1 lo0p 0 (List.length aA))), (1, (eI a1)), (6, (eI jP)), (7, (.lp lo2 0 0)), (8, (cR .u64 iM)), (9, (eI idx9))], by kernel_rfl, rfl, ⟨aN.eq (by simp []), aN.refl _, aN.refl _, aN.refl _, aN.refl _, aN.refl _, trivial⟩⟩ ?_
        refine aF (aX (aJ (?_)))
        refine aS aD 3 ?_
        refine bA ?_
        exact aF (aJ (⟨rfl, _, (oI h1).symm, .eq (by kernel_rfl), hO, hN⟩))
      refine aW aD 3 [] [(43, (aC (decide (jP ≤ (wR (bM .and .u64 x9.1 (IntKind.u64.wrap (iM - (1 : Int)))))))))] ?_
      refine bQ h1 (fun h1 => ?_) (fun h1 => ?_)
      · refine aS aD 4 ?_
        refine bA ?_
        exact aF (aJ (⟨rfl, _, _, _, .eq (by kernel_rfl), hO, hN, h1⟩))
      refine bR ?_
      exact aF (aJ (⟨rfl, _, _, _, .eq (by kernel_rfl), hO, hN, h1⟩))
    refine jD 0 ?_
    replace hO := hO.pick (L' := [(lo0p, 1, List.map (eI) aA)]) [0] (by decide) (by kernel_rfl)
    obtain rfl := oI h1
    obtain rfl : _ = rr0 := ho0
    replace h0 : some aA = some r := h0
    obtain rfl := oI h0
    exact aF (aY (aY (cD (vW (x := (.tup [])) (by kernel_rfl) (aN.refl _) ⟨rfl, hO.ext, hO.at 0 (by kernel_rfl), by first | rfl | (simp only [List.length_map]; exact hN.trans hN0)⟩))))
  refine bR ?_
  obtain rfl := oI h0
  exact aF (vW (x := (.tup [])) (by kernel_rfl) (aN.refl _) ⟨rfl, hO.ext, hO.at 0 (by kernel_rfl), by first | rfl | (simp only [List.length_map]; exact hN.trans hN0)⟩)

theorem nF (lo0p : Nat) (aA : (List Int)) (a1 : Int) (b2 : Int) (lo3p : Nat) (qZ : Int) (r : ((Int × Int) × Int)) (h0 : fS aA a1 b2 qZ = some r) : yC Try.prog 109 [(.msl 1 lo0p 0 (List.length aA)), (eI a1), (eI b2), (.lp lo3p 0 0)] [(lo0p, 1, List.map (eI) aA), (lo3p, 1, [(eI qZ)])] (fun x L => x = (.tup [(eI r.1.1), (eI r.1.2)]) ∧ L = [(lo0p, 1, List.map (eI) aA), (lo3p, 1, [(eI r.2)])]) := by
  intro F H0 hO
  obtain ⟨Fh, Fe, Fg⟩ := F
  refine dL Try.func109 ?_
  unfold fS at h0
  refine aW aD 2 [] [] ?_
  refine aM ?_
  refine aM ?_
  refine gI (gH [18]) aD 9 ?_
  obtain ⟨c1, h0⟩ := aZ h0
  refine cH 3 [0 ≤ b2 ∧ b2 < (lN aA)] ⟨c1, trivial⟩ ?_
  refine gW 0 lo0p 1 (0 + Int.toNat b2) (eI (gD aA b2)) (eI (gD aA b2)) (List.map (eI) aA) hO (bW c1) ?_
  obtain ⟨c2, h0⟩ := aZ h0
  refine cH 7 [0 ≤ a1 ∧ a1 < (lN aA)] ⟨c2, trivial⟩ ?_
  refine gW 0 lo0p 1 (0 + Int.toNat a1) (eI (gD aA a1)) (eI (gD aA a1)) (List.map (eI) aA) hO (bW c2) ?_
  obtain ⟨x3, hx4, h0⟩ := aV h0
  refine yZ (fJ (gD aA b2) (gD aA a1) _ hx4) hO ?_
  intro H hO
  refine nC (by kernel_rfl) ?_
  refine bU [] [(18, (aC x3))] ?_
  refine bQ h0 (fun h0 => ?_) (fun h0 => ?_)
  · refine aM ?_
    refine aS aD 6 ?_
    refine bN 2 ?_
    refine mO 1 lo3p 1 0 (eI qZ) (eI qZ) [(eI qZ)] hO rfl ?_
    refine bN 5 ?_
    refine fX 1 lo3p 1 0 (eI qZ) (eI (wR (qZ + (1 : Int)))) [(eI qZ)] [(lo0p, 1, List.map (eI) aA), (lo3p, 1, [(eI (wR (qZ + (1 : Int))))])] hO rfl (by kernel_rfl) ?_
    intro H hO
    refine dK ?_
    refine bU [18] [] ?_
    refine aW aD 4 [1, 2] [(8, (eI b2)), (9, (eI a1))] ?_
    refine bI ?_
    obtain rfl := oI h0
    exact aF (aR (EH hO ⟨rfl, rfl⟩))
  refine bR ?_
  refine bC [(0, (.msl 1 lo0p 0 (List.length aA))), (1, (eI a1)), (2, (eI b2)), (3, (.lp lo3p 0 0))] ?_
  refine aW aD 4 [1, 2] [(8, (eI a1)), (9, (eI b2))] ?_
  refine bI ?_
  obtain rfl := oI h0
  exact aF (EH hO ⟨rfl, rfl⟩)

theorem rA (lo0p : Nat) (aA : (List Int)) (a1 : Int) (b2 : Int) (c3 : Int) (lo4p : Nat) (DB : Int) (r : (Int × Int)) (h0 : iE aA a1 b2 c3 DB = some r) : yC Try.prog 104 [(.msl 1 lo0p 0 (List.length aA)), (eI a1), (eI b2), (eI c3), (.lp lo4p 0 0)] [(lo0p, 1, List.map (eI) aA), (lo4p, 1, [(eI DB)])] (fun x L => x = (eI r.1) ∧ L = [(lo0p, 1, List.map (eI) aA), (lo4p, 1, [(eI r.2)])]) := by
  intro F H0 hO
  obtain ⟨Fh, Fe, Fg⟩ := F
  refine dL Try.func104 ?_
  unfold iE at h0
  refine aW aD 1 [] [] ?_
  refine aM ?_
  refine aS aD 10 ?_
  refine bN 4 ?_
  obtain ⟨x1, hx2, h0⟩ := aV h0
  refine AB [] [0, 1] (nF lo0p aA a1 b2 lo4p DB _ hx2) hO ?_
  intro r3 L4 H hP5 hO
  obtain ⟨rfl, rfl⟩ := hP5
  replace hO : aK ⟨Fh, Fe, Fg⟩ H [(lo0p, 1, List.map (eI) aA), (lo4p, 1, [(eI x1.2)])] := hO
  refine bA ?_
  refine bU [1, 2] [(1, (eI x1.1.1)), (2, (eI x1.1.2))] ?_
  refine aM ?_
  refine aS aD 10 ?_
  refine bN 4 ?_
  obtain ⟨x6, hx7, h0⟩ := aV h0
  refine AB [] [0, 1] (nF lo0p aA x1.1.2 c3 lo4p x1.2 _ hx7) hO ?_
  intro r8 L9 H hP10 hO
  obtain ⟨rfl, rfl⟩ := hP10
  replace hO : aK ⟨Fh, Fe, Fg⟩ H [(lo0p, 1, List.map (eI) aA), (lo4p, 1, [(eI x6.2)])] := hO
  refine bA ?_
  refine bU [2, 3] [(2, (eI x6.1.1))] ?_
  refine aM ?_
  refine aS aD 10 ?_
  refine bN 4 ?_
  obtain ⟨x11, hx12, h0⟩ := aV h0
  refine AB [] [0, 1] (nF lo0p aA x1.1.1 x6.1.1 lo4p x6.2 _ hx12) hO ?_
  intro r13 L14 H hP15 hO
  obtain ⟨rfl, rfl⟩ := hP15
  replace hO : aK ⟨Fh, Fe, Fg⟩ H [(lo0p, 1, List.map (eI) aA), (lo4p, 1, [(eI x11.2)])] := hO
  refine bA ?_
  refine bU [1, 2] [(2, (eI x11.1.2))] ?_
  refine cJ aD 2 [(0, (.msl 1 lo0p 0 (List.length aA))), (4, (.lp lo4p 0 0)), (10, (eI x11.1.2))] ?_
  refine bI ?_
  obtain rfl := oI h0
  exact aF (EH hO ⟨rfl, rfl⟩)

theorem kU (lo0p : Nat) (aA : (List Int)) (a1 : Int) (lo2p : Nat) (DM : Int) (r : (Int × Int)) (h0 : dS aA a1 DM = some r) : yC Try.prog 103 [(.msl 1 lo0p 0 (List.length aA)), (eI a1), (.lp lo2p 0 0)] [(lo0p, 1, List.map (eI) aA), (lo2p, 1, [(eI DM)])] (fun x L => x = (eI r.1) ∧ L = [(lo0p, 1, List.map (eI) aA), (lo2p, 1, [(eI r.2)])]) := by
  intro F H0 hO
  obtain ⟨Fh, Fe, Fg⟩ := F
  refine dL Try.func103 ?_
  unfold dS at h0
  refine aW aD 1 [] [] ?_
  refine aM ?_
  refine aS aD 9 ?_
  refine bN 7 ?_
  obtain ⟨x1, hx2, h0⟩ := aV h0
  refine AB [] [0, 1] (rA lo0p aA (wR (a1 - (1 : Int))) a1 (wR (a1 + (1 : Int))) lo2p DM _ hx2) hO ?_
  intro r3 L4 H hP5 hO
  obtain ⟨rfl, rfl⟩ := hP5
  replace hO : aK ⟨Fh, Fe, Fg⟩ H [(lo0p, 1, List.map (eI) aA), (lo2p, 1, [(eI x1.2)])] := hO
  refine bA ?_
  refine bU [1] [(6, (eI x1.1))] ?_
  refine bI ?_
  obtain rfl := oI h0
  exact aF (EH hO ⟨rfl, rfl⟩)

theorem uZ (lo0p : Nat) (aA : (List Int)) (a1 : Int) (b2 : Int) (r : (Int × Int)) (h0 : hY aA a1 b2 = some r) : yC Try.prog 81 [(.msl 1 lo0p 0 (List.length aA)), (eI a1), (eI b2)] [(lo0p, 1, List.map (eI) aA)] (fun x L => x = (.tup [(eI r.1), (eI r.2)]) ∧ L = [(lo0p, 1, List.map (eI) aA)]) := by
  intro F H0 hO
  obtain ⟨Fh, Fe, Fg⟩ := F
  refine dL Try.func81 ?_
  unfold hY at h0
  refine aW aD 2 [] [] ?_
  refine aW aD 4 [2] [(8, (eI (wR (b2 - a1))))] ?_
  refine aM ?_
  refine aS aD 1 ?_
  refine jS 1 (eI 0) (by kernel_rfl) (by kernel_rfl) hO ?_
  intro lo1 H hO
  refine dK ?_
  refine bU [] [(9, (.lp lo1 0 0))] ?_
  refine aM ?_
  refine aS aD 6 ?_
  obtain ⟨c2, h0⟩ := aZ h0
  refine rR [(4 : Int) ≠ 0] ⟨c2, trivial⟩ ?_
  refine bU [] [(10, (eI (wR (a1 + (wR ((wR (Int.tdiv (wR (b2 - a1)) (4 : Int))) * (1 : Int)))))))] ?_
  refine aM ?_
  refine aS aD 6 ?_
  obtain ⟨c3, h0⟩ := aZ h0
  refine rR [(4 : Int) ≠ 0] ⟨c3, trivial⟩ ?_
  refine bC [(0, (.msl 1 lo0p 0 (List.length aA))), (1, (eI a1)), (8, (eI (wR (b2 - a1)))), (9, (.lp lo1 0 0)), (10, (eI (wR (a1 + (wR ((wR (Int.tdiv (wR (b2 - a1)) (4 : Int))) * (1 : Int))))))), (11, (eI (wR (a1 + (wR ((wR (Int.tdiv (wR (b2 - a1)) (4 : Int))) * (2 : Int)))))))] ?_
  refine aM ?_
  refine aS aD 6 ?_
  obtain ⟨c4, h0⟩ := aZ h0
  refine rR [(4 : Int) ≠ 0] ⟨c4, trivial⟩ ?_
  refine bU [1] [(12, (eI (wR (a1 + (wR ((wR (Int.tdiv (wR (b2 - a1)) (4 : Int))) * (3 : Int)))))))] ?_
  refine iI (fun T H => ∃ lT : Int, ∃ j11 : Int, Has T [(0, (.msl 1 lo0p 0 (List.length aA))), (9, (.lp lo1 0 0)), (11, (eI j11))] ∧ aK ⟨Fh, Fe, Fg⟩ H [(lo0p, 1, List.map (eI) aA), (lo1, 1, [(eI lT)])] ∧ fB aA lT j11 = some r) ?_ ?_
  · clear hO h0
    rintro T H ⟨lT, j11, hT, hO, h0⟩
    refine bK hT ?_
    clear hT
    unfold fB at h0
    refine aM ?_
    refine aS aD 1 ?_
    refine mO 1 lo1 1 0 (eI lT) (eI lT) [(eI lT)] hO rfl ?_
    refine dK ?_
    replace hO := hO.pick (L' := [(lo0p, 1, List.map (eI) aA)]) [0] (by decide) (by kernel_rfl)
    refine bU [9] [(49, (eI lT))] ?_
    refine cC 0 ?_
    refine aW aD 2 [] [(51, (aC (decide (lT = (0 : Int)))))] ?_
    refine bQ h0 (fun h0 => ?_) (fun h0 => ?_)
    · refine aW aD 3 [11, 49, 51] [(6, (eI j11)), (7, (eI (1 : Int)))] ?_
      refine bI ?_
      obtain rfl := oI h0
      exact aF (bD (EH hO ⟨rfl, rfl⟩))
    refine aW aD 2 [49, 51] [(54, (aC (decide (lT = (12 : Int)))))] ?_
    refine bQ h0 (fun h0 => ?_) (fun h0 => ?_)
    · refine aW aD 3 [11, 54] [(6, (eI j11)), (7, (eI (2 : Int)))] ?_
      refine bI ?_
      obtain rfl := oI h0
      exact aF (bD (EH hO ⟨rfl, rfl⟩))
    refine aW aD 3 [11, 54] [(6, (eI j11)), (7, (eI (0 : Int)))] ?_
    refine bI ?_
    obtain rfl := oI h0
    exact aF (bD (EH hO ⟨rfl, rfl⟩))
  refine aW aD 2 [] [(32, (aC (decide ((8 : Int) ≤ (wR (b2 - a1))))))] ?_
  refine bQ h0 (fun h0 => ?_) (fun h0 => ?_)
  · refine iI (fun T H => ∃ lT : Int, ∃ i10 : Int, ∃ j11 : Int, ∃ k12 : Int, Has T [(0, (.msl 1 lo0p 0 (List.length aA))), (9, (.lp lo1 0 0)), (10, (eI i10)), (11, (eI j11)), (12, (eI k12))] ∧ aK ⟨Fh, Fe, Fg⟩ H [(lo0p, 1, List.map (eI) aA), (lo1, 1, [(eI lT)])] ∧ fA aA lT i10 j11 k12 = some r) ?_ ?_
    · clear hO h0
      rintro T H ⟨lT, i10, j11, k12, hT, hO, h0⟩
      refine bK hT ?_
      clear hT
      unfold fA at h0
      refine aS aD 6 ?_
      refine bN 4 ?_
      obtain ⟨x8, hx9, h0⟩ := aV h0
      refine AB [] [0, 1] (rA lo0p aA i10 j11 k12 lo1 lT _ hx9) hO ?_
      intro r10 L11 H hP12 hO
      obtain ⟨rfl, rfl⟩ := hP12
      replace hO : aK ⟨Fh, Fe, Fg⟩ H [(lo0p, 1, List.map (eI) aA), (lo1, 1, [(eI x8.2)])] := hO
      refine bA ?_
      exact aF (aJ (⟨rfl, _, _, .eq (by kernel_rfl), hO, h0⟩))
    refine aW aD 2 [8, 32] [(34, (aC (decide ((50 : Int) ≤ (wR (b2 - a1))))))] ?_
    refine bQ h0 (fun h0 => ?_) (fun h0 => ?_)
    · refine aM ?_
      refine aS aD 4 ?_
      refine bN 2 ?_
      obtain ⟨x14, hx15, h0⟩ := aV h0
      refine AB [] [0, 1] (kU lo0p aA (wR (a1 + (wR ((wR (Int.tdiv (wR (b2 - a1)) (4 : Int))) * (1 : Int))))) lo1 0 _ hx15) hO ?_
      intro r16 L17 H hP18 hO
      obtain ⟨rfl, rfl⟩ := hP18
      replace hO : aK ⟨Fh, Fe, Fg⟩ H [(lo0p, 1, List.map (eI) aA), (lo1, 1, [(eI x14.2)])] := hO
      refine bA ?_
      refine bU [10, 34] [(10, (eI x14.1))] ?_
      refine aM ?_
      refine aS aD 4 ?_
      refine bN 2 ?_
      obtain ⟨x19, hx20, h0⟩ := aV h0
      refine AB [] [0, 1] (kU lo0p aA (wR (a1 + (wR ((wR (Int.tdiv (wR (b2 - a1)) (4 : Int))) * (2 : Int))))) lo1 x14.2 _ hx20) hO ?_
      intro r21 L22 H hP23 hO
      obtain ⟨rfl, rfl⟩ := hP23
      replace hO : aK ⟨Fh, Fe, Fg⟩ H [(lo0p, 1, List.map (eI) aA), (lo1, 1, [(eI x19.2)])] := hO
      refine bA ?_
      refine bC [(0, (.msl 1 lo0p 0 (List.length aA))), (9, (.lp lo1 0 0)), (10, (eI x14.1)), (11, (eI x19.1)), (12, (eI (wR (a1 + (wR ((wR (Int.tdiv (wR (b2 - a1)) (4 : Int))) * (3 : Int)))))))] ?_
      refine aS aD 4 ?_
      refine bN 2 ?_
      obtain ⟨x24, hx25, h0⟩ := aV h0
      refine AB [] [0, 1] (kU lo0p aA (wR (a1 + (wR ((wR (Int.tdiv (wR (b2 - a1)) (4 : Int))) * (3 : Int))))) lo1 x19.2 _ hx25) hO ?_
      intro r26 L27 H hP28 hO
      obtain ⟨rfl, rfl⟩ := hP28
      replace hO : aK ⟨Fh, Fe, Fg⟩ H [(lo0p, 1, List.map (eI) aA), (lo1, 1, [(eI x24.2)])] := hO
      refine bA ?_
      exact aF (aJ (⟨rfl, _, _, _, _, .eq (by kernel_rfl), hO, h0⟩))
    refine bR ?_
    exact aF (aJ (⟨rfl, _, _, _, _, .eq (by kernel_rfl), hO, h0⟩))
  refine bR ?_
  exact aF (aJ (⟨rfl, _, _, .eq (by kernel_rfl), hO, h0⟩))

theorem uN (lo0p : Nat) (aA : (List Int)) (a1 : Int) (b2 : Int) (r : List Int) (h0 : gV aA a1 b2 = some r) : mS Try.prog 82 lo0p 1 (List.map (eI) aA) (List.map (eI) r) [(.msl 1 lo0p 0 (List.length aA)), (eI a1), (eI b2)] (.tup []) := by
  intro H0 hl0
  refine dL Try.func82 ?_
  have hO := aK.qX hl0
  clear hl0
  obtain ⟨N0, hN0⟩ : ∃ n, n = List.length aA := ⟨_, rfl⟩
  have hN : List.length aA = N0 := hN0.symm
  unfold gV at h0
  refine aW aD 2 [1] [(6, (eI a1))] ?_
  refine aW aD 3 [2] [(7, (eI (wR (b2 - (1 : Int)))))] ?_
  refine cC 0 ?_
  refine fQ [(0, (.msl 1 lo0p 0 (List.length aA))), (6, (eI a1)), (7, (eI (wR (b2 - (1 : Int)))))] ?_
  refine fV (fun T H => ∃ aA : List Int, ∃ i6 : Int, ∃ j7 : Int, Has T [(0, (.msl 1 lo0p 0 (List.length aA))), (6, (eI i6)), (7, (eI j7))] ∧ aK ⟨H0, [lo0p], []⟩ H [(lo0p, 1, List.map (eI) aA)] ∧ List.length aA = N0 ∧ jF aA i6 j7 = some r) ?_ ⟨aA, a1, wR (b2 - (1 : Int)), .eq (by kernel_rfl), hO, hN, h0⟩
  clear hO hN h0
  rintro T H ⟨aA, i6, j7, hT, hO, hN, h0⟩
  refine bK hT ?_
  clear hT
  unfold jF at h0
  obtain ⟨rr0, hl0, h0⟩ := aV h0
  refine dV (by kernel_rfl) (fun (s : List Int × Int × Int) T H => Has T [(0, (.msl 1 lo0p 0 (List.length s.1))), (6, (eI s.2.1)), (7, (eI s.2.2))] ∧ aK ⟨H0, [lo0p], []⟩ H [(lo0p, 1, List.map (eI) s.1)] ∧ List.length s.1 = N0) hl0 ⟨.eq (by kernel_rfl), hO, hN⟩ ?_
  clear hO hN
  rintro k0 s out1 T H ⟨hT, hO, hN⟩ h1 ho0
  obtain ⟨aA, i6, j7⟩ := s
  replace h1 : dD aA i6 j7 = some out1 := h1
  try dsimp only at hT
  refine bK hT ?_
  clear hT
  unfold dD at h1
  refine aM ?_
  refine aW aD 3 [] [(13, (aC (decide (i6 < j7))))] ?_
  refine bQ h1 (fun h1 => ?_) (fun h1 => ?_)
  · refine bR ?_
    refine bC [(0, (.msl 1 lo0p 0 (List.length aA))), (6, (eI i6)), (7, (eI j7))] ?_
    refine cC 1 ?_
    refine aM ?_
    refine gI (gH []) aD 16 ?_
    obtain ⟨c2, h1⟩ := aZ h1
    refine cH 7 [0 ≤ j7 ∧ j7 < (lN aA)] ⟨c2, trivial⟩ ?_
    refine gW 0 lo0p 1 (0 + Int.toNat j7) (eI (gD aA j7)) (eI (gD aA j7)) (List.map (eI) aA) hO (bW c2) ?_
    obtain ⟨c3, h1⟩ := aZ h1
    refine cH 11 [0 ≤ i6 ∧ i6 < (lN aA)] ⟨c3, trivial⟩ ?_
    refine gW 0 lo0p 1 (0 + Int.toNat i6) (eI (gD aA i6)) (eI (gD aA i6)) (List.map (eI) aA) hO (bW c3) ?_
    obtain ⟨c4, h1⟩ := aZ h1
    refine cH 13 [0 ≤ i6 ∧ i6 < (lN aA)] ⟨c4, trivial⟩ ?_
    refine kP 0 lo0p 1 (0 + Int.toNat i6) (eI (gD aA i6)) (eI (gD aA j7)) (List.map (eI) aA) [(lo0p, 1, List.map (eI) (List.set aA (Int.toNat i6) (gD aA j7)))] hO (bW c4) (by simp only [List.set, hU]) ?_
    intro H hO
    replace hN : List.length (List.set aA (Int.toNat i6) (gD aA j7)) = N0 := by simpa using hN
    obtain ⟨c5, h1⟩ := aZ h1
    refine cH 15 [0 ≤ j7 ∧ j7 < (lN aA)] ⟨c5, trivial⟩ ?_
    refine kP 0 lo0p 1 (0 + Int.toNat j7) (eI (gD (List.set aA (Int.toNat i6) (gD aA j7)) j7)) (eI (gD aA i6)) (List.map (eI) (List.set aA (Int.toNat i6) (gD aA j7))) [(lo0p, 1, List.map (eI) (List.set (List.set aA (Int.toNat i6) (gD aA j7)) (Int.toNat j7) (gD aA i6)))] hO (mN c5 (by simp [])) (by simp only [List.set, hU]) ?_
    intro H hO
    replace hN : List.length (List.set (List.set aA (Int.toNat i6) (gD aA j7)) (Int.toNat j7) (gD aA i6)) = N0 := by simpa using hN
    refine nC (by kernel_rfl) ?_
    refine eD (l := [(0, (.msl 1 lo0p 0 (List.length (List.set (List.set aA (Int.toNat i6) (gD aA j7)) (Int.toNat j7) (gD aA i6))))), (6, (eI i6)), (7, (eI j7))]) ⟨[(0, (.msl 1 lo0p 0 (List.length aA))), (6, (eI i6)), (7, (eI j7))], by kernel_rfl, rfl, ⟨aN.eq (by simp []), aN.refl _, aN.refl _, trivial⟩⟩ ?_
    refine aF (aJ (?_))
    refine aW aD 3 [6] [(6, (eI (wR (i6 + (1 : Int)))))] ?_
    refine aS aD 3 ?_
    refine bA ?_
    exact aF (aX (aJ (⟨rfl, _, (oI h1).symm, .eq (by kernel_rfl), hO, hN⟩)))
  refine jD 0 ?_
  obtain rfl := oI h1
  obtain rfl : _ = rr0 := ho0
  replace h0 : some aA = some r := h0
  obtain rfl := oI h0
  exact aF (aY (aY (cD (vW (x := (.tup [])) (by kernel_rfl) (aN.refl _) ⟨rfl, hO.ext, hO.at 0 (by kernel_rfl), by first | rfl | (simp only [List.length_map]; exact hN.trans hN0)⟩))))

theorem qI (lo0p : Nat) (aA : (List Int)) (a1 : Int) (b2 : Int) (r : (Bool × List Int)) (h0 : eR aA a1 b2 = some r) : mS Try.prog 83 lo0p 1 (List.map (eI) aA) (List.map (eI) r.2) [(.msl 1 lo0p 0 (List.length aA)), (eI a1), (eI b2)] (aC r.1) := by
  intro H0 hl0
  refine dL Try.func83 ?_
  have hO := aK.qX hl0
  clear hl0
  obtain ⟨N0, hN0⟩ : ∃ n, n = List.length aA := ⟨_, rfl⟩
  have hN : List.length aA = N0 := hN0.symm
  unfold eR at h0
  refine aW aD 1 [] [] ?_
  refine aW aD 3 [] [(7, (eI (wR (a1 + (1 : Int)))))] ?_
  refine iI (fun T H => ∃ aA : List Int, Has T [(0, (.msl 1 lo0p 0 (List.length aA)))] ∧ aK ⟨H0, [lo0p], []⟩ H [(lo0p, 1, List.map (eI) aA)] ∧ List.length aA = N0 ∧ eG aA = some r) ?_ ?_
  · clear hO hN h0
    rintro T H ⟨aA, hT, hO, hN, h0⟩
    refine bK hT ?_
    clear hT
    unfold eG at h0
    refine aW aD 1 [] [(6, (aC false))] ?_
    refine bI ?_
    obtain rfl := oI h0
    exact aF (kY (x := (aC false)) (by kernel_rfl) (aN.refl _) ⟨rfl, hO.ext, hO.at 0 (by kernel_rfl), by first | rfl | (simp only [List.length_map]; exact hN.trans hN0)⟩)
  refine aW aD 1 [] [(8, (eI (0 : Int)))] ?_
  refine cC 0 ?_
  refine fQ [(0, (.msl 1 lo0p 0 (List.length aA))), (1, (eI a1)), (2, (eI b2)), (7, (eI (wR (a1 + (1 : Int))))), (8, (eI (0 : Int)))] ?_
  refine fV (fun T H => ∃ aA : List Int, ∃ i7 : Int, ∃ j8 : Int, Has T [(0, (.msl 1 lo0p 0 (List.length aA))), (1, (eI a1)), (2, (eI b2)), (7, (eI i7)), (8, (eI j8))] ∧ aK ⟨H0, [lo0p], []⟩ H [(lo0p, 1, List.map (eI) aA)] ∧ List.length aA = N0 ∧ fW aA a1 b2 i7 j8 = some r) ?_ ⟨aA, wR (a1 + (1 : Int)), (0 : Int), .eq (by kernel_rfl), hO, hN, h0⟩
  clear hO hN h0
  rintro T H ⟨aA, i7, j8, hT, hO, hN, h0⟩
  refine bK hT ?_
  clear hT
  unfold fW at h0
  obtain ⟨rr0, hl0, h0⟩ := aV h0
  refine dV (by kernel_rfl) (fun (s : List Int × Int × Int) T H => Has T [(0, (.msl 1 lo0p 0 (List.length s.1))), (1, (eI a1)), (2, (eI b2)), (7, (eI s.2.1)), (8, (eI s.2.2))] ∧ aK ⟨H0, [lo0p], []⟩ H [(lo0p, 1, List.map (eI) s.1)] ∧ List.length s.1 = N0) hl0 ⟨.eq (by kernel_rfl), hO, hN⟩ ?_
  clear hO hN
  rintro k0 s out1 T H ⟨hT, hO, hN⟩ h1 ho0
  obtain ⟨aA, i7, j8⟩ := s
  replace h1 : bT a1 b2 aA i7 j8 = some out1 := h1
  try dsimp only at hT
  refine bK hT ?_
  clear hT
  unfold bT at h1
  refine aM ?_
  refine aW aD 2 [] [(14, (aC (decide (j8 < (5 : Int)))))] ?_
  refine bQ h1 (fun h1 => ?_) (fun h1 => ?_)
  · refine bR ?_
    refine bC [(0, (.msl 1 lo0p 0 (List.length aA))), (1, (eI a1)), (2, (eI b2)), (7, (eI i7)), (8, (eI j8))] ?_
    refine iI (fun T H => ∃ aA : List Int, ∃ i7 : Int, Has T [(0, (.msl 1 lo0p 0 (List.length aA))), (1, (eI a1)), (2, (eI b2)), (7, (eI i7)), (8, (eI j8))] ∧ aK ⟨H0, [lo0p], []⟩ H [(lo0p, 1, List.map (eI) aA)] ∧ List.length aA = N0 ∧ dM aA a1 b2 i7 j8 = some out1) ?_ ?_
    · clear hO hN h1
      rintro T H ⟨aA, i7, hT, hO, hN, h1⟩
      refine bK hT ?_
      clear hT
      unfold dM at h1
      refine aS aD 3 ?_
      refine bA ?_
      exact aF (aJ (⟨rfl, _, (oI h1).symm, .eq (by kernel_rfl), hO, hN⟩))
    refine cC 1 ?_
    refine iI (fun T H => ∃ aA : List Int, ∃ i7 : Int, Has T [(0, (.msl 1 lo0p 0 (List.length aA))), (1, (eI a1)), (2, (eI b2)), (7, (eI i7)), (8, (eI j8))] ∧ aK ⟨H0, [lo0p], []⟩ H [(lo0p, 1, List.map (eI) aA)] ∧ List.length aA = N0 ∧ eF aA a1 b2 i7 j8 = some out1) ?_ ?_
    · clear hO hN h1
      rintro T H ⟨aA, i7, hT, hO, hN, h1⟩
      refine bK hT ?_
      clear hT
      unfold eF at h1
      refine aM ?_
      refine aW aD 3 [] [(37, (aC (decide (i7 = b2))))] ?_
      refine bQ h1 (fun h1 => ?_) (fun h1 => ?_)
      · refine aW aD 1 [1, 2, 7, 8, 37] [(6, (aC true))] ?_
        refine bI ?_
        obtain rfl := oI h1
        obtain rfl : _ = rr0 := ho0
        replace h0 : some (true, aA) = some r := h0
        obtain rfl := oI h0
        exact aF (aR (bD (aR (aR (bD (aR (kY (x := (aC true)) (by kernel_rfl) (aN.refl _) ⟨rfl, hO.ext, hO.at 0 (by kernel_rfl), by first | rfl | (simp only [List.length_map]; exact hN.trans hN0)⟩)))))))
      refine bR ?_
      refine bC [(0, (.msl 1 lo0p 0 (List.length aA))), (1, (eI a1)), (2, (eI b2)), (7, (eI i7)), (8, (eI j8))] ?_
      refine aM ?_
      refine aW aD 4 [] [(41, (aC (decide ((wR (b2 - a1)) < (50 : Int)))))] ?_
      refine bQ h1 (fun h1 => ?_) (fun h1 => ?_)
      · refine aW aD 1 [1, 2, 7, 8, 41] [(6, (aC false))] ?_
        refine bI ?_
        obtain rfl := oI h1
        obtain rfl : _ = rr0 := ho0
        replace h0 : some (false, aA) = some r := h0
        obtain rfl := oI h0
        exact aF (aR (bD (aR (aR (bD (aR (kY (x := (aC false)) (by kernel_rfl) (aN.refl _) ⟨rfl, hO.ext, hO.at 0 (by kernel_rfl), by first | rfl | (simp only [List.length_map]; exact hN.trans hN0)⟩)))))))
      refine bR ?_
      refine bC [(0, (.msl 1 lo0p 0 (List.length aA))), (1, (eI a1)), (2, (eI b2)), (7, (eI i7)), (8, (eI j8))] ?_
      refine aM ?_
      refine gI (gH []) aD 18 ?_
      obtain ⟨c4, h1⟩ := aZ h1
      refine cH 9 [0 ≤ (wR (i7 - (1 : Int))) ∧ (wR (i7 - (1 : Int))) < (lN aA)] ⟨c4, trivial⟩ ?_
      refine gW 0 lo0p 1 (0 + Int.toNat (wR (i7 - (1 : Int)))) (eI (gD aA (wR (i7 - (1 : Int))))) (eI (gD aA (wR (i7 - (1 : Int))))) (List.map (eI) aA) hO (bW c4) ?_
      obtain ⟨c5, h1⟩ := aZ h1
      refine cH 13 [0 ≤ i7 ∧ i7 < (lN aA)] ⟨c5, trivial⟩ ?_
      refine gW 0 lo0p 1 (0 + Int.toNat i7) (eI (gD aA i7)) (eI (gD aA i7)) (List.map (eI) aA) hO (bW c5) ?_
      obtain ⟨c6, h1⟩ := aZ h1
      refine cH 15 [0 ≤ i7 ∧ i7 < (lN aA)] ⟨c6, trivial⟩ ?_
      refine kP 0 lo0p 1 (0 + Int.toNat i7) (eI (gD aA i7)) (eI (gD aA (wR (i7 - (1 : Int))))) (List.map (eI) aA) [(lo0p, 1, List.map (eI) (List.set aA (Int.toNat i7) (gD aA (wR (i7 - (1 : Int))))))] hO (bW c6) (by simp only [List.set, hU]) ?_
      intro H hO
      replace hN : List.length (List.set aA (Int.toNat i7) (gD aA (wR (i7 - (1 : Int))))) = N0 := by simpa using hN
      obtain ⟨c7, h1⟩ := aZ h1
      refine cH 17 [0 ≤ (wR (i7 - (1 : Int))) ∧ (wR (i7 - (1 : Int))) < (lN aA)] ⟨c7, trivial⟩ ?_
      refine kP 0 lo0p 1 (0 + Int.toNat (wR (i7 - (1 : Int)))) (eI (gD (List.set aA (Int.toNat i7) (gD aA (wR (i7 - (1 : Int))))) (wR (i7 - (1 : Int))))) (eI (gD aA i7)) (List.map (eI) (List.set aA (Int.toNat i7) (gD aA (wR (i7 - (1 : Int)))))) [(lo0p, 1, List.map (eI) (List.set (List.set aA (Int.toNat i7) (gD aA (wR (i7 - (1 : Int))))) (Int.toNat (wR (i7 - (1 : Int)))) (gD aA i7)))] hO (mN c7 (by simp [])) (by simp only [List.set, hU]) ?_
      intro H hO
      replace hN : List.length (List.set (List.set aA (Int.toNat i7) (gD aA (wR (i7 - (1 : Int))))) (Int.toNat (wR (i7 - (1 : Int)))) (gD aA i7)) = N0 := by simpa using hN
      refine nC (by kernel_rfl) ?_
      refine eD (l := [(0, (.msl 1 lo0p 0 (List.length (List.set (List.set aA (Int.toNat i7) (gD aA (wR (i7 - (1 : Int))))) (Int.toNat (wR (i7 - (1 : Int)))) (gD aA i7))))), (1, (eI a1)), (2, (eI b2)), (7, (eI i7)), (8, (eI j8))]) ⟨[(0, (.msl 1 lo0p 0 (List.length aA))), (1, (eI a1)), (2, (eI b2)), (7, (eI i7)), (8, (eI j8))], by kernel_rfl, rfl, ⟨aN.eq (by simp []), aN.refl _, aN.refl _, aN.refl _, aN.refl _, trivial⟩⟩ ?_
      refine aF (aJ (?_))
      refine iI (fun T H => ∃ aA : List Int, Has T [(0, (.msl 1 lo0p 0 (List.length aA))), (1, (eI a1)), (2, (eI b2)), (7, (eI i7)), (8, (eI j8))] ∧ aK ⟨H0, [lo0p], []⟩ H [(lo0p, 1, List.map (eI) aA)] ∧ List.length aA = N0 ∧ cF aA a1 b2 i7 j8 = some out1) ?_ ?_
      · clear hO hN h1
        rintro T H ⟨aA, hT, hO, hN, h1⟩
        refine bK hT ?_
        clear hT
        unfold cF at h1
        refine aW aD 4 [] [(98, (aC (decide ((2 : Int) ≤ (wR (b2 - i7))))))] ?_
        refine bQ h1 (fun h1 => ?_) (fun h1 => ?_)
        · refine aW aD 3 [98] [(10, (eI (wR (i7 + (1 : Int)))))] ?_
          refine cC 6 ?_
          refine fQ [(0, (.msl 1 lo0p 0 (List.length aA))), (1, (eI a1)), (2, (eI b2)), (7, (eI i7)), (8, (eI j8)), (10, (eI (wR (i7 + (1 : Int)))))] ?_
          refine fV (fun T H => ∃ aA : List Int, ∃ j10 : Int, Has T [(0, (.msl 1 lo0p 0 (List.length aA))), (1, (eI a1)), (2, (eI b2)), (7, (eI i7)), (8, (eI j8)), (10, (eI j10))] ∧ aK ⟨H0, [lo0p], []⟩ H [(lo0p, 1, List.map (eI) aA)] ∧ List.length aA = N0 ∧ fU aA a1 b2 i7 j8 j10 = some out1) ?_ ⟨aA, wR (i7 + (1 : Int)), .eq (by kernel_rfl), hO, hN, h1⟩
          clear hO hN h1
          rintro T H ⟨aA, j10, hT, hO, hN, h1⟩
          refine bK hT ?_
          clear hT
          unfold fU at h1
          obtain ⟨rr1, hl1, h1⟩ := aV h1
          refine dV (by kernel_rfl) (fun (s : List Int × Int) T H => Has T [(0, (.msl 1 lo0p 0 (List.length s.1))), (1, (eI a1)), (2, (eI b2)), (7, (eI i7)), (8, (eI j8)), (10, (eI s.2))] ∧ aK ⟨H0, [lo0p], []⟩ H [(lo0p, 1, List.map (eI) s.1)] ∧ List.length s.1 = N0) hl1 ⟨.eq (by kernel_rfl), hO, hN⟩ ?_
          clear hO hN
          rintro k1 s out2 T H ⟨hT, hO, hN⟩ h2 ho1
          obtain ⟨aA, j10⟩ := s
          replace h2 : cM a1 b2 i7 j8 aA j10 = some out2 := h2
          try dsimp only at hT
          refine bK hT ?_
          clear hT
          unfold cM at h2
          refine aM ?_
          refine aW aD 3 [] [(103, (aC (decide (j10 < b2))))] ?_
          refine bQ h2 (fun h2 => ?_) (fun h2 => ?_)
          · refine bR ?_
            refine bC [(0, (.msl 1 lo0p 0 (List.length aA))), (1, (eI a1)), (2, (eI b2)), (7, (eI i7)), (8, (eI j8)), (10, (eI j10))] ?_
            refine aM ?_
            refine cC 7 ?_
            refine aM ?_
            refine aM ?_
            refine gI (gH [115]) aD 11 ?_
            obtain ⟨c10, h2⟩ := aZ h2
            refine cH 3 [0 ≤ j10 ∧ j10 < (lN aA)] ⟨c10, trivial⟩ ?_
            refine gW 0 lo0p 1 (0 + Int.toNat j10) (eI (gD aA j10)) (eI (gD aA j10)) (List.map (eI) aA) hO (bW c10) ?_
            obtain ⟨c11, h2⟩ := aZ h2
            refine cH 8 [0 ≤ (wR (j10 - (1 : Int))) ∧ (wR (j10 - (1 : Int))) < (lN aA)] ⟨c11, trivial⟩ ?_
            refine gW 0 lo0p 1 (0 + Int.toNat (wR (j10 - (1 : Int)))) (eI (gD aA (wR (j10 - (1 : Int))))) (eI (gD aA (wR (j10 - (1 : Int))))) (List.map (eI) aA) hO (bW c11) ?_
            obtain ⟨x12, hx13, h2⟩ := aV h2
            refine yZ (fJ (gD aA j10) (gD aA (wR (j10 - (1 : Int)))) _ hx13) hO ?_
            intro H hO
            refine kM ?_
            refine bU [] [(116, (aC (!x12)))] ?_
            refine bQ h2 (fun h2 => ?_) (fun h2 => ?_)
            · refine jD 6 ?_
              obtain rfl := oI h2
              obtain rfl : _ = rr1 := ho1
              replace h1 : dM aA a1 b2 i7 j8 = some out1 := h1
              exact aF (aY (rN (by kernel_rfl) (aY (aY (cD (aX (aJ (⟨rfl, _, _, .eq (by kernel_rfl), hO, hN, h1⟩))))))))
            refine bR ?_
            refine bC [(0, (.msl 1 lo0p 0 (List.length aA))), (1, (eI a1)), (2, (eI b2)), (7, (eI i7)), (8, (eI j8)), (10, (eI j10))] ?_
            refine gI (gH []) aD 18 ?_
            obtain ⟨c16, h2⟩ := aZ h2
            refine cH 9 [0 ≤ (wR (j10 - (1 : Int))) ∧ (wR (j10 - (1 : Int))) < (lN aA)] ⟨c16, trivial⟩ ?_
            refine gW 0 lo0p 1 (0 + Int.toNat (wR (j10 - (1 : Int)))) (eI (gD aA (wR (j10 - (1 : Int))))) (eI (gD aA (wR (j10 - (1 : Int))))) (List.map (eI) aA) hO (bW c16) ?_
            obtain ⟨c17, h2⟩ := aZ h2
            refine cH 13 [0 ≤ j10 ∧ j10 < (lN aA)] ⟨c17, trivial⟩ ?_
            refine gW 0 lo0p 1 (0 + Int.toNat j10) (eI (gD aA j10)) (eI (gD aA j10)) (List.map (eI) aA) hO (bW c17) ?_
            obtain ⟨c18, h2⟩ := aZ h2
            refine cH 15 [0 ≤ j10 ∧ j10 < (lN aA)] ⟨c18, trivial⟩ ?_
            refine kP 0 lo0p 1 (0 + Int.toNat j10) (eI (gD aA j10)) (eI (gD aA (wR (j10 - (1 : Int))))) (List.map (eI) aA) [(lo0p, 1, List.map (eI) (List.set aA (Int.toNat j10) (gD aA (wR (j10 - (1 : Int))))))] hO (bW c18) (by simp only [List.set, hU]) ?_
            intro H hO
            replace hN : List.length (List.set aA (Int.toNat j10) (gD aA (wR (j10 - (1 : Int))))) = N0 := by simpa using hN
            obtain ⟨c19, h2⟩ := aZ h2
            refine cH 17 [0 ≤ (wR (j10 - (1 : Int))) ∧ (wR (j10 - (1 : Int))) < (lN aA)] ⟨c19, trivial⟩ ?_
            refine kP 0 lo0p 1 (0 + Int.toNat (wR (j10 - (1 : Int)))) (eI (gD (List.set aA (Int.toNat j10) (gD aA (wR (j10 - (1 : Int))))) (wR (j10 - (1 : Int))))) (eI (gD aA j10)) (List.map (eI) (List.set aA (Int.toNat j10) (gD aA (wR (j10 - (1 : Int)))))) [(lo0p, 1, List.map (eI) (List.set (List.set aA (Int.toNat j10) (gD aA (wR (j10 - (1 : Int))))) (Int.toNat (wR (j10 - (1 : Int)))) (gD aA j10)))] hO (mN c19 (by simp [])) (by simp only [List.set, hU]) ?_
            intro H hO
            replace hN : List.length (List.set (List.set aA (Int.toNat j10) (gD aA (wR (j10 - (1 : Int))))) (Int.toNat (wR (j10 - (1 : Int)))) (gD aA j10)) = N0 := by simpa using hN
            refine nC (by kernel_rfl) ?_
            refine eD (l := [(0, (.msl 1 lo0p 0 (List.length (List.set (List.set aA (Int.toNat j10) (gD aA (wR (j10 - (1 : Int))))) (Int.toNat (wR (j10 - (1 : Int)))) (gD aA j10))))), (1, (eI a1)), (2, (eI b2)), (7, (eI i7)), (8, (eI j8)), (10, (eI j10))]) ⟨[(0, (.msl 1 lo0p 0 (List.length aA))), (1, (eI a1)), (2, (eI b2)), (7, (eI i7)), (8, (eI j8)), (10, (eI j10))], by kernel_rfl, rfl, ⟨aN.eq (by simp []), aN.refl _, aN.refl _, aN.refl _, aN.refl _, aN.refl _, trivial⟩⟩ ?_
            refine aF (aX (aJ (?_)))
            refine aS aD 3 ?_
            refine bA ?_
            exact aF (aJ (⟨rfl, _, (oI h2).symm, .eq (by kernel_rfl), hO, hN⟩))
          refine jD 6 ?_
          obtain rfl := oI h2
          obtain rfl : _ = rr1 := ho1
          replace h1 : dM aA a1 b2 i7 j8 = some out1 := h1
          exact aF (aY (aY (cD (aX (aJ (⟨rfl, _, _, .eq (by kernel_rfl), hO, hN, h1⟩))))))
        refine bR ?_
        exact aF (aX (aJ (⟨rfl, _, _, .eq (by kernel_rfl), hO, hN, h1⟩)))
      refine aW aD 4 [] [(61, (aC (decide ((2 : Int) ≤ (wR (i7 - a1))))))] ?_
      refine bQ h1 (fun h1 => ?_) (fun h1 => ?_)
      · refine aW aD 3 [61] [(9, (eI (wR (i7 - (1 : Int)))))] ?_
        refine cC 4 ?_
        refine fQ [(0, (.msl 1 lo0p 0 (List.length (List.set (List.set aA (Int.toNat i7) (gD aA (wR (i7 - (1 : Int))))) (Int.toNat (wR (i7 - (1 : Int)))) (gD aA i7))))), (1, (eI a1)), (2, (eI b2)), (7, (eI i7)), (8, (eI j8)), (9, (eI (wR (i7 - (1 : Int)))))] ?_
        refine fV (fun T H => ∃ aA : List Int, ∃ j9 : Int, Has T [(0, (.msl 1 lo0p 0 (List.length aA))), (1, (eI a1)), (2, (eI b2)), (7, (eI i7)), (8, (eI j8)), (9, (eI j9))] ∧ aK ⟨H0, [lo0p], []⟩ H [(lo0p, 1, List.map (eI) aA)] ∧ List.length aA = N0 ∧ fT aA a1 b2 i7 j8 j9 = some out1) ?_ ⟨List.set (List.set aA (Int.toNat i7) (gD aA (wR (i7 - (1 : Int))))) (Int.toNat (wR (i7 - (1 : Int)))) (gD aA i7), wR (i7 - (1 : Int)), .eq (by kernel_rfl), hO, hN, h1⟩
        clear hO hN h1
        rintro T H ⟨aA, j9, hT, hO, hN, h1⟩
        refine bK hT ?_
        clear hT
        unfold fT at h1
        obtain ⟨rr1, hl1, h1⟩ := aV h1
        refine dV (by kernel_rfl) (fun (s : List Int × Int) T H => Has T [(0, (.msl 1 lo0p 0 (List.length s.1))), (1, (eI a1)), (2, (eI b2)), (7, (eI i7)), (8, (eI j8)), (9, (eI s.2))] ∧ aK ⟨H0, [lo0p], []⟩ H [(lo0p, 1, List.map (eI) s.1)] ∧ List.length s.1 = N0) hl1 ⟨.eq (by kernel_rfl), hO, hN⟩ ?_
        clear hO hN
        rintro k1 s out2 T H ⟨hT, hO, hN⟩ h2 ho1
        obtain ⟨aA, j9⟩ := s
        replace h2 : cE a1 b2 i7 j8 aA j9 = some out2 := h2
        try dsimp only at hT
        refine bK hT ?_
        clear hT
        unfold cE at h2
        refine aM ?_
        refine aW aD 2 [] [(65, (aC (decide ((1 : Int) ≤ j9))))] ?_
        refine bQ h2 (fun h2 => ?_) (fun h2 => ?_)
        · refine bR ?_
          refine bC [(0, (.msl 1 lo0p 0 (List.length aA))), (1, (eI a1)), (2, (eI b2)), (7, (eI i7)), (8, (eI j8)), (9, (eI j9))] ?_
          refine aM ?_
          refine cC 5 ?_
          refine aM ?_
          refine aM ?_
          refine gI (gH [77]) aD 11 ?_
          obtain ⟨c22, h2⟩ := aZ h2
          refine cH 3 [0 ≤ j9 ∧ j9 < (lN aA)] ⟨c22, trivial⟩ ?_
          refine gW 0 lo0p 1 (0 + Int.toNat j9) (eI (gD aA j9)) (eI (gD aA j9)) (List.map (eI) aA) hO (bW c22) ?_
          obtain ⟨c23, h2⟩ := aZ h2
          refine cH 8 [0 ≤ (wR (j9 - (1 : Int))) ∧ (wR (j9 - (1 : Int))) < (lN aA)] ⟨c23, trivial⟩ ?_
          refine gW 0 lo0p 1 (0 + Int.toNat (wR (j9 - (1 : Int)))) (eI (gD aA (wR (j9 - (1 : Int))))) (eI (gD aA (wR (j9 - (1 : Int))))) (List.map (eI) aA) hO (bW c23) ?_
          obtain ⟨x24, hx25, h2⟩ := aV h2
          refine yZ (fJ (gD aA j9) (gD aA (wR (j9 - (1 : Int)))) _ hx25) hO ?_
          intro H hO
          refine kM ?_
          refine bU [] [(78, (aC (!x24)))] ?_
          refine bQ h2 (fun h2 => ?_) (fun h2 => ?_)
          · refine jD 4 ?_
            obtain rfl := oI h2
            obtain rfl : _ = rr1 := ho1
            replace h1 : cF aA a1 b2 i7 j8 = some out1 := h1
            exact aF (aY (rN (by kernel_rfl) (aY (aY (cD (aJ (⟨rfl, _, .eq (by kernel_rfl), hO, hN, h1⟩)))))))
          refine bR ?_
          refine bC [(0, (.msl 1 lo0p 0 (List.length aA))), (1, (eI a1)), (2, (eI b2)), (7, (eI i7)), (8, (eI j8)), (9, (eI j9))] ?_
          refine gI (gH []) aD 18 ?_
          obtain ⟨c28, h2⟩ := aZ h2
          refine cH 9 [0 ≤ (wR (j9 - (1 : Int))) ∧ (wR (j9 - (1 : Int))) < (lN aA)] ⟨c28, trivial⟩ ?_
          refine gW 0 lo0p 1 (0 + Int.toNat (wR (j9 - (1 : Int)))) (eI (gD aA (wR (j9 - (1 : Int))))) (eI (gD aA (wR (j9 - (1 : Int))))) (List.map (eI) aA) hO (bW c28) ?_
          obtain ⟨c29, h2⟩ := aZ h2
          refine cH 13 [0 ≤ j9 ∧ j9 < (lN aA)] ⟨c29, trivial⟩ ?_
          refine gW 0 lo0p 1 (0 + Int.toNat j9) (eI (gD aA j9)) (eI (gD aA j9)) (List.map (eI) aA) hO (bW c29) ?_
          obtain ⟨c30, h2⟩ := aZ h2
          refine cH 15 [0 ≤ j9 ∧ j9 < (lN aA)] ⟨c30, trivial⟩ ?_
          refine kP 0 lo0p 1 (0 + Int.toNat j9) (eI (gD aA j9)) (eI (gD aA (wR (j9 - (1 : Int))))) (List.map (eI) aA) [(lo0p, 1, List.map (eI) (List.set aA (Int.toNat j9) (gD aA (wR (j9 - (1 : Int))))))] hO (bW c30) (by simp only [List.set, hU]) ?_
          intro H hO
          replace hN : List.length (List.set aA (Int.toNat j9) (gD aA (wR (j9 - (1 : Int))))) = N0 := by simpa using hN
          obtain ⟨c31, h2⟩ := aZ h2
          refine cH 17 [0 ≤ (wR (j9 - (1 : Int))) ∧ (wR (j9 - (1 : Int))) < (lN aA)] ⟨c31, trivial⟩ ?_
          refine kP 0 lo0p 1 (0 + Int.toNat (wR (j9 - (1 : Int)))) (eI (gD (List.set aA (Int.toNat j9) (gD aA (wR (j9 - (1 : Int))))) (wR (j9 - (1 : Int))))) (eI (gD aA j9)) (List.map (eI) (List.set aA (Int.toNat j9) (gD aA (wR (j9 - (1 : Int)))))) [(lo0p, 1, List.map (eI) (List.set (List.set aA (Int.toNat j9) (gD aA (wR (j9 - (1 : Int))))) (Int.toNat (wR (j9 - (1 : Int)))) (gD aA j9)))] hO (mN c31 (by simp [])) (by simp only [List.set, hU]) ?_
          intro H hO
          replace hN : List.length (List.set (List.set aA (Int.toNat j9) (gD aA (wR (j9 - (1 : Int))))) (Int.toNat (wR (j9 - (1 : Int)))) (gD aA j9)) = N0 := by simpa using hN
          refine nC (by kernel_rfl) ?_
          refine eD (l := [(0, (.msl 1 lo0p 0 (List.length (List.set (List.set aA (Int.toNat j9) (gD aA (wR (j9 - (1 : Int))))) (Int.toNat (wR (j9 - (1 : Int)))) (gD aA j9))))), (1, (eI a1)), (2, (eI b2)), (7, (eI i7)), (8, (eI j8)), (9, (eI j9))]) ⟨[(0, (.msl 1 lo0p 0 (List.length aA))), (1, (eI a1)), (2, (eI b2)), (7, (eI i7)), (8, (eI j8)), (9, (eI j9))], by kernel_rfl, rfl, ⟨aN.eq (by simp []), aN.refl _, aN.refl _, aN.refl _, aN.refl _, aN.refl _, trivial⟩⟩ ?_
          refine aF (aX (aJ (?_)))
          refine aS aD 3 ?_
          refine bA ?_
          exact aF (aJ (⟨rfl, _, (oI h2).symm, .eq (by kernel_rfl), hO, hN⟩))
        refine jD 4 ?_
        obtain rfl := oI h2
        obtain rfl : _ = rr1 := ho1
        replace h1 : cF aA a1 b2 i7 j8 = some out1 := h1
        exact aF (aY (aY (cD (aJ (⟨rfl, _, .eq (by kernel_rfl), hO, hN, h1⟩)))))
      refine bR ?_
      exact aF (aJ (⟨rfl, _, .eq (by kernel_rfl), hO, hN, h1⟩))
    refine cC 2 ?_
    refine fQ [(0, (.msl 1 lo0p 0 (List.length aA))), (1, (eI a1)), (2, (eI b2)), (7, (eI i7)), (8, (eI j8))] ?_
    refine fV (fun T H => ∃ aA : List Int, ∃ i7 : Int, Has T [(0, (.msl 1 lo0p 0 (List.length aA))), (1, (eI a1)), (2, (eI b2)), (7, (eI i7)), (8, (eI j8))] ∧ aK ⟨H0, [lo0p], []⟩ H [(lo0p, 1, List.map (eI) aA)] ∧ List.length aA = N0 ∧ cU aA a1 b2 i7 j8 = some out1) ?_ ⟨aA, i7, .eq (by kernel_rfl), hO, hN, h1⟩
    clear hO hN h1
    rintro T H ⟨aA, i7, hT, hO, hN, h1⟩
    refine bK hT ?_
    clear hT
    unfold cU at h1
    obtain ⟨rr1, hl1, h1⟩ := aV h1
    refine dV (by kernel_rfl) (fun (s : List Int × Int) T H => Has T [(0, (.msl 1 lo0p 0 (List.length s.1))), (1, (eI a1)), (2, (eI b2)), (7, (eI s.2)), (8, (eI j8))] ∧ aK ⟨H0, [lo0p], []⟩ H [(lo0p, 1, List.map (eI) s.1)] ∧ List.length s.1 = N0) hl1 ⟨.eq (by kernel_rfl), hO, hN⟩ ?_
    clear hO hN
    rintro k1 s out2 T H ⟨hT, hO, hN⟩ h2 ho1
    obtain ⟨aA, i7⟩ := s
    replace h2 : cN a1 b2 j8 aA i7 = some out2 := h2
    try dsimp only at hT
    refine bK hT ?_
    clear hT
    unfold cN at h2
    refine aM ?_
    refine aM ?_
    obtain ⟨c32, h2⟩ := aZ h2
    obtain ⟨c33, h2⟩ := aZ h2
    obtain ⟨x34, hx35, h2⟩ := aV h2
    refine gI (gH []) aD 16 ?_
    refine oR (K := fun T H => Has (lift T) [(0, (.msl 1 lo0p 0 (List.length aA))), (1, (eI a1)), (2, (eI b2)), (7, (eI i7)), (8, (eI j8)), (32, (aC ((decide (i7 < b2)) && (!x34))))] ∧ aK ⟨H0, [lo0p], []⟩ H [(lo0p, 1, List.map (eI) aA)]) ?_ ?_
    · refine lR 4 ?_
      refine nT (t := 20) (e := decide (i7 < b2)) (by kernel_rfl) (fun hg36 => ?_) (fun hg36 => ?_)
      · refine cH 7 [0 ≤ i7 ∧ i7 < (lN aA)] ⟨(c32 hg36), trivial⟩ ?_
        refine jI 0 lo0p 1 (0 + Int.toNat i7) (eI (gD aA i7)) (eI (gD aA i7)) (List.map (eI) aA) (by kernel_rfl) (by kernel_rfl) (by kernel_rfl) hO (by kernel_rfl) (bW (c32 hg36)) ?_
        refine cH 12 [0 ≤ (wR (i7 - (1 : Int))) ∧ (wR (i7 - (1 : Int))) < (lN aA)] ⟨(c33 hg36), trivial⟩ ?_
        refine jI 0 lo0p 1 (0 + Int.toNat (wR (i7 - (1 : Int)))) (eI (gD aA (wR (i7 - (1 : Int))))) (eI (gD aA (wR (i7 - (1 : Int))))) (List.map (eI) aA) (by kernel_rfl) (by kernel_rfl) (by kernel_rfl) hO (by kernel_rfl) (bW (c33 hg36)) ?_
        refine nX 84 [(eI (gD aA i7)), (eI (gD aA (wR (i7 - (1 : Int)))))] (aC x34) (by kernel_rfl) (by kernel_rfl) (fJ (gD aA i7) (gD aA (wR (i7 - (1 : Int)))) _ (jN hx35 hg36)) hO ?_
        intro H hO
        refine kM ?_
        exact ⟨⟨[(0, (.msl 1 lo0p 0 (List.length aA))), (1, (eI a1)), (2, (eI b2)), (7, (eI i7)), (8, (eI j8)), (32, (aC (!x34)))], by kernel_rfl, rfl, ⟨aN.refl _, aN.refl _, aN.refl _, aN.refl _, aN.refl _, aN.eq (congrArg aC (nA hg36 rfl).symm), trivial⟩⟩, hO⟩
      refine kM ?_
      exact ⟨⟨[(0, (.msl 1 lo0p 0 (List.length aA))), (1, (eI a1)), (2, (eI b2)), (7, (eI i7)), (8, (eI j8)), (32, (aC false))], by kernel_rfl, rfl, ⟨aN.refl _, aN.refl _, aN.refl _, aN.refl _, aN.refl _, aN.eq (congrArg aC (nA hg36 rfl).symm), trivial⟩⟩, hO⟩
    · rintro T H ⟨hT, hO⟩
      refine eD hT ?_
      clear hT
      refine aF (aJ ?_)
      refine bQ h2 (fun h2 => ?_) (fun h2 => ?_)
      · refine bR ?_
        refine bC [(0, (.msl 1 lo0p 0 (List.length aA))), (1, (eI a1)), (2, (eI b2)), (7, (eI i7)), (8, (eI j8))] ?_
        refine cC 3 ?_
        refine aS aD 3 ?_
        refine bA ?_
        exact aF (aX (aJ (⟨rfl, _, (oI h2).symm, .eq (by kernel_rfl), hO, hN⟩)))
      refine jD 2 ?_
      obtain rfl := oI h2
      obtain rfl : _ = rr1 := ho1
      replace h1 : eF aA a1 b2 i7 j8 = some out1 := h1
      exact aF (aY (aY (cD (aJ (⟨rfl, _, _, .eq (by kernel_rfl), hO, hN, h1⟩)))))
  refine jD 0 ?_
  obtain rfl := oI h1
  obtain rfl : _ = rr0 := ho0
  replace h0 : eG aA = some r := h0
  exact aF (aY (aY (cD (aJ (⟨rfl, _, .eq (by kernel_rfl), hO, hN, h0⟩)))))

end Go.Abs
namespace Go.Abs
open Go Go.RowKit Go.Proofs
theorem tL (lo0p : Nat) (aA : (List Int)) (a1 : Int) (b2 : Int) (cG : Int) (r : (Int × List Int)) (h0 : eU aA a1 b2 cG = some r) : mS Try.prog 85 lo0p 1 (List.map (eI) aA) (List.map (eI) r.2) [(.msl 1 lo0p 0 (List.length aA)), (eI a1), (eI b2), (eI cG)] (eI r.1) := by
  intro H0 hl0
  refine dL Try.func85 ?_
  have hO := aK.qX hl0
  clear hl0
  obtain ⟨N0, hN0⟩ : ∃ n, n = List.length aA := ⟨_, rfl⟩
  have hN : List.length aA = N0 := hN0.symm
  unfold eU at h0
  refine aW aD 1 [] [] ?_
  refine aM ?_
  refine gI (gH []) aD 16 ?_
  obtain ⟨c1, h0⟩ := aZ h0
  refine cH 7 [0 ≤ cG ∧ cG < (lN aA)] ⟨c1, trivial⟩ ?_
  refine gW 0 lo0p 1 (0 + Int.toNat cG) (eI (gD aA cG)) (eI (gD aA cG)) (List.map (eI) aA) hO (bW c1) ?_
  obtain ⟨c2, h0⟩ := aZ h0
  refine cH 11 [0 ≤ a1 ∧ a1 < (lN aA)] ⟨c2, trivial⟩ ?_
  refine gW 0 lo0p 1 (0 + Int.toNat a1) (eI (gD aA a1)) (eI (gD aA a1)) (List.map (eI) aA) hO (bW c2) ?_
  obtain ⟨c3, h0⟩ := aZ h0
  refine cH 13 [0 ≤ a1 ∧ a1 < (lN aA)] ⟨c3, trivial⟩ ?_
  refine kP 0 lo0p 1 (0 + Int.toNat a1) (eI (gD aA a1)) (eI (gD aA cG)) (List.map (eI) aA) [(lo0p, 1, List.map (eI) (List.set aA (Int.toNat a1) (gD aA cG)))] hO (bW c3) (by simp only [List.set, hU]) ?_
  intro H hO
  replace hN : List.length (List.set aA (Int.toNat a1) (gD aA cG)) = N0 := by simpa using hN
  obtain ⟨c4, h0⟩ := aZ h0
  refine cH 15 [0 ≤ cG ∧ cG < (lN aA)] ⟨c4, trivial⟩ ?_
  refine kP 0 lo0p 1 (0 + Int.toNat cG) (eI (gD (List.set aA (Int.toNat a1) (gD aA cG)) cG)) (eI (gD aA a1)) (List.map (eI) (List.set aA (Int.toNat a1) (gD aA cG))) [(lo0p, 1, List.map (eI) (List.set (List.set aA (Int.toNat a1) (gD aA cG)) (Int.toNat cG) (gD aA a1)))] hO (mN c4 (by simp [])) (by simp only [List.set, hU]) ?_
  intro H hO
  replace hN : List.length (List.set (List.set aA (Int.toNat a1) (gD aA cG)) (Int.toNat cG) (gD aA a1)) = N0 := by simpa using hN
  refine nC (by kernel_rfl) ?_
  refine eD (l := [(0, (.msl 1 lo0p 0 (List.length (List.set (List.set aA (Int.toNat a1) (gD aA cG)) (Int.toNat cG) (gD aA a1))))), (1, (eI a1)), (2, (eI b2))]) ⟨[(0, (.msl 1 lo0p 0 (List.length aA))), (1, (eI a1)), (2, (eI b2))], by kernel_rfl, rfl, ⟨aN.eq (by simp []), aN.refl _, aN.refl _, trivial⟩⟩ ?_
  refine aF (aJ (?_))
  refine aW aD 6 [2] [(9, (eI (wR (a1 + (1 : Int))))), (10, (eI (wR (b2 - (1 : Int)))))] ?_
  refine iI (fun T H => ∃ aA : List Int, ∃ i9 : Int, Has T [(0, (.msl 1 lo0p 0 (List.length aA))), (9, (eI i9))] ∧ aK ⟨H0, [lo0p], []⟩ H [(lo0p, 1, List.map (eI) aA)] ∧ List.length aA = N0 ∧ iN aA i9 = some r) ?_ ?_
  · clear hO hN h0
    rintro T H ⟨aA, i9, hT, hO, hN, h0⟩
    refine bK hT ?_
    clear hT
    unfold iN at h0
    refine aW aD 2 [9] [(8, (eI i9))] ?_
    refine bI ?_
    obtain rfl := oI h0
    exact aF (kY (x := (eI i9)) (by kernel_rfl) (aN.refl _) ⟨rfl, hO.ext, hO.at 0 (by kernel_rfl), by first | rfl | (simp only [List.length_map]; exact hN.trans hN0)⟩)
  refine cC 0 ?_
  refine fQ [(0, (.msl 1 lo0p 0 (List.length (List.set (List.set aA (Int.toNat a1) (gD aA cG)) (Int.toNat cG) (gD aA a1))))), (1, (eI a1)), (9, (eI (wR (a1 + (1 : Int))))), (10, (eI (wR (b2 - (1 : Int)))))] ?_
  refine fV (fun T H => ∃ aA : List Int, ∃ i9 : Int, ∃ j10 : Int, Has T [(0, (.msl 1 lo0p 0 (List.length aA))), (1, (eI a1)), (9, (eI i9)), (10, (eI j10))] ∧ aK ⟨H0, [lo0p], []⟩ H [(lo0p, 1, List.map (eI) aA)] ∧ List.length aA = N0 ∧ iQ aA a1 i9 j10 = some r) ?_ ⟨List.set (List.set aA (Int.toNat a1) (gD aA cG)) (Int.toNat cG) (gD aA a1), wR (a1 + (1 : Int)), wR (b2 - (1 : Int)), .eq (by kernel_rfl), hO, hN, h0⟩
  clear hO hN h0
  rintro T H ⟨aA, i9, j10, hT, hO, hN, h0⟩
  refine bK hT ?_
  clear hT
  unfold iQ at h0
  obtain ⟨rr0, hl0, h0⟩ := aV h0
  refine dV (by kernel_rfl) (fun (s : List Int × Int × Int) T H => Has T [(0, (.msl 1 lo0p 0 (List.length s.1))), (1, (eI a1)), (9, (eI s.2.1)), (10, (eI s.2.2))] ∧ aK ⟨H0, [lo0p], []⟩ H [(lo0p, 1, List.map (eI) s.1)] ∧ List.length s.1 = N0) hl0 ⟨.eq (by kernel_rfl), hO, hN⟩ ?_
  clear hO hN
  rintro k0 s out1 T H ⟨hT, hO, hN⟩ h1 ho0
  obtain ⟨aA, i9, j10⟩ := s
  replace h1 : cO a1 aA i9 j10 = some out1 := h1
  try dsimp only at hT
  refine bK hT ?_
  clear hT
  unfold cO at h1
  refine cC 1 ?_
  refine iI (fun T H => ∃ aA : List Int, ∃ i9 : Int, Has T [(0, (.msl 1 lo0p 0 (List.length aA))), (1, (eI a1)), (9, (eI i9)), (10, (eI j10))] ∧ aK ⟨H0, [lo0p], []⟩ H [(lo0p, 1, List.map (eI) aA)] ∧ List.length aA = N0 ∧ fO aA a1 i9 j10 = some out1) ?_ ?_
  · clear hO hN h1
    rintro T H ⟨aA, i9, hT, hO, hN, h1⟩
    refine bK hT ?_
    clear hT
    unfold fO at h1
    refine iI (fun T H => ∃ aA : List Int, ∃ j10 : Int, Has T [(0, (.msl 1 lo0p 0 (List.length aA))), (1, (eI a1)), (9, (eI i9)), (10, (eI j10))] ∧ aK ⟨H0, [lo0p], []⟩ H [(lo0p, 1, List.map (eI) aA)] ∧ List.length aA = N0 ∧ dN aA a1 i9 j10 = some out1) ?_ ?_
    · clear hO hN h1
      rintro T H ⟨aA, j10, hT, hO, hN, h1⟩
      refine bK hT ?_
      clear hT
      unfold dN at h1
      refine aM ?_
      refine aW aD 3 [] [(64, (aC (decide (j10 < i9))))] ?_
      refine bQ h1 (fun h1 => ?_) (fun h1 => ?_)
      · refine jD 0 ?_
        obtain rfl := oI h1
        obtain rfl : _ = rr0 := ho0
        replace h0 : iN aA i9 = some r := h0
        exact aF (aY (rN (by kernel_rfl) (aY (cD (aJ (⟨rfl, _, _, .eq (by kernel_rfl), hO, hN, h0⟩))))))
      refine bR ?_
      refine bC [(0, (.msl 1 lo0p 0 (List.length aA))), (1, (eI a1)), (9, (eI i9)), (10, (eI j10))] ?_
      refine aM ?_
      refine gI (gH []) aD 16 ?_
      obtain ⟨c6, h1⟩ := aZ h1
      refine cH 7 [0 ≤ j10 ∧ j10 < (lN aA)] ⟨c6, trivial⟩ ?_
      refine gW 0 lo0p 1 (0 + Int.toNat j10) (eI (gD aA j10)) (eI (gD aA j10)) (List.map (eI) aA) hO (bW c6) ?_
      obtain ⟨c7, h1⟩ := aZ h1
      refine cH 11 [0 ≤ i9 ∧ i9 < (lN aA)] ⟨c7, trivial⟩ ?_
      refine gW 0 lo0p 1 (0 + Int.toNat i9) (eI (gD aA i9)) (eI (gD aA i9)) (List.map (eI) aA) hO (bW c7) ?_
      obtain ⟨c8, h1⟩ := aZ h1
      refine cH 13 [0 ≤ i9 ∧ i9 < (lN aA)] ⟨c8, trivial⟩ ?_
      refine kP 0 lo0p 1 (0 + Int.toNat i9) (eI (gD aA i9)) (eI (gD aA j10)) (List.map (eI) aA) [(lo0p, 1, List.map (eI) (List.set aA (Int.toNat i9) (gD aA j10)))] hO (bW c8) (by simp only [List.set, hU]) ?_
      intro H hO
      replace hN : List.length (List.set aA (Int.toNat i9) (gD aA j10)) = N0 := by simpa using hN
      obtain ⟨c9, h1⟩ := aZ h1
      refine cH 15 [0 ≤ j10 ∧ j10 < (lN aA)] ⟨c9, trivial⟩ ?_
      refine kP 0 lo0p 1 (0 + Int.toNat j10) (eI (gD (List.set aA (Int.toNat i9) (gD aA j10)) j10)) (eI (gD aA i9)) (List.map (eI) (List.set aA (Int.toNat i9) (gD aA j10))) [(lo0p, 1, List.map (eI) (List.set (List.set aA (Int.toNat i9) (gD aA j10)) (Int.toNat j10) (gD aA i9)))] hO (mN c9 (by simp [])) (by simp only [List.set, hU]) ?_
      intro H hO
      replace hN : List.length (List.set (List.set aA (Int.toNat i9) (gD aA j10)) (Int.toNat j10) (gD aA i9)) = N0 := by simpa using hN
      refine nC (by kernel_rfl) ?_
      refine eD (l := [(0, (.msl 1 lo0p 0 (List.length (List.set (List.set aA (Int.toNat i9) (gD aA j10)) (Int.toNat j10) (gD aA i9))))), (1, (eI a1)), (9, (eI i9)), (10, (eI j10))]) ⟨[(0, (.msl 1 lo0p 0 (List.length aA))), (1, (eI a1)), (9, (eI i9)), (10, (eI j10))], by kernel_rfl, rfl, ⟨aN.eq (by simp []), aN.refl _, aN.refl _, aN.refl _, trivial⟩⟩ ?_
      refine aF (aJ (?_))
      refine aW aD 3 [9] [(9, (eI (wR (i9 + (1 : Int)))))] ?_
      refine aS aD 3 ?_
      refine bA ?_
      exact aF (aX (aJ (⟨rfl, _, (oI h1).symm, .eq (by kernel_rfl), hO, hN⟩)))
    refine cC 4 ?_
    refine fQ [(0, (.msl 1 lo0p 0 (List.length aA))), (1, (eI a1)), (9, (eI i9)), (10, (eI j10))] ?_
    refine fV (fun T H => ∃ aA : List Int, ∃ j10 : Int, Has T [(0, (.msl 1 lo0p 0 (List.length aA))), (1, (eI a1)), (9, (eI i9)), (10, (eI j10))] ∧ aK ⟨H0, [lo0p], []⟩ H [(lo0p, 1, List.map (eI) aA)] ∧ List.length aA = N0 ∧ iT aA a1 i9 j10 = some out1) ?_ ⟨aA, j10, .eq (by kernel_rfl), hO, hN, h1⟩
    clear hO hN h1
    rintro T H ⟨aA, j10, hT, hO, hN, h1⟩
    refine bK hT ?_
    clear hT
    unfold iT at h1
    obtain ⟨rr1, hl1, h1⟩ := aV h1
    refine dV (by kernel_rfl) (fun (s : List Int × Int) T H => Has T [(0, (.msl 1 lo0p 0 (List.length s.1))), (1, (eI a1)), (9, (eI i9)), (10, (eI s.2))] ∧ aK ⟨H0, [lo0p], []⟩ H [(lo0p, 1, List.map (eI) s.1)] ∧ List.length s.1 = N0) hl1 ⟨.eq (by kernel_rfl), hO, hN⟩ ?_
    clear hO hN
    rintro k1 s out2 T H ⟨hT, hO, hN⟩ h2 ho1
    obtain ⟨aA, j10⟩ := s
    replace h2 : dO a1 i9 aA j10 = some out2 := h2
    try dsimp only at hT
    refine bK hT ?_
    clear hT
    unfold dO at h2
    refine aM ?_
    refine aM ?_
    obtain ⟨c10, h2⟩ := aZ h2
    obtain ⟨c11, h2⟩ := aZ h2
    obtain ⟨x12, hx13, h2⟩ := aV h2
    refine gI (gH []) aD 14 ?_
    refine oR (K := fun T H => Has (lift T) [(0, (.msl 1 lo0p 0 (List.length aA))), (1, (eI a1)), (9, (eI i9)), (10, (eI j10)), (59, (aC ((decide (i9 ≤ j10)) && x12)))] ∧ aK ⟨H0, [lo0p], []⟩ H [(lo0p, 1, List.map (eI) aA)]) ?_ ?_
    · refine lR 4 ?_
      refine nT (t := 49) (e := decide (i9 ≤ j10)) (by kernel_rfl) (fun hg14 => ?_) (fun hg14 => ?_)
      · refine cH 7 [0 ≤ a1 ∧ a1 < (lN aA)] ⟨(c10 hg14), trivial⟩ ?_
        refine jI 0 lo0p 1 (0 + Int.toNat a1) (eI (gD aA a1)) (eI (gD aA a1)) (List.map (eI) aA) (by kernel_rfl) (by kernel_rfl) (by kernel_rfl) hO (by kernel_rfl) (bW (c10 hg14)) ?_
        refine cH 11 [0 ≤ j10 ∧ j10 < (lN aA)] ⟨(c11 hg14), trivial⟩ ?_
        refine jI 0 lo0p 1 (0 + Int.toNat j10) (eI (gD aA j10)) (eI (gD aA j10)) (List.map (eI) aA) (by kernel_rfl) (by kernel_rfl) (by kernel_rfl) hO (by kernel_rfl) (bW (c11 hg14)) ?_
        refine nX 84 [(eI (gD aA a1)), (eI (gD aA j10))] (aC x12) (by kernel_rfl) (by kernel_rfl) (fJ (gD aA a1) (gD aA j10) _ (jN hx13 hg14)) hO ?_
        intro H hO
        refine kM ?_
        exact ⟨⟨[(0, (.msl 1 lo0p 0 (List.length aA))), (1, (eI a1)), (9, (eI i9)), (10, (eI j10)), (59, (aC x12))], by kernel_rfl, rfl, ⟨aN.refl _, aN.refl _, aN.refl _, aN.refl _, aN.eq (congrArg aC (nA hg14 rfl).symm), trivial⟩⟩, hO⟩
      refine kM ?_
      exact ⟨⟨[(0, (.msl 1 lo0p 0 (List.length aA))), (1, (eI a1)), (9, (eI i9)), (10, (eI j10)), (59, (aC false))], by kernel_rfl, rfl, ⟨aN.refl _, aN.refl _, aN.refl _, aN.refl _, aN.eq (congrArg aC (nA hg14 rfl).symm), trivial⟩⟩, hO⟩
    · rintro T H ⟨hT, hO⟩
      refine eD hT ?_
      clear hT
      refine aF (aJ ?_)
      refine bQ h2 (fun h2 => ?_) (fun h2 => ?_)
      · refine bR ?_
        refine bC [(0, (.msl 1 lo0p 0 (List.length aA))), (1, (eI a1)), (9, (eI i9)), (10, (eI j10))] ?_
        refine cC 5 ?_
        refine aS aD 3 ?_
        refine bA ?_
        exact aF (aX (aJ (⟨rfl, _, (oI h2).symm, .eq (by kernel_rfl), hO, hN⟩)))
      refine jD 4 ?_
      obtain rfl := oI h2
      obtain rfl : _ = rr1 := ho1
      replace h1 : dN aA a1 i9 j10 = some out1 := h1
      exact aF (aY (aY (cD (aJ (⟨rfl, _, _, .eq (by kernel_rfl), hO, hN, h1⟩)))))
  refine cC 2 ?_
  refine fQ [(0, (.msl 1 lo0p 0 (List.length aA))), (1, (eI a1)), (9, (eI i9)), (10, (eI j10))] ?_
  refine fV (fun T H => ∃ aA : List Int, ∃ i9 : Int, Has T [(0, (.msl 1 lo0p 0 (List.length aA))), (1, (eI a1)), (9, (eI i9)), (10, (eI j10))] ∧ aK ⟨H0, [lo0p], []⟩ H [(lo0p, 1, List.map (eI) aA)] ∧ List.length aA = N0 ∧ iS aA a1 i9 j10 = some out1) ?_ ⟨aA, i9, .eq (by kernel_rfl), hO, hN, h1⟩
  clear hO hN h1
  rintro T H ⟨aA, i9, hT, hO, hN, h1⟩
  refine bK hT ?_
  clear hT
  unfold iS at h1
  obtain ⟨rr1, hl1, h1⟩ := aV h1
  refine dV (by kernel_rfl) (fun (s : List Int × Int) T H => Has T [(0, (.msl 1 lo0p 0 (List.length s.1))), (1, (eI a1)), (9, (eI s.2)), (10, (eI j10))] ∧ aK ⟨H0, [lo0p], []⟩ H [(lo0p, 1, List.map (eI) s.1)] ∧ List.length s.1 = N0) hl1 ⟨.eq (by kernel_rfl), hO, hN⟩ ?_
  clear hO hN
  rintro k1 s out2 T H ⟨hT, hO, hN⟩ h2 ho1
  obtain ⟨aA, i9⟩ := s
  replace h2 : dP a1 j10 aA i9 = some out2 := h2
  try dsimp only at hT
  refine bK hT ?_
  clear hT
  unfold dP at h2
  refine aM ?_
  refine aM ?_
  obtain ⟨c16, h2⟩ := aZ h2
  obtain ⟨c17, h2⟩ := aZ h2
  obtain ⟨x18, hx19, h2⟩ := aV h2
  refine gI (gH []) aD 15 ?_
  refine oR (K := fun T H => Has (lift T) [(0, (.msl 1 lo0p 0 (List.length aA))), (1, (eI a1)), (9, (eI i9)), (10, (eI j10)), (43, (aC ((decide (i9 ≤ j10)) && (!x18))))] ∧ aK ⟨H0, [lo0p], []⟩ H [(lo0p, 1, List.map (eI) aA)]) ?_ ?_
  · refine lR 4 ?_
    refine nT (t := 32) (e := decide (i9 ≤ j10)) (by kernel_rfl) (fun hg20 => ?_) (fun hg20 => ?_)
    · refine cH 7 [0 ≤ a1 ∧ a1 < (lN aA)] ⟨(c16 hg20), trivial⟩ ?_
      refine jI 0 lo0p 1 (0 + Int.toNat a1) (eI (gD aA a1)) (eI (gD aA a1)) (List.map (eI) aA) (by kernel_rfl) (by kernel_rfl) (by kernel_rfl) hO (by kernel_rfl) (bW (c16 hg20)) ?_
      refine cH 11 [0 ≤ i9 ∧ i9 < (lN aA)] ⟨(c17 hg20), trivial⟩ ?_
      refine jI 0 lo0p 1 (0 + Int.toNat i9) (eI (gD aA i9)) (eI (gD aA i9)) (List.map (eI) aA) (by kernel_rfl) (by kernel_rfl) (by kernel_rfl) hO (by kernel_rfl) (bW (c17 hg20)) ?_
      refine nX 84 [(eI (gD aA a1)), (eI (gD aA i9))] (aC x18) (by kernel_rfl) (by kernel_rfl) (fJ (gD aA a1) (gD aA i9) _ (jN hx19 hg20)) hO ?_
      intro H hO
      refine kM ?_
      exact ⟨⟨[(0, (.msl 1 lo0p 0 (List.length aA))), (1, (eI a1)), (9, (eI i9)), (10, (eI j10)), (43, (aC (!x18)))], by kernel_rfl, rfl, ⟨aN.refl _, aN.refl _, aN.refl _, aN.refl _, aN.eq (congrArg aC (nA hg20 rfl).symm), trivial⟩⟩, hO⟩
    refine kM ?_
    exact ⟨⟨[(0, (.msl 1 lo0p 0 (List.length aA))), (1, (eI a1)), (9, (eI i9)), (10, (eI j10)), (43, (aC false))], by kernel_rfl, rfl, ⟨aN.refl _, aN.refl _, aN.refl _, aN.refl _, aN.eq (congrArg aC (nA hg20 rfl).symm), trivial⟩⟩, hO⟩
  · rintro T H ⟨hT, hO⟩
    refine eD hT ?_
    clear hT
    refine aF (aJ ?_)
    refine bQ h2 (fun h2 => ?_) (fun h2 => ?_)
    · refine bR ?_
      refine bC [(0, (.msl 1 lo0p 0 (List.length aA))), (1, (eI a1)), (9, (eI i9)), (10, (eI j10))] ?_
      refine cC 3 ?_
      refine aS aD 3 ?_
      refine bA ?_
      exact aF (aX (aJ (⟨rfl, _, (oI h2).symm, .eq (by kernel_rfl), hO, hN⟩)))
    refine jD 2 ?_
    obtain rfl := oI h2
    obtain rfl : _ = rr1 := ho1
    replace h1 : fO aA a1 i9 j10 = some out1 := h1
    exact aF (aY (aY (cD (aJ (⟨rfl, _, _, .eq (by kernel_rfl), hO, hN, h1⟩)))))

theorem vZ (lo0p : Nat) (aA : (List Int)) (a1 : Int) (b2 : Int) (cG : Int) (r : ((Int × Bool) × List Int)) (h0 : gE aA a1 b2 cG = some r) : mS Try.prog 86 lo0p 1 (List.map (eI) aA) (List.map (eI) r.2) [(.msl 1 lo0p 0 (List.length aA)), (eI a1), (eI b2), (eI cG)] (.tup [(eI r.1.1), (aC r.1.2)]) := by
  intro H0 hl0
  refine dL Try.func86 ?_
  have hO := aK.qX hl0
  clear hl0
  obtain ⟨N0, hN0⟩ : ∃ n, n = List.length aA := ⟨_, rfl⟩
  have hN : List.length aA = N0 := hN0.symm
  unfold gE at h0
  refine aW aD 2 [] [] ?_
  refine aM ?_
  refine gI (gH []) aD 16 ?_
  obtain ⟨c1, h0⟩ := aZ h0
  refine cH 7 [0 ≤ cG ∧ cG < (lN aA)] ⟨c1, trivial⟩ ?_
  refine gW 0 lo0p 1 (0 + Int.toNat cG) (eI (gD aA cG)) (eI (gD aA cG)) (List.map (eI) aA) hO (bW c1) ?_
  obtain ⟨c2, h0⟩ := aZ h0
  refine cH 11 [0 ≤ a1 ∧ a1 < (lN aA)] ⟨c2, trivial⟩ ?_
  refine gW 0 lo0p 1 (0 + Int.toNat a1) (eI (gD aA a1)) (eI (gD aA a1)) (List.map (eI) aA) hO (bW c2) ?_
  obtain ⟨c3, h0⟩ := aZ h0
  refine cH 13 [0 ≤ a1 ∧ a1 < (lN aA)] ⟨c3, trivial⟩ ?_
  refine kP 0 lo0p 1 (0 + Int.toNat a1) (eI (gD aA a1)) (eI (gD aA cG)) (List.map (eI) aA) [(lo0p, 1, List.map (eI) (List.set aA (Int.toNat a1) (gD aA cG)))] hO (bW c3) (by simp only [List.set, hU]) ?_
  intro H hO
  replace hN : List.length (List.set aA (Int.toNat a1) (gD aA cG)) = N0 := by simpa using hN
  obtain ⟨c4, h0⟩ := aZ h0
  refine cH 15 [0 ≤ cG ∧ cG < (lN aA)] ⟨c4, trivial⟩ ?_
  refine kP 0 lo0p 1 (0 + Int.toNat cG) (eI (gD (List.set aA (Int.toNat a1) (gD aA cG)) cG)) (eI (gD aA a1)) (List.map (eI) (List.set aA (Int.toNat a1) (gD aA cG))) [(lo0p, 1, List.map (eI) (List.set (List.set aA (Int.toNat a1) (gD aA cG)) (Int.toNat cG) (gD aA a1)))] hO (mN c4 (by simp [])) (by simp only [List.set, hU]) ?_
  intro H hO
  replace hN : List.length (List.set (List.set aA (Int.toNat a1) (gD aA cG)) (Int.toNat cG) (gD aA a1)) = N0 := by simpa using hN
  refine nC (by kernel_rfl) ?_
  refine eD (l := [(0, (.msl 1 lo0p 0 (List.length (List.set (List.set aA (Int.toNat a1) (gD aA cG)) (Int.toNat cG) (gD aA a1))))), (1, (eI a1)), (2, (eI b2))]) ⟨[(0, (.msl 1 lo0p 0 (List.length aA))), (1, (eI a1)), (2, (eI b2))], by kernel_rfl, rfl, ⟨aN.eq (by simp []), aN.refl _, aN.refl _, trivial⟩⟩ ?_
  refine aF (aJ (?_))
  refine aW aD 6 [2] [(10, (eI (wR (a1 + (1 : Int))))), (11, (eI (wR (b2 - (1 : Int)))))] ?_
  refine iI (fun T H => ∃ aA : List Int, ∃ i10 : Int, ∃ j11 : Int, Has T [(0, (.msl 1 lo0p 0 (List.length aA))), (1, (eI a1)), (10, (eI i10)), (11, (eI j11))] ∧ aK ⟨H0, [lo0p], []⟩ H [(lo0p, 1, List.map (eI) aA)] ∧ List.length aA = N0 ∧ iG aA a1 i10 j11 = some r) ?_ ?_
  · clear hO hN h0
    rintro T H ⟨aA, i10, j11, hT, hO, hN, h0⟩
    refine bK hT ?_
    clear hT
    unfold iG at h0
    refine iI (fun T H => ∃ aA : List Int, ∃ j11 : Int, Has T [(0, (.msl 1 lo0p 0 (List.length aA))), (1, (eI a1)), (10, (eI i10)), (11, (eI j11))] ∧ aK ⟨H0, [lo0p], []⟩ H [(lo0p, 1, List.map (eI) aA)] ∧ List.length aA = N0 ∧ eP aA a1 i10 j11 = some r) ?_ ?_
    · clear hO hN h0
      rintro T H ⟨aA, j11, hT, hO, hN, h0⟩
      refine bK hT ?_
      clear hT
      unfold eP at h0
      refine aM ?_
      refine aW aD 3 [] [(65, (aC (decide (j11 < i10))))] ?_
      refine bQ h0 (fun h0 => ?_) (fun h0 => ?_)
      · refine aM ?_
        refine gI (gH []) aD 16 ?_
        obtain ⟨c6, h0⟩ := aZ h0
        refine cH 7 [0 ≤ a1 ∧ a1 < (lN aA)] ⟨c6, trivial⟩ ?_
        refine gW 0 lo0p 1 (0 + Int.toNat a1) (eI (gD aA a1)) (eI (gD aA a1)) (List.map (eI) aA) hO (bW c6) ?_
        obtain ⟨c7, h0⟩ := aZ h0
        refine cH 11 [0 ≤ j11 ∧ j11 < (lN aA)] ⟨c7, trivial⟩ ?_
        refine gW 0 lo0p 1 (0 + Int.toNat j11) (eI (gD aA j11)) (eI (gD aA j11)) (List.map (eI) aA) hO (bW c7) ?_
        obtain ⟨c8, h0⟩ := aZ h0
        refine cH 13 [0 ≤ j11 ∧ j11 < (lN aA)] ⟨c8, trivial⟩ ?_
        refine kP 0 lo0p 1 (0 + Int.toNat j11) (eI (gD aA j11)) (eI (gD aA a1)) (List.map (eI) aA) [(lo0p, 1, List.map (eI) (List.set aA (Int.toNat j11) (gD aA a1)))] hO (bW c8) (by simp only [List.set, hU]) ?_
        intro H hO
        replace hN : List.length (List.set aA (Int.toNat j11) (gD aA a1)) = N0 := by simpa using hN
        obtain ⟨c9, h0⟩ := aZ h0
        refine cH 15 [0 ≤ a1 ∧ a1 < (lN aA)] ⟨c9, trivial⟩ ?_
        refine kP 0 lo0p 1 (0 + Int.toNat a1) (eI (gD (List.set aA (Int.toNat j11) (gD aA a1)) a1)) (eI (gD aA j11)) (List.map (eI) (List.set aA (Int.toNat j11) (gD aA a1))) [(lo0p, 1, List.map (eI) (List.set (List.set aA (Int.toNat j11) (gD aA a1)) (Int.toNat a1) (gD aA j11)))] hO (mN c9 (by simp [])) (by simp only [List.set, hU]) ?_
        intro H hO
        replace hN : List.length (List.set (List.set aA (Int.toNat j11) (gD aA a1)) (Int.toNat a1) (gD aA j11)) = N0 := by simpa using hN
        refine nC (by kernel_rfl) ?_
        refine eD (l := [(0, (.msl 1 lo0p 0 (List.length (List.set (List.set aA (Int.toNat j11) (gD aA a1)) (Int.toNat a1) (gD aA j11))))), (11, (eI j11))]) ⟨[(0, (.msl 1 lo0p 0 (List.length aA))), (11, (eI j11))], by kernel_rfl, rfl, ⟨aN.eq (by simp []), aN.refl _, trivial⟩⟩ ?_
        refine aF (aJ (?_))
        refine aW aD 3 [11] [(8, (eI j11)), (9, (aC true))] ?_
        refine bI ?_
        obtain rfl := oI h0
        exact aF (aR (kY (x := (.tup [(eI j11), (aC true)])) (by kernel_rfl) (aN.refl _) ⟨rfl, hO.ext, hO.at 0 (by kernel_rfl), by simp only [List.length_map]; exact hN.trans hN0⟩))
      refine bR ?_
      refine bC [(0, (.msl 1 lo0p 0 (List.length aA))), (1, (eI a1)), (10, (eI i10)), (11, (eI j11))] ?_
      refine aM ?_
      refine gI (gH []) aD 16 ?_
      obtain ⟨c10, h0⟩ := aZ h0
      refine cH 7 [0 ≤ j11 ∧ j11 < (lN aA)] ⟨c10, trivial⟩ ?_
      refine gW 0 lo0p 1 (0 + Int.toNat j11) (eI (gD aA j11)) (eI (gD aA j11)) (List.map (eI) aA) hO (bW c10) ?_
      obtain ⟨c11, h0⟩ := aZ h0
      refine cH 11 [0 ≤ i10 ∧ i10 < (lN aA)] ⟨c11, trivial⟩ ?_
      refine gW 0 lo0p 1 (0 + Int.toNat i10) (eI (gD aA i10)) (eI (gD aA i10)) (List.map (eI) aA) hO (bW c11) ?_
      obtain ⟨c12, h0⟩ := aZ h0
      refine cH 13 [0 ≤ i10 ∧ i10 < (lN aA)] ⟨c12, trivial⟩ ?_
      refine kP 0 lo0p 1 (0 + Int.toNat i10) (eI (gD aA i10)) (eI (gD aA j11)) (List.map (eI) aA) [(lo0p, 1, List.map (eI) (List.set aA (Int.toNat i10) (gD aA j11)))] hO (bW c12) (by simp only [List.set, hU]) ?_
      intro H hO
      replace hN : List.length (List.set aA (Int.toNat i10) (gD aA j11)) = N0 := by simpa using hN
      obtain ⟨c13, h0⟩ := aZ h0
      refine cH 15 [0 ≤ j11 ∧ j11 < (lN aA)] ⟨c13, trivial⟩ ?_
      refine kP 0 lo0p 1 (0 + Int.toNat j11) (eI (gD (List.set aA (Int.toNat i10) (gD aA j11)) j11)) (eI (gD aA i10)) (List.map (eI) (List.set aA (Int.toNat i10) (gD aA j11))) [(lo0p, 1, List.map (eI) (List.set (List.set aA (Int.toNat i10) (gD aA j11)) (Int.toNat j11) (gD aA i10)))] hO (mN c13 (by simp [])) (by simp only [List.set, hU]) ?_
      intro H hO
      replace hN : List.length (List.set (List.set aA (Int.toNat i10) (gD aA j11)) (Int.toNat j11) (gD aA i10)) = N0 := by simpa using hN
      refine nC (by kernel_rfl) ?_
      refine eD (l := [(0, (.msl 1 lo0p 0 (List.length (List.set (List.set aA (Int.toNat i10) (gD aA j11)) (Int.toNat j11) (gD aA i10))))), (1, (eI a1)), (10, (eI i10)), (11, (eI j11))]) ⟨[(0, (.msl 1 lo0p 0 (List.length aA))), (1, (eI a1)), (10, (eI i10)), (11, (eI j11))], by kernel_rfl, rfl, ⟨aN.eq (by simp []), aN.refl _, aN.refl _, aN.refl _, trivial⟩⟩ ?_
      refine aF (aJ (?_))
      refine aW aD 3 [10] [(10, (eI (wR (i10 + (1 : Int)))))] ?_
      refine aW aD 3 [11] [(11, (eI (wR (j11 - (1 : Int)))))] ?_
      refine iI (fun T H => ∃ aA : List Int, ∃ j11 : Int, Has T [(0, (.msl 1 lo0p 0 (List.length aA))), (1, (eI a1)), (11, (eI j11))] ∧ aK ⟨H0, [lo0p], []⟩ H [(lo0p, 1, List.map (eI) aA)] ∧ List.length aA = N0 ∧ iK aA a1 j11 = some r) ?_ ?_
      · clear hO hN h0
        rintro T H ⟨aA, j11, hT, hO, hN, h0⟩
        refine bK hT ?_
        clear hT
        unfold iK at h0
        refine aM ?_
        refine gI (gH []) aD 16 ?_
        obtain ⟨c14, h0⟩ := aZ h0
        refine cH 7 [0 ≤ a1 ∧ a1 < (lN aA)] ⟨c14, trivial⟩ ?_
        refine gW 0 lo0p 1 (0 + Int.toNat a1) (eI (gD aA a1)) (eI (gD aA a1)) (List.map (eI) aA) hO (bW c14) ?_
        obtain ⟨c15, h0⟩ := aZ h0
        refine cH 11 [0 ≤ j11 ∧ j11 < (lN aA)] ⟨c15, trivial⟩ ?_
        refine gW 0 lo0p 1 (0 + Int.toNat j11) (eI (gD aA j11)) (eI (gD aA j11)) (List.map (eI) aA) hO (bW c15) ?_
        obtain ⟨c16, h0⟩ := aZ h0
        refine cH 13 [0 ≤ j11 ∧ j11 < (lN aA)] ⟨c16, trivial⟩ ?_
        refine kP 0 lo0p 1 (0 + Int.toNat j11) (eI (gD aA j11)) (eI (gD aA a1)) (List.map (eI) aA) [(lo0p, 1, List.map (eI) (List.set aA (Int.toNat j11) (gD aA a1)))] hO (bW c16) (by simp only [List.set, hU]) ?_
        intro H hO
        replace hN : List.length (List.set aA (Int.toNat j11) (gD aA a1)) = N0 := by simpa using hN
        obtain ⟨c17, h0⟩ := aZ h0
        refine cH 15 [0 ≤ a1 ∧ a1 < (lN aA)] ⟨c17, trivial⟩ ?_
        refine kP 0 lo0p 1 (0 + Int.toNat a1) (eI (gD (List.set aA (Int.toNat j11) (gD aA a1)) a1)) (eI (gD aA j11)) (List.map (eI) (List.set aA (Int.toNat j11) (gD aA a1))) [(lo0p, 1, List.map (eI) (List.set (List.set aA (Int.toNat j11) (gD aA a1)) (Int.toNat a1) (gD aA j11)))] hO (mN c17 (by simp [])) (by simp only [List.set, hU]) ?_
        intro H hO
        replace hN : List.length (List.set (List.set aA (Int.toNat j11) (gD aA a1)) (Int.toNat a1) (gD aA j11)) = N0 := by simpa using hN
        refine nC (by kernel_rfl) ?_
        refine eD (l := [(0, (.msl 1 lo0p 0 (List.length (List.set (List.set aA (Int.toNat j11) (gD aA a1)) (Int.toNat a1) (gD aA j11))))), (11, (eI j11))]) ⟨[(0, (.msl 1 lo0p 0 (List.length aA))), (11, (eI j11))], by kernel_rfl, rfl, ⟨aN.eq (by simp []), aN.refl _, trivial⟩⟩ ?_
        refine aF (aJ (?_))
        refine aW aD 3 [11] [(8, (eI j11)), (9, (aC false))] ?_
        refine bI ?_
        obtain rfl := oI h0
        exact aF (kY (x := (.tup [(eI j11), (aC false)])) (by kernel_rfl) (aN.refl _) ⟨rfl, hO.ext, hO.at 0 (by kernel_rfl), by simp only [List.length_map]; exact hN.trans hN0⟩)
      refine cC 4 ?_
      refine fQ [(0, (.msl 1 lo0p 0 (List.length (List.set (List.set aA (Int.toNat i10) (gD aA j11)) (Int.toNat j11) (gD aA i10))))), (1, (eI a1)), (10, (eI (wR (i10 + (1 : Int))))), (11, (eI (wR (j11 - (1 : Int)))))] ?_
      refine fV (fun T H => ∃ aA : List Int, ∃ i10 : Int, ∃ j11 : Int, Has T [(0, (.msl 1 lo0p 0 (List.length aA))), (1, (eI a1)), (10, (eI i10)), (11, (eI j11))] ∧ aK ⟨H0, [lo0p], []⟩ H [(lo0p, 1, List.map (eI) aA)] ∧ List.length aA = N0 ∧ jU aA a1 i10 j11 = some r) ?_ ⟨List.set (List.set aA (Int.toNat i10) (gD aA j11)) (Int.toNat j11) (gD aA i10), wR (i10 + (1 : Int)), wR (j11 - (1 : Int)), .eq (by kernel_rfl), hO, hN, h0⟩
      clear hO hN h0
      rintro T H ⟨aA, i10, j11, hT, hO, hN, h0⟩
      refine bK hT ?_
      clear hT
      unfold jU at h0
      obtain ⟨rr0, hl0, h0⟩ := aV h0
      refine dV (by kernel_rfl) (fun (s : List Int × Int × Int) T H => Has T [(0, (.msl 1 lo0p 0 (List.length s.1))), (1, (eI a1)), (10, (eI s.2.1)), (11, (eI s.2.2))] ∧ aK ⟨H0, [lo0p], []⟩ H [(lo0p, 1, List.map (eI) s.1)] ∧ List.length s.1 = N0) hl0 ⟨.eq (by kernel_rfl), hO, hN⟩ ?_
      clear hO hN
      rintro k0 s out1 T H ⟨hT, hO, hN⟩ h1 ho0
      obtain ⟨aA, i10, j11⟩ := s
      replace h1 : dA a1 aA i10 j11 = some out1 := h1
      try dsimp only at hT
      refine bK hT ?_
      clear hT
      unfold dA at h1
      refine cC 5 ?_
      refine iI (fun T H => ∃ aA : List Int, ∃ i10 : Int, Has T [(0, (.msl 1 lo0p 0 (List.length aA))), (1, (eI a1)), (10, (eI i10)), (11, (eI j11))] ∧ aK ⟨H0, [lo0p], []⟩ H [(lo0p, 1, List.map (eI) aA)] ∧ List.length aA = N0 ∧ iJ aA a1 i10 j11 = some out1) ?_ ?_
      · clear hO hN h1
        rintro T H ⟨aA, i10, hT, hO, hN, h1⟩
        refine bK hT ?_
        clear hT
        unfold iJ at h1
        refine iI (fun T H => ∃ aA : List Int, ∃ j11 : Int, Has T [(0, (.msl 1 lo0p 0 (List.length aA))), (1, (eI a1)), (10, (eI i10)), (11, (eI j11))] ∧ aK ⟨H0, [lo0p], []⟩ H [(lo0p, 1, List.map (eI) aA)] ∧ List.length aA = N0 ∧ eJ aA a1 i10 j11 = some out1) ?_ ?_
        · clear hO hN h1
          rintro T H ⟨aA, j11, hT, hO, hN, h1⟩
          refine bK hT ?_
          clear hT
          unfold eJ at h1
          refine aM ?_
          refine aW aD 3 [] [(134, (aC (decide (j11 < i10))))] ?_
          refine bQ h1 (fun h1 => ?_) (fun h1 => ?_)
          · refine jD 4 ?_
            obtain rfl := oI h1
            obtain rfl : _ = rr0 := ho0
            replace h0 : iK aA a1 j11 = some r := h0
            exact aF (aY (rN (by kernel_rfl) (aY (cD (aJ (⟨rfl, _, _, .eq (by kernel_rfl), hO, hN, h0⟩))))))
          refine bR ?_
          refine bC [(0, (.msl 1 lo0p 0 (List.length aA))), (1, (eI a1)), (10, (eI i10)), (11, (eI j11))] ?_
          refine aM ?_
          refine gI (gH []) aD 16 ?_
          obtain ⟨c19, h1⟩ := aZ h1
          refine cH 7 [0 ≤ j11 ∧ j11 < (lN aA)] ⟨c19, trivial⟩ ?_
          refine gW 0 lo0p 1 (0 + Int.toNat j11) (eI (gD aA j11)) (eI (gD aA j11)) (List.map (eI) aA) hO (bW c19) ?_
          obtain ⟨c20, h1⟩ := aZ h1
          refine cH 11 [0 ≤ i10 ∧ i10 < (lN aA)] ⟨c20, trivial⟩ ?_
          refine gW 0 lo0p 1 (0 + Int.toNat i10) (eI (gD aA i10)) (eI (gD aA i10)) (List.map (eI) aA) hO (bW c20) ?_
          obtain ⟨c21, h1⟩ := aZ h1
          refine cH 13 [0 ≤ i10 ∧ i10 < (lN aA)] ⟨c21, trivial⟩ ?_
          refine kP 0 lo0p 1 (0 + Int.toNat i10) (eI (gD aA i10)) (eI (gD aA j11)) (List.map (eI) aA) [(lo0p, 1, List.map (eI) (List.set aA (Int.toNat i10) (gD aA j11)))] hO (bW c21) (by simp only [List.set, hU]) ?_
          intro H hO
          replace hN : List.length (List.set aA (Int.toNat i10) (gD aA j11)) = N0 := by simpa using hN
          obtain ⟨c22, h1⟩ := aZ h1
          refine cH 15 [0 ≤ j11 ∧ j11 < (lN aA)] ⟨c22, trivial⟩ ?_
          refine kP 0 lo0p 1 (0 + Int.toNat j11) (eI (gD (List.set aA (Int.toNat i10) (gD aA j11)) j11)) (eI (gD aA i10)) (List.map (eI) (List.set aA (Int.toNat i10) (gD aA j11))) [(lo0p, 1, List.map (eI) (List.set (List.set aA (Int.toNat i10) (gD aA j11)) (Int.toNat j11) (gD aA i10)))] hO (mN c22 (by simp [])) (by simp only [List.set, hU]) ?_
          intro H hO
          replace hN : List.length (List.set (List.set aA (Int.toNat i10) (gD aA j11)) (Int.toNat j11) (gD aA i10)) = N0 := by simpa using hN
          refine nC (by kernel_rfl) ?_
          refine eD (l := [(0, (.msl 1 lo0p 0 (List.length (List.set (List.set aA (Int.toNat i10) (gD aA j11)) (Int.toNat j11) (gD aA i10))))), (1, (eI a1)), (10, (eI i10)), (11, (eI j11))]) ⟨[(0, (.msl 1 lo0p 0 (List.length aA))), (1, (eI a1)), (10, (eI i10)), (11, (eI j11))], by kernel_rfl, rfl, ⟨aN.eq (by simp []), aN.refl _, aN.refl _, aN.refl _, trivial⟩⟩ ?_
          refine aF (aJ (?_))
          refine aW aD 3 [10] [(10, (eI (wR (i10 + (1 : Int)))))] ?_
          refine aS aD 3 ?_
          refine bA ?_
          exact aF (aX (aJ (⟨rfl, _, (oI h1).symm, .eq (by kernel_rfl), hO, hN⟩)))
        refine cC 8 ?_
        refine fQ [(0, (.msl 1 lo0p 0 (List.length aA))), (1, (eI a1)), (10, (eI i10)), (11, (eI j11))] ?_
        refine fV (fun T H => ∃ aA : List Int, ∃ j11 : Int, Has T [(0, (.msl 1 lo0p 0 (List.length aA))), (1, (eI a1)), (10, (eI i10)), (11, (eI j11))] ∧ aK ⟨H0, [lo0p], []⟩ H [(lo0p, 1, List.map (eI) aA)] ∧ List.length aA = N0 ∧ jW aA a1 i10 j11 = some out1) ?_ ⟨aA, j11, .eq (by kernel_rfl), hO, hN, h1⟩
        clear hO hN h1
        rintro T H ⟨aA, j11, hT, hO, hN, h1⟩
        refine bK hT ?_
        clear hT
        unfold jW at h1
        obtain ⟨rr1, hl1, h1⟩ := aV h1
        refine dV (by kernel_rfl) (fun (s : List Int × Int) T H => Has T [(0, (.msl 1 lo0p 0 (List.length s.1))), (1, (eI a1)), (10, (eI i10)), (11, (eI s.2))] ∧ aK ⟨H0, [lo0p], []⟩ H [(lo0p, 1, List.map (eI) s.1)] ∧ List.length s.1 = N0) hl1 ⟨.eq (by kernel_rfl), hO, hN⟩ ?_
        clear hO hN
        rintro k1 s out2 T H ⟨hT, hO, hN⟩ h2 ho1
        obtain ⟨aA, j11⟩ := s
        replace h2 : eK a1 i10 aA j11 = some out2 := h2
        try dsimp only at hT
        refine bK hT ?_
        clear hT
        unfold eK at h2
        refine aM ?_
        refine aM ?_
        obtain ⟨c23, h2⟩ := aZ h2
        obtain ⟨c24, h2⟩ := aZ h2
        obtain ⟨x25, hx26, h2⟩ := aV h2
        refine gI (gH []) aD 15 ?_
        refine oR (K := fun T H => Has (lift T) [(0, (.msl 1 lo0p 0 (List.length aA))), (1, (eI a1)), (10, (eI i10)), (11, (eI j11)), (129, (aC ((decide (i10 ≤ j11)) && (!x25))))] ∧ aK ⟨H0, [lo0p], []⟩ H [(lo0p, 1, List.map (eI) aA)]) ?_ ?_
        · refine lR 4 ?_
          refine nT (t := 118) (e := decide (i10 ≤ j11)) (by kernel_rfl) (fun hg27 => ?_) (fun hg27 => ?_)
          · refine cH 7 [0 ≤ j11 ∧ j11 < (lN aA)] ⟨(c23 hg27), trivial⟩ ?_
            refine jI 0 lo0p 1 (0 + Int.toNat j11) (eI (gD aA j11)) (eI (gD aA j11)) (List.map (eI) aA) (by kernel_rfl) (by kernel_rfl) (by kernel_rfl) hO (by kernel_rfl) (bW (c23 hg27)) ?_
            refine cH 11 [0 ≤ a1 ∧ a1 < (lN aA)] ⟨(c24 hg27), trivial⟩ ?_
            refine jI 0 lo0p 1 (0 + Int.toNat a1) (eI (gD aA a1)) (eI (gD aA a1)) (List.map (eI) aA) (by kernel_rfl) (by kernel_rfl) (by kernel_rfl) hO (by kernel_rfl) (bW (c24 hg27)) ?_
            refine nX 84 [(eI (gD aA j11)), (eI (gD aA a1))] (aC x25) (by kernel_rfl) (by kernel_rfl) (fJ (gD aA j11) (gD aA a1) _ (jN hx26 hg27)) hO ?_
            intro H hO
            refine kM ?_
            exact ⟨⟨[(0, (.msl 1 lo0p 0 (List.length aA))), (1, (eI a1)), (10, (eI i10)), (11, (eI j11)), (129, (aC (!x25)))], by kernel_rfl, rfl, ⟨aN.refl _, aN.refl _, aN.refl _, aN.refl _, aN.eq (congrArg aC (nA hg27 rfl).symm), trivial⟩⟩, hO⟩
          refine kM ?_
          exact ⟨⟨[(0, (.msl 1 lo0p 0 (List.length aA))), (1, (eI a1)), (10, (eI i10)), (11, (eI j11)), (129, (aC false))], by kernel_rfl, rfl, ⟨aN.refl _, aN.refl _, aN.refl _, aN.refl _, aN.eq (congrArg aC (nA hg27 rfl).symm), trivial⟩⟩, hO⟩
        · rintro T H ⟨hT, hO⟩
          refine eD hT ?_
          clear hT
          refine aF (aJ ?_)
          refine bQ h2 (fun h2 => ?_) (fun h2 => ?_)
          · refine bR ?_
            refine bC [(0, (.msl 1 lo0p 0 (List.length aA))), (1, (eI a1)), (10, (eI i10)), (11, (eI j11))] ?_
            refine cC 9 ?_
            refine aS aD 3 ?_
            refine bA ?_
            exact aF (aX (aJ (⟨rfl, _, (oI h2).symm, .eq (by kernel_rfl), hO, hN⟩)))
          refine jD 8 ?_
          obtain rfl := oI h2
          obtain rfl : _ = rr1 := ho1
          replace h1 : eJ aA a1 i10 j11 = some out1 := h1
          exact aF (aY (aY (cD (aJ (⟨rfl, _, _, .eq (by kernel_rfl), hO, hN, h1⟩)))))
      refine cC 6 ?_
      refine fQ [(0, (.msl 1 lo0p 0 (List.length aA))), (1, (eI a1)), (10, (eI i10)), (11, (eI j11))] ?_
      refine fV (fun T H => ∃ aA : List Int, ∃ i10 : Int, Has T [(0, (.msl 1 lo0p 0 (List.length aA))), (1, (eI a1)), (10, (eI i10)), (11, (eI j11))] ∧ aK ⟨H0, [lo0p], []⟩ H [(lo0p, 1, List.map (eI) aA)] ∧ List.length aA = N0 ∧ kA aA a1 i10 j11 = some out1) ?_ ⟨aA, i10, .eq (by kernel_rfl), hO, hN, h1⟩
      clear hO hN h1
      rintro T H ⟨aA, i10, hT, hO, hN, h1⟩
      refine bK hT ?_
      clear hT
      unfold kA at h1
      obtain ⟨rr1, hl1, h1⟩ := aV h1
      refine dV (by kernel_rfl) (fun (s : List Int × Int) T H => Has T [(0, (.msl 1 lo0p 0 (List.length s.1))), (1, (eI a1)), (10, (eI s.2)), (11, (eI j11))] ∧ aK ⟨H0, [lo0p], []⟩ H [(lo0p, 1, List.map (eI) s.1)] ∧ List.length s.1 = N0) hl1 ⟨.eq (by kernel_rfl), hO, hN⟩ ?_
      clear hO hN
      rintro k1 s out2 T H ⟨hT, hO, hN⟩ h2 ho1
      obtain ⟨aA, i10⟩ := s
      replace h2 : eN a1 j11 aA i10 = some out2 := h2
      try dsimp only at hT
      refine bK hT ?_
      clear hT
      unfold eN at h2
      refine aM ?_
      refine aM ?_
      obtain ⟨c29, h2⟩ := aZ h2
      obtain ⟨c30, h2⟩ := aZ h2
      obtain ⟨x31, hx32, h2⟩ := aV h2
      refine gI (gH []) aD 14 ?_
      refine oR (K := fun T H => Has (lift T) [(0, (.msl 1 lo0p 0 (List.length aA))), (1, (eI a1)), (10, (eI i10)), (11, (eI j11)), (112, (aC ((decide (i10 ≤ j11)) && x31)))] ∧ aK ⟨H0, [lo0p], []⟩ H [(lo0p, 1, List.map (eI) aA)]) ?_ ?_
      · refine lR 4 ?_
        refine nT (t := 102) (e := decide (i10 ≤ j11)) (by kernel_rfl) (fun hg33 => ?_) (fun hg33 => ?_)
        · refine cH 7 [0 ≤ i10 ∧ i10 < (lN aA)] ⟨(c29 hg33), trivial⟩ ?_
          refine jI 0 lo0p 1 (0 + Int.toNat i10) (eI (gD aA i10)) (eI (gD aA i10)) (List.map (eI) aA) (by kernel_rfl) (by kernel_rfl) (by kernel_rfl) hO (by kernel_rfl) (bW (c29 hg33)) ?_
          refine cH 11 [0 ≤ a1 ∧ a1 < (lN aA)] ⟨(c30 hg33), trivial⟩ ?_
          refine jI 0 lo0p 1 (0 + Int.toNat a1) (eI (gD aA a1)) (eI (gD aA a1)) (List.map (eI) aA) (by kernel_rfl) (by kernel_rfl) (by kernel_rfl) hO (by kernel_rfl) (bW (c30 hg33)) ?_
          refine nX 84 [(eI (gD aA i10)), (eI (gD aA a1))] (aC x31) (by kernel_rfl) (by kernel_rfl) (fJ (gD aA i10) (gD aA a1) _ (jN hx32 hg33)) hO ?_
          intro H hO
          refine kM ?_
          exact ⟨⟨[(0, (.msl 1 lo0p 0 (List.length aA))), (1, (eI a1)), (10, (eI i10)), (11, (eI j11)), (112, (aC x31))], by kernel_rfl, rfl, ⟨aN.refl _, aN.refl _, aN.refl _, aN.refl _, aN.eq (congrArg aC (nA hg33 rfl).symm), trivial⟩⟩, hO⟩
        refine kM ?_
        exact ⟨⟨[(0, (.msl 1 lo0p 0 (List.length aA))), (1, (eI a1)), (10, (eI i10)), (11, (eI j11)), (112, (aC false))], by kernel_rfl, rfl, ⟨aN.refl _, aN.refl _, aN.refl _, aN.refl _, aN.eq (congrArg aC (nA hg33 rfl).symm), trivial⟩⟩, hO⟩
      · rintro T H ⟨hT, hO⟩
        refine eD hT ?_
        clear hT
        refine aF (aJ ?_)
        refine bQ h2 (fun h2 => ?_) (fun h2 => ?_)
        · refine bR ?_
          refine bC [(0, (.msl 1 lo0p 0 (List.length aA))), (1, (eI a1)), (10, (eI i10)), (11, (eI j11))] ?_
          refine cC 7 ?_
          refine aS aD 3 ?_
          refine bA ?_
          exact aF (aX (aJ (⟨rfl, _, (oI h2).symm, .eq (by kernel_rfl), hO, hN⟩)))
        refine jD 6 ?_
        obtain rfl := oI h2
        obtain rfl : _ = rr1 := ho1
        replace h1 : iJ aA a1 i10 j11 = some out1 := h1
        exact aF (aY (aY (cD (aJ (⟨rfl, _, _, .eq (by kernel_rfl), hO, hN, h1⟩)))))
    refine cC 2 ?_
    refine fQ [(0, (.msl 1 lo0p 0 (List.length aA))), (1, (eI a1)), (10, (eI i10)), (11, (eI j11))] ?_
    refine fV (fun T H => ∃ aA : List Int, ∃ j11 : Int, Has T [(0, (.msl 1 lo0p 0 (List.length aA))), (1, (eI a1)), (10, (eI i10)), (11, (eI j11))] ∧ aK ⟨H0, [lo0p], []⟩ H [(lo0p, 1, List.map (eI) aA)] ∧ List.length aA = N0 ∧ jV aA a1 i10 j11 = some r) ?_ ⟨aA, j11, .eq (by kernel_rfl), hO, hN, h0⟩
    clear hO hN h0
    rintro T H ⟨aA, j11, hT, hO, hN, h0⟩
    refine bK hT ?_
    clear hT
    unfold jV at h0
    obtain ⟨rr0, hl0, h0⟩ := aV h0
    refine dV (by kernel_rfl) (fun (s : List Int × Int) T H => Has T [(0, (.msl 1 lo0p 0 (List.length s.1))), (1, (eI a1)), (10, (eI i10)), (11, (eI s.2))] ∧ aK ⟨H0, [lo0p], []⟩ H [(lo0p, 1, List.map (eI) s.1)] ∧ List.length s.1 = N0) hl0 ⟨.eq (by kernel_rfl), hO, hN⟩ ?_
    clear hO hN
    rintro k0 s out1 T H ⟨hT, hO, hN⟩ h1 ho0
    obtain ⟨aA, j11⟩ := s
    replace h1 : eO a1 i10 aA j11 = some out1 := h1
    try dsimp only at hT
    refine bK hT ?_
    clear hT
    unfold eO at h1
    refine aM ?_
    refine aM ?_
    obtain ⟨c35, h1⟩ := aZ h1
    obtain ⟨c36, h1⟩ := aZ h1
    obtain ⟨x37, hx38, h1⟩ := aV h1
    refine gI (gH []) aD 15 ?_
    refine oR (K := fun T H => Has (lift T) [(0, (.msl 1 lo0p 0 (List.length aA))), (1, (eI a1)), (10, (eI i10)), (11, (eI j11)), (60, (aC ((decide (i10 ≤ j11)) && (!x37))))] ∧ aK ⟨H0, [lo0p], []⟩ H [(lo0p, 1, List.map (eI) aA)]) ?_ ?_
    · refine lR 4 ?_
      refine nT (t := 49) (e := decide (i10 ≤ j11)) (by kernel_rfl) (fun hg39 => ?_) (fun hg39 => ?_)
      · refine cH 7 [0 ≤ j11 ∧ j11 < (lN aA)] ⟨(c35 hg39), trivial⟩ ?_
        refine jI 0 lo0p 1 (0 + Int.toNat j11) (eI (gD aA j11)) (eI (gD aA j11)) (List.map (eI) aA) (by kernel_rfl) (by kernel_rfl) (by kernel_rfl) hO (by kernel_rfl) (bW (c35 hg39)) ?_
        refine cH 11 [0 ≤ a1 ∧ a1 < (lN aA)] ⟨(c36 hg39), trivial⟩ ?_
        refine jI 0 lo0p 1 (0 + Int.toNat a1) (eI (gD aA a1)) (eI (gD aA a1)) (List.map (eI) aA) (by kernel_rfl) (by kernel_rfl) (by kernel_rfl) hO (by kernel_rfl) (bW (c36 hg39)) ?_
        refine nX 84 [(eI (gD aA j11)), (eI (gD aA a1))] (aC x37) (by kernel_rfl) (by kernel_rfl) (fJ (gD aA j11) (gD aA a1) _ (jN hx38 hg39)) hO ?_
        intro H hO
        refine kM ?_
        exact ⟨⟨[(0, (.msl 1 lo0p 0 (List.length aA))), (1, (eI a1)), (10, (eI i10)), (11, (eI j11)), (60, (aC (!x37)))], by kernel_rfl, rfl, ⟨aN.refl _, aN.refl _, aN.refl _, aN.refl _, aN.eq (congrArg aC (nA hg39 rfl).symm), trivial⟩⟩, hO⟩
      refine kM ?_
      exact ⟨⟨[(0, (.msl 1 lo0p 0 (List.length aA))), (1, (eI a1)), (10, (eI i10)), (11, (eI j11)), (60, (aC false))], by kernel_rfl, rfl, ⟨aN.refl _, aN.refl _, aN.refl _, aN.refl _, aN.eq (congrArg aC (nA hg39 rfl).symm), trivial⟩⟩, hO⟩
    · rintro T H ⟨hT, hO⟩
      refine eD hT ?_
      clear hT
      refine aF (aJ ?_)
      refine bQ h1 (fun h1 => ?_) (fun h1 => ?_)
      · refine bR ?_
        refine bC [(0, (.msl 1 lo0p 0 (List.length aA))), (1, (eI a1)), (10, (eI i10)), (11, (eI j11))] ?_
        refine cC 3 ?_
        refine aS aD 3 ?_
        refine bA ?_
        exact aF (aX (aJ (⟨rfl, _, (oI h1).symm, .eq (by kernel_rfl), hO, hN⟩)))
      refine jD 2 ?_
      obtain rfl := oI h1
      obtain rfl : _ = rr0 := ho0
      replace h0 : eP aA a1 i10 j11 = some r := h0
      exact aF (aY (aY (cD (aJ (⟨rfl, _, _, .eq (by kernel_rfl), hO, hN, h0⟩)))))
  refine cC 0 ?_
  refine fQ [(0, (.msl 1 lo0p 0 (List.length (List.set (List.set aA (Int.toNat a1) (gD aA cG)) (Int.toNat cG) (gD aA a1))))), (1, (eI a1)), (10, (eI (wR (a1 + (1 : Int))))), (11, (eI (wR (b2 - (1 : Int)))))] ?_
  refine fV (fun T H => ∃ aA : List Int, ∃ i10 : Int, ∃ j11 : Int, Has T [(0, (.msl 1 lo0p 0 (List.length aA))), (1, (eI a1)), (10, (eI i10)), (11, (eI j11))] ∧ aK ⟨H0, [lo0p], []⟩ H [(lo0p, 1, List.map (eI) aA)] ∧ List.length aA = N0 ∧ fH aA a1 i10 j11 = some r) ?_ ⟨List.set (List.set aA (Int.toNat a1) (gD aA cG)) (Int.toNat cG) (gD aA a1), wR (a1 + (1 : Int)), wR (b2 - (1 : Int)), .eq (by kernel_rfl), hO, hN, h0⟩
  clear hO hN h0
  rintro T H ⟨aA, i10, j11, hT, hO, hN, h0⟩
  refine bK hT ?_
  clear hT
  unfold fH at h0
  obtain ⟨rr0, hl0, h0⟩ := aV h0
  refine dV (by kernel_rfl) (fun (s : List Int × Int) T H => Has T [(0, (.msl 1 lo0p 0 (List.length s.1))), (1, (eI a1)), (10, (eI s.2)), (11, (eI j11))] ∧ aK ⟨H0, [lo0p], []⟩ H [(lo0p, 1, List.map (eI) s.1)] ∧ List.length s.1 = N0) hl0 ⟨.eq (by kernel_rfl), hO, hN⟩ ?_
  clear hO hN
  rintro k0 s out1 T H ⟨hT, hO, hN⟩ h1 ho0
  obtain ⟨aA, i10⟩ := s
  replace h1 : eE a1 j11 aA i10 = some out1 := h1
  try dsimp only at hT
  refine bK hT ?_
  clear hT
  unfold eE at h1
  refine aM ?_
  refine aM ?_
  obtain ⟨c41, h1⟩ := aZ h1
  obtain ⟨c42, h1⟩ := aZ h1
  obtain ⟨x43, hx44, h1⟩ := aV h1
  refine gI (gH []) aD 14 ?_
  refine oR (K := fun T H => Has (lift T) [(0, (.msl 1 lo0p 0 (List.length aA))), (1, (eI a1)), (10, (eI i10)), (11, (eI j11)), (43, (aC ((decide (i10 ≤ j11)) && x43)))] ∧ aK ⟨H0, [lo0p], []⟩ H [(lo0p, 1, List.map (eI) aA)]) ?_ ?_
  · refine lR 4 ?_
    refine nT (t := 33) (e := decide (i10 ≤ j11)) (by kernel_rfl) (fun hg45 => ?_) (fun hg45 => ?_)
    · refine cH 7 [0 ≤ i10 ∧ i10 < (lN aA)] ⟨(c41 hg45), trivial⟩ ?_
      refine jI 0 lo0p 1 (0 + Int.toNat i10) (eI (gD aA i10)) (eI (gD aA i10)) (List.map (eI) aA) (by kernel_rfl) (by kernel_rfl) (by kernel_rfl) hO (by kernel_rfl) (bW (c41 hg45)) ?_
      refine cH 11 [0 ≤ a1 ∧ a1 < (lN aA)] ⟨(c42 hg45), trivial⟩ ?_
      refine jI 0 lo0p 1 (0 + Int.toNat a1) (eI (gD aA a1)) (eI (gD aA a1)) (List.map (eI) aA) (by kernel_rfl) (by kernel_rfl) (by kernel_rfl) hO (by kernel_rfl) (bW (c42 hg45)) ?_
      refine nX 84 [(eI (gD aA i10)), (eI (gD aA a1))] (aC x43) (by kernel_rfl) (by kernel_rfl) (fJ (gD aA i10) (gD aA a1) _ (jN hx44 hg45)) hO ?_
      intro H hO
      refine kM ?_
      exact ⟨⟨[(0, (.msl 1 lo0p 0 (List.length aA))), (1, (eI a1)), (10, (eI i10)), (11, (eI j11)), (43, (aC x43))], by kernel_rfl, rfl, ⟨aN.refl _, aN.refl _, aN.refl _, aN.refl _, aN.eq (congrArg aC (nA hg45 rfl).symm), trivial⟩⟩, hO⟩
    refine kM ?_
    exact ⟨⟨[(0, (.msl 1 lo0p 0 (List.length aA))), (1, (eI a1)), (10, (eI i10)), (11, (eI j11)), (43, (aC false))], by kernel_rfl, rfl, ⟨aN.refl _, aN.refl _, aN.refl _, aN.refl _, aN.eq (congrArg aC (nA hg45 rfl).symm), trivial⟩⟩, hO⟩
  · rintro T H ⟨hT, hO⟩
    refine eD hT ?_
    clear hT
    refine aF (aJ ?_)
    refine bQ h1 (fun h1 => ?_) (fun h1 => ?_)
    · refine bR ?_
      refine bC [(0, (.msl 1 lo0p 0 (List.length aA))), (1, (eI a1)), (10, (eI i10)), (11, (eI j11))] ?_
      refine cC 1 ?_
      refine aS aD 3 ?_
      refine bA ?_
      exact aF (aX (aJ (⟨rfl, _, (oI h1).symm, .eq (by kernel_rfl), hO, hN⟩)))
    refine jD 0 ?_
    obtain rfl := oI h1
    obtain rfl : _ = rr0 := ho0
    replace h0 : iG aA a1 i10 j11 = some r := h0
    exact aF (aY (aY (cD (aJ (⟨rfl, _, _, _, .eq (by kernel_rfl), hO, hN, h0⟩)))))

theorem uQ  (rec : (List Int) → Int → Int → Int → Option (List Int)) (ih : ∀ (lo0p : Nat) (aA : (List Int)) (a1 : Int) (b2 : Int) (bV : Int) (r : List Int), rec aA a1 b2 bV = some r → mS Try.prog 61 lo0p 1 (List.map (eI) aA) (List.map (eI) r) [(.msl 1 lo0p 0 (List.length aA)), (eI a1), (eI b2), (eI bV)] (.tup [])) (lo0p : Nat) (aA : (List Int)) (a1 : Int) (b2 : Int) (bV : Int) (r : List Int) (h0 : fK rec aA a1 b2 bV = some r) : mS Try.prog 61 lo0p 1 (List.map (eI) aA) (List.map (eI) r) [(.msl 1 lo0p 0 (List.length aA)), (eI a1), (eI b2), (eI bV)] (.tup []) := by
  intro H0 hl0
  refine dL Try.func61 ?_
  have hO := aK.qX hl0
  clear hl0
  obtain ⟨N0, hN0⟩ : ∃ n, n = List.length aA := ⟨_, rfl⟩
  have hN : List.length aA = N0 := hN0.symm
  unfold fK at h0
  refine aW aD 1 [] [(8, (aC true))] ?_
  refine aW aD 1 [] [(9, (aC true))] ?_
  refine cC 0 ?_
  refine fQ [(0, (.msl 1 lo0p 0 (List.length aA))), (1, (eI a1)), (2, (eI b2)), (3, (eI bV)), (8, (aC true)), (9, (aC true))] ?_
  refine fV (fun T H => ∃ aA : List Int, ∃ a1 : Int, ∃ b2 : Int, ∃ bV : Int, ∃ bS : Bool, ∃ bL : Bool, Has T [(0, (.msl 1 lo0p 0 (List.length aA))), (1, (eI a1)), (2, (eI b2)), (3, (eI bV)), (8, (aC bS)), (9, (aC bL))] ∧ aK ⟨H0, [lo0p], []⟩ H [(lo0p, 1, List.map (eI) aA)] ∧ List.length aA = N0 ∧ kO rec aA a1 b2 bV bS bL = some r) ?_ ⟨aA, a1, b2, bV, true, true, .eq (by kernel_rfl), hO, hN, h0⟩
  clear hO hN h0
  rintro T H ⟨aA, a1, b2, bV, bS, bL, hT, hO, hN, h0⟩
  refine bK hT ?_
  clear hT
  unfold kO at h0
  obtain ⟨rr0, hl0, h0⟩ := aV h0
  refine dV (by kernel_rfl) (fun (s : List Int × Int × Int × Int × Bool × Bool) T H => Has T [(0, (.msl 1 lo0p 0 (List.length s.1))), (1, (eI s.2.1)), (2, (eI s.2.2.1)), (3, (eI s.2.2.2.1)), (8, (aC s.2.2.2.2.1)), (9, (aC s.2.2.2.2.2))] ∧ aK ⟨H0, [lo0p], []⟩ H [(lo0p, 1, List.map (eI) s.1)] ∧ List.length s.1 = N0) hl0 ⟨.eq (by kernel_rfl), hO, hN⟩ ?_
  clear hO hN
  rintro k0 s out1 T H ⟨hT, hO, hN⟩ h1 ho0
  obtain ⟨aA, a1, b2, bV, bS, bL⟩ := s
  replace h1 : eB rec aA a1 b2 bV bS bL = some out1 := h1
  try dsimp only at hT
  refine bK hT ?_
  clear hT
  unfold eB at h1
  refine cC 1 ?_
  refine aW aD 4 [] [(10, (eI (wR (b2 - a1))))] ?_
  refine aM ?_
  refine aW aD 2 [] [(23, (aC (decide ((wR (b2 - a1)) ≤ (12 : Int)))))] ?_
  refine bQ h1 (fun h1 => ?_) (fun h1 => ?_)
  · refine aM ?_
    refine aS aD 4 ?_
    refine bN 3 ?_
    obtain ⟨x2, hx3, h1⟩ := aV h1
    refine wL [(lo0p, 1, List.map (eI) x2)] 0 (tQ lo0p aA a1 b2 _ hx3) hO ?_
    intro H hO hl4
    simp only [List.length_map] at hl4
    replace hN := hl4.trans hN
    refine dK ?_
    refine eD (l := [(0, (.msl 1 lo0p 0 (List.length x2)))]) ⟨[(0, (.msl 1 lo0p 0 (List.length aA)))], by kernel_rfl, rfl, ⟨aN.eq (by simp [hl4]), trivial⟩⟩ ?_
    refine aF (aJ (?_))
    refine bI ?_
    obtain rfl := oI h1
    obtain rfl : _ = rr0 := ho0
    replace h0 : some x2 = some r := h0
    obtain rfl := oI h0
    exact aF (aR (bD (aR (bD (kY (x := (.tup [])) (by kernel_rfl) (aN.refl _) ⟨rfl, hO.ext, hO.at 0 (by kernel_rfl), by simp only [List.length_map]; exact hN.trans hN0⟩)))))
  refine bR ?_
  refine bC [(0, (.msl 1 lo0p 0 (List.length aA))), (1, (eI a1)), (2, (eI b2)), (3, (eI bV)), (8, (aC bS)), (9, (aC bL)), (10, (eI (wR (b2 - a1))))] ?_
  refine aM ?_
  refine aW aD 2 [] [(29, (aC (decide (bV = (0 : Int)))))] ?_
  refine bQ h1 (fun h1 => ?_) (fun h1 => ?_)
  · refine aM ?_
    refine aS aD 4 ?_
    refine bN 3 ?_
    obtain ⟨x6, hx7, h1⟩ := aV h1
    refine wL [(lo0p, 1, List.map (eI) x6)] 0 (wA lo0p aA a1 b2 _ hx7) hO ?_
    intro H hO hl8
    simp only [List.length_map] at hl8
    replace hN := hl8.trans hN
    refine dK ?_
    refine eD (l := [(0, (.msl 1 lo0p 0 (List.length x6)))]) ⟨[(0, (.msl 1 lo0p 0 (List.length aA)))], by kernel_rfl, rfl, ⟨aN.eq (by simp [hl8]), trivial⟩⟩ ?_
    refine aF (aJ (?_))
    refine bI ?_
    obtain rfl := oI h1
    obtain rfl : _ = rr0 := ho0
    replace h0 : some x6 = some r := h0
    obtain rfl := oI h0
    exact aF (aR (bD (aR (bD (kY (x := (.tup [])) (by kernel_rfl) (aN.refl _) ⟨rfl, hO.ext, hO.at 0 (by kernel_rfl), by simp only [List.length_map]; exact hN.trans hN0⟩)))))
  refine bR ?_
  refine bC [(0, (.msl 1 lo0p 0 (List.length aA))), (1, (eI a1)), (2, (eI b2)), (3, (eI bV)), (8, (aC bS)), (9, (aC bL)), (10, (eI (wR (b2 - a1))))] ?_
  refine iI (fun T H => ∃ aA : List Int, ∃ bV : Int, ∃ dU : Int, Has T [(0, (.msl 1 lo0p 0 (List.length aA))), (1, (eI a1)), (2, (eI b2)), (3, (eI bV)), (8, (aC bS)), (9, (aC bL)), (10, (eI dU))] ∧ aK ⟨H0, [lo0p], []⟩ H [(lo0p, 1, List.map (eI) aA)] ∧ List.length aA = N0 ∧ gS rec aA a1 b2 bV bS bL dU = some out1) ?_ ?_
  · clear hO hN h1
    rintro T H ⟨aA, bV, dU, hT, hO, hN, h1⟩
    refine bK hT ?_
    clear hT
    unfold gS at h1
    refine aM ?_
    refine aS aD 9 ?_
    refine bN 3 ?_
    obtain ⟨x9, hx10, h1⟩ := aV h1
    refine AB [] [0] (uZ lo0p aA a1 b2 _ hx10) hO ?_
    intro r11 L12 H hP13 hO
    obtain ⟨rfl, rfl⟩ := hP13
    replace hO : aK ⟨H0, [lo0p], []⟩ H [(lo0p, 1, List.map (eI) aA)] := hO
    refine bA ?_
    refine bU [] [(11, (eI x9.1)), (12, (eI x9.2))] ?_
    refine iI (fun T H => ∃ aA : List Int, ∃ fM : Int, ∃ AN : Int, Has T [(0, (.msl 1 lo0p 0 (List.length aA))), (1, (eI a1)), (2, (eI b2)), (3, (eI bV)), (8, (aC bS)), (9, (aC bL)), (10, (eI dU)), (11, (eI fM)), (12, (eI AN))] ∧ aK ⟨H0, [lo0p], []⟩ H [(lo0p, 1, List.map (eI) aA)] ∧ List.length aA = N0 ∧ gP rec aA a1 b2 bV bS bL dU fM AN = some out1) ?_ ?_
    · clear hO hN h1
      rintro T H ⟨aA, fM, AN, hT, hO, hN, h1⟩
      refine bK hT ?_
      clear hT
      unfold gP at h1
      refine iI (fun T H => ∃ aA : List Int, Has T [(0, (.msl 1 lo0p 0 (List.length aA))), (1, (eI a1)), (2, (eI b2)), (3, (eI bV)), (8, (aC bS)), (9, (aC bL)), (10, (eI dU)), (11, (eI fM))] ∧ aK ⟨H0, [lo0p], []⟩ H [(lo0p, 1, List.map (eI) aA)] ∧ List.length aA = N0 ∧ gO rec aA a1 b2 bV bS bL dU fM = some out1) ?_ ?_
      · clear hO hN h1
        rintro T H ⟨aA, hT, hO, hN, h1⟩
        refine bK hT ?_
        clear hT
        unfold gO at h1
        refine aM ?_
        refine aM ?_
        obtain ⟨c14, h1⟩ := aZ h1
        obtain ⟨c15, h1⟩ := aZ h1
        obtain ⟨x16, hx17, h1⟩ := aV h1
        refine gI (gH []) aD 15 ?_
        refine oR (K := fun T H => Has (lift T) [(0, (.msl 1 lo0p 0 (List.length aA))), (1, (eI a1)), (2, (eI b2)), (3, (eI bV)), (8, (aC bS)), (9, (aC bL)), (10, (eI dU)), (11, (eI fM)), (87, (aC ((decide ((0 : Int) < a1)) && (!x16))))] ∧ aK ⟨H0, [lo0p], []⟩ H [(lo0p, 1, List.map (eI) aA)]) ?_ ?_
        · refine lR 3 ?_
          refine nT (t := 75) (e := decide ((0 : Int) < a1)) (by kernel_rfl) (fun hg18 => ?_) (fun hg18 => ?_)
          · refine cH 7 [0 ≤ (wR (a1 - (1 : Int))) ∧ (wR (a1 - (1 : Int))) < (lN aA)] ⟨(c14 hg18), trivial⟩ ?_
            refine jI 0 lo0p 1 (0 + Int.toNat (wR (a1 - (1 : Int)))) (eI (gD aA (wR (a1 - (1 : Int))))) (eI (gD aA (wR (a1 - (1 : Int))))) (List.map (eI) aA) (by kernel_rfl) (by kernel_rfl) (by kernel_rfl) hO (by kernel_rfl) (bW (c14 hg18)) ?_
            refine cH 11 [0 ≤ fM ∧ fM < (lN aA)] ⟨(c15 hg18), trivial⟩ ?_
            refine jI 0 lo0p 1 (0 + Int.toNat fM) (eI (gD aA fM)) (eI (gD aA fM)) (List.map (eI) aA) (by kernel_rfl) (by kernel_rfl) (by kernel_rfl) hO (by kernel_rfl) (bW (c15 hg18)) ?_
            refine nX 84 [(eI (gD aA (wR (a1 - (1 : Int))))), (eI (gD aA fM))] (aC x16) (by kernel_rfl) (by kernel_rfl) (fJ (gD aA (wR (a1 - (1 : Int)))) (gD aA fM) _ (jN hx17 hg18)) hO ?_
            intro H hO
            refine kM ?_
            exact ⟨⟨[(0, (.msl 1 lo0p 0 (List.length aA))), (1, (eI a1)), (2, (eI b2)), (3, (eI bV)), (8, (aC bS)), (9, (aC bL)), (10, (eI dU)), (11, (eI fM)), (87, (aC (!x16)))], by kernel_rfl, rfl, ⟨aN.refl _, aN.refl _, aN.refl _, aN.refl _, aN.refl _, aN.refl _, aN.refl _, aN.refl _, aN.eq (congrArg aC (nA hg18 rfl).symm), trivial⟩⟩, hO⟩
          refine kM ?_
          exact ⟨⟨[(0, (.msl 1 lo0p 0 (List.length aA))), (1, (eI a1)), (2, (eI b2)), (3, (eI bV)), (8, (aC bS)), (9, (aC bL)), (10, (eI dU)), (11, (eI fM)), (87, (aC false))], by kernel_rfl, rfl, ⟨aN.refl _, aN.refl _, aN.refl _, aN.refl _, aN.refl _, aN.refl _, aN.refl _, aN.refl _, aN.eq (congrArg aC (nA hg18 rfl).symm), trivial⟩⟩, hO⟩
        · rintro T H ⟨hT, hO⟩
          refine eD hT ?_
          clear hT
          refine aF (aJ ?_)
          refine bQ h1 (fun h1 => ?_) (fun h1 => ?_)
          · refine aM ?_
            refine aS aD 6 ?_
            refine bN 4 ?_
            obtain ⟨x20, hx21, h1⟩ := aV h1
            refine wL [(lo0p, 1, List.map (eI) x20.2)] 0 (tL lo0p aA a1 b2 fM _ hx21) hO ?_
            intro H hO hl22
            simp only [List.length_map] at hl22
            replace hN := hl22.trans hN
            refine bA ?_
            refine eD (l := [(0, (.msl 1 lo0p 0 (List.length x20.2))), (2, (eI b2)), (3, (eI bV)), (8, (aC bS)), (9, (aC bL)), (13, (eI x20.1))]) ⟨[(0, (.msl 1 lo0p 0 (List.length aA))), (2, (eI b2)), (3, (eI bV)), (8, (aC bS)), (9, (aC bL)), (13, (eI x20.1))], by kernel_rfl, rfl, ⟨aN.eq (by simp [hl22]), aN.refl _, aN.refl _, aN.refl _, aN.refl _, aN.refl _, trivial⟩⟩ ?_
            refine aF (aJ (?_))
            refine aW aD 2 [13] [(1, (eI x20.1))] ?_
            refine jD 1 ?_
            exact aF (aY (cD (aJ (⟨rfl, _, (oI h1).symm, .eq (by kernel_rfl), hO, hN⟩))))
          refine bR ?_
          refine bC [(0, (.msl 1 lo0p 0 (List.length aA))), (1, (eI a1)), (2, (eI b2)), (3, (eI bV)), (10, (eI dU)), (11, (eI fM))] ?_
          refine aM ?_
          refine aS aD 10 ?_
          refine bN 4 ?_
          obtain ⟨x23, hx24, h1⟩ := aV h1
          refine wL [(lo0p, 1, List.map (eI) x23.2)] 0 (vZ lo0p aA a1 b2 fM _ hx24) hO ?_
          intro H hO hl25
          simp only [List.length_map] at hl25
          replace hN := hl25.trans hN
          refine bA ?_
          refine eD (l := [(0, (.msl 1 lo0p 0 (List.length x23.2))), (1, (eI a1)), (2, (eI b2)), (3, (eI bV)), (10, (eI dU)), (14, (eI x23.1.1)), (15, (aC x23.1.2))]) ⟨[(0, (.msl 1 lo0p 0 (List.length aA))), (1, (eI a1)), (2, (eI b2)), (3, (eI bV)), (10, (eI dU)), (14, (eI x23.1.1)), (15, (aC x23.1.2))], by kernel_rfl, rfl, ⟨aN.eq (by simp [hl25]), aN.refl _, aN.refl _, aN.refl _, aN.refl _, aN.refl _, aN.refl _, trivial⟩⟩ ?_
          refine aF (aJ (?_))
          refine aW aD 2 [15] [(9, (aC x23.1.2))] ?_
          refine aW aD 8 [] [(16, (eI (wR (x23.1.1 - a1)))), (17, (eI (wR (b2 - x23.1.1))))] ?_
          refine aM ?_
          refine aS aD 3 ?_
          obtain ⟨c26, h1⟩ := aZ h1
          refine rR [(8 : Int) ≠ 0] ⟨c26, trivial⟩ ?_
          refine bU [10] [(18, (eI (wR (Int.tdiv dU (8 : Int)))))] ?_
          refine aW aD 3 [] [(113, (aC (decide ((wR (x23.1.1 - a1)) < (wR (b2 - x23.1.1))))))] ?_
          refine bQ h1 (fun h1 => ?_) (fun h1 => ?_)
          · refine cJ aD 4 [(0, (.msl 1 lo0p 0 (List.length x23.2))), (1, (eI a1)), (2, (eI b2)), (3, (eI bV)), (8, (aC (decide ((wR (Int.tdiv dU (8 : Int))) ≤ (wR (x23.1.1 - a1)))))), (9, (aC x23.1.2)), (14, (eI x23.1.1))] ?_
            refine aM ?_
            refine aS aD 5 ?_
            refine bN 4 ?_
            obtain ⟨x28, hx29, h1⟩ := aV h1
            refine wL [(lo0p, 1, List.map (eI) x28)] 0 (ih lo0p x23.2 a1 x23.1.1 bV _ hx29) hO ?_
            intro H hO hl30
            simp only [List.length_map] at hl30
            replace hN := hl30.trans hN
            refine dK ?_
            refine eD (l := [(0, (.msl 1 lo0p 0 (List.length x28))), (2, (eI b2)), (3, (eI bV)), (8, (aC (decide ((wR (Int.tdiv dU (8 : Int))) ≤ (wR (x23.1.1 - a1)))))), (9, (aC x23.1.2)), (14, (eI x23.1.1))]) ⟨[(0, (.msl 1 lo0p 0 (List.length x23.2))), (2, (eI b2)), (3, (eI bV)), (8, (aC (decide ((wR (Int.tdiv dU (8 : Int))) ≤ (wR (x23.1.1 - a1)))))), (9, (aC x23.1.2)), (14, (eI x23.1.1))], by kernel_rfl, rfl, ⟨aN.eq (by simp [hl30]), aN.refl _, aN.refl _, aN.refl _, aN.refl _, aN.refl _, trivial⟩⟩ ?_
            refine aF (aJ (?_))
            refine aS aD 3 ?_
            refine bA ?_
            exact aF (aX (aJ (⟨rfl, _, (oI h1).symm, .eq (by kernel_rfl), hO, hN⟩)))
          refine cJ aD 4 [(0, (.msl 1 lo0p 0 (List.length x23.2))), (1, (eI a1)), (2, (eI b2)), (3, (eI bV)), (8, (aC (decide ((wR (Int.tdiv dU (8 : Int))) ≤ (wR (b2 - x23.1.1)))))), (9, (aC x23.1.2)), (14, (eI x23.1.1))] ?_
          refine aM ?_
          refine aS aD 6 ?_
          refine bN 5 ?_
          obtain ⟨x31, hx32, h1⟩ := aV h1
          refine wL [(lo0p, 1, List.map (eI) x31)] 0 (ih lo0p x23.2 (wR (x23.1.1 + (1 : Int))) b2 bV _ hx32) hO ?_
          intro H hO hl33
          simp only [List.length_map] at hl33
          replace hN := hl33.trans hN
          refine dK ?_
          refine eD (l := [(0, (.msl 1 lo0p 0 (List.length x31))), (1, (eI a1)), (3, (eI bV)), (8, (aC (decide ((wR (Int.tdiv dU (8 : Int))) ≤ (wR (b2 - x23.1.1)))))), (9, (aC x23.1.2)), (14, (eI x23.1.1))]) ⟨[(0, (.msl 1 lo0p 0 (List.length x23.2))), (1, (eI a1)), (3, (eI bV)), (8, (aC (decide ((wR (Int.tdiv dU (8 : Int))) ≤ (wR (b2 - x23.1.1)))))), (9, (aC x23.1.2)), (14, (eI x23.1.1))], by kernel_rfl, rfl, ⟨aN.eq (by simp [hl33]), aN.refl _, aN.refl _, aN.refl _, aN.refl _, aN.refl _, trivial⟩⟩ ?_
          refine aF (aJ (?_))
          refine aS aD 2 ?_
          refine bA ?_
          exact aF (aX (aJ (⟨rfl, _, (oI h1).symm, .eq (by kernel_rfl), hO, hN⟩)))
      refine aW aD 8 [12] [(68, (aC ((bS && bL) && (decide (AN = (1 : Int))))))] ?_
      refine bQ h1 (fun h1 => ?_) (fun h1 => ?_)
      · refine aM ?_
        refine aS aD 4 ?_
        refine bN 3 ?_
        obtain ⟨x35, hx36, h1⟩ := aV h1
        refine wL [(lo0p, 1, List.map (eI) x35.2)] 0 (qI lo0p aA a1 b2 _ hx36) hO ?_
        intro H hO hl37
        simp only [List.length_map] at hl37
        replace hN := hl37.trans hN
        refine dK ?_
        refine eD (l := [(0, (.msl 1 lo0p 0 (List.length x35.2))), (1, (eI a1)), (2, (eI b2)), (3, (eI bV)), (8, (aC bS)), (9, (aC bL)), (10, (eI dU)), (11, (eI fM)), (72, (aC x35.1))]) ⟨[(0, (.msl 1 lo0p 0 (List.length aA))), (1, (eI a1)), (2, (eI b2)), (3, (eI bV)), (8, (aC bS)), (9, (aC bL)), (10, (eI dU)), (11, (eI fM)), (72, (aC x35.1))], by kernel_rfl, rfl, ⟨aN.eq (by simp [hl37]), aN.refl _, aN.refl _, aN.refl _, aN.refl _, aN.refl _, aN.refl _, aN.refl _, aN.refl _, trivial⟩⟩ ?_
        refine aF (aJ (?_))
        refine bQ h1 (fun h1 => ?_) (fun h1 => ?_)
        · refine bI ?_
          obtain rfl := oI h1
          obtain rfl : _ = rr0 := ho0
          replace h0 : some x35.2 = some r := h0
          obtain rfl := oI h0
          exact aF (aR (bD (aR (bD (kY (x := (.tup [])) (by kernel_rfl) (aN.refl _) ⟨rfl, hO.ext, hO.at 0 (by kernel_rfl), by simp only [List.length_map]; exact hN.trans hN0⟩)))))
        refine bR ?_
        exact aF (aJ (⟨rfl, _, .eq (by kernel_rfl), hO, hN, h1⟩))
      refine bR ?_
      exact aF (aJ (⟨rfl, _, .eq (by kernel_rfl), hO, hN, h1⟩))
    refine aW aD 2 [] [(50, (aC (decide (x9.2 = (2 : Int)))))] ?_
    refine bQ h1 (fun h1 => ?_) (fun h1 => ?_)
    · refine aM ?_
      refine aS aD 4 ?_
      refine bN 3 ?_
      obtain ⟨x40, hx41, h1⟩ := aV h1
      refine wL [(lo0p, 1, List.map (eI) x40)] 0 (uN lo0p aA a1 b2 _ hx41) hO ?_
      intro H hO hl42
      simp only [List.length_map] at hl42
      replace hN := hl42.trans hN
      refine dK ?_
      refine eD (l := [(0, (.msl 1 lo0p 0 (List.length x40))), (1, (eI a1)), (2, (eI b2)), (3, (eI bV)), (8, (aC bS)), (9, (aC bL)), (10, (eI dU)), (11, (eI x9.1))]) ⟨[(0, (.msl 1 lo0p 0 (List.length aA))), (1, (eI a1)), (2, (eI b2)), (3, (eI bV)), (8, (aC bS)), (9, (aC bL)), (10, (eI dU)), (11, (eI x9.1))], by kernel_rfl, rfl, ⟨aN.eq (by simp [hl42]), aN.refl _, aN.refl _, aN.refl _, aN.refl _, aN.refl _, aN.refl _, aN.refl _, trivial⟩⟩ ?_
      refine aF (aJ (?_))
      refine aW aD 7 [11] [(11, (eI (wR ((wR (b2 - (1 : Int))) - (wR (x9.1 - a1))))))] ?_
      refine aS aD 1 ?_
      refine bA ?_
      exact aF (aJ (⟨rfl, _, _, _, .eq (by kernel_rfl), hO, hN, h1⟩))
    refine bR ?_
    exact aF (aJ (⟨rfl, _, _, _, .eq (by kernel_rfl), hO, hN, h1⟩))
  refine aW aD 2 [] [(35, (aC (!bS)))] ?_
  refine bQ h1 (fun h1 => ?_) (fun h1 => ?_)
  · refine aM ?_
    refine aS aD 4 ?_
    refine bN 3 ?_
    obtain ⟨x44, hx45, h1⟩ := aV h1
    refine wL [(lo0p, 1, List.map (eI) x44)] 0 (tN lo0p aA a1 b2 _ hx45) hO ?_
    intro H hO hl46
    simp only [List.length_map] at hl46
    replace hN := hl46.trans hN
    refine dK ?_
    refine eD (l := [(0, (.msl 1 lo0p 0 (List.length x44))), (1, (eI a1)), (2, (eI b2)), (3, (eI bV)), (8, (aC bS)), (9, (aC bL)), (10, (eI (wR (b2 - a1))))]) ⟨[(0, (.msl 1 lo0p 0 (List.length aA))), (1, (eI a1)), (2, (eI b2)), (3, (eI bV)), (8, (aC bS)), (9, (aC bL)), (10, (eI (wR (b2 - a1))))], by kernel_rfl, rfl, ⟨aN.eq (by simp [hl46]), aN.refl _, aN.refl _, aN.refl _, aN.refl _, aN.refl _, aN.refl _, trivial⟩⟩ ?_
    refine aF (aJ (?_))
    refine aS aD 3 ?_
    refine bA ?_
    exact aF (aJ (⟨rfl, _, _, _, .eq (by kernel_rfl), hO, hN, h1⟩))
  refine bR ?_
  exact aF (aJ (⟨rfl, _, _, _, .eq (by kernel_rfl), hO, hN, h1⟩))

theorem oP  : ∀ (k : Nat) (lo0p : Nat) (aA : (List Int)) (a1 : Int) (b2 : Int) (bV : Int) (r : List Int), cX k aA a1 b2 bV = some r → mS Try.prog 61 lo0p 1 (List.map (eI) aA) (List.map (eI) r) [(.msl 1 lo0p 0 (List.length aA)), (eI a1), (eI b2), (eI bV)] (.tup [])
  | 0, _, _, _, _, _, _, h => by cases h
  | k + 1, lo0p, aA, a1, b2, bV, r, h => uQ  _ (oP  k) lo0p aA a1 b2 bV r h

theorem xE (lo0p : Nat) (aA : (List Int)) (a1 : Int) (b2 : Int) (bV : Int) (r : List Int) (h0 : jH aA a1 b2 bV = some r) : mS Try.prog 61 lo0p 1 (List.map (eI) aA) (List.map (eI) r) [(.msl 1 lo0p 0 (List.length aA)), (eI a1), (eI b2), (eI bV)] (.tup []) := by
  obtain ⟨k, hk⟩ := KU h0
  exact oP  k lo0p aA a1 b2 bV r hk

theorem AU (lo0p : Nat) (x0 : (List Int)) (r : List Int) (h0 : kC x0 = some r) : mS Try.prog 34 lo0p 1 (List.map (eI) x0) (List.map (eI) r) [(.msl 1 lo0p 0 (List.length x0))] (.tup []) := by
  intro H0 hl0
  refine dL Try.func34 ?_
  have hO := aK.qX hl0
  clear hl0
  obtain ⟨N0, hN0⟩ : ∃ n, n = List.length x0 := ⟨_, rfl⟩
  have hN : List.length x0 = N0 := hN0.symm
  unfold kC at h0
  refine aW aD 3 [] [(2, (eI (lN x0)))] ?_
  refine aS aD 6 ?_
  refine bN 4 ?_
  obtain ⟨x1, hx2, h0⟩ := aV h0
  refine dX (zY (IntKind.u64.wrap (lN x0)) _ hx2) hO ?_
  intro H hO
  obtain ⟨x4, hx5, h0⟩ := aV h0
  refine wL [(lo0p, 1, List.map (eI) x4)] 0 (xE lo0p x0 (0 : Int) (lN x0) x1 _ hx5) hO ?_
  intro H hO hl6
  simp only [List.length_map] at hl6
  replace hN := hl6.trans hN
  refine dK ?_
  refine eD (l := [(0, (.msl 1 lo0p 0 (List.length x4)))]) ⟨[(0, (.msl 1 lo0p 0 (List.length x0)))], by kernel_rfl, rfl, ⟨aN.eq (by simp [hl6]), trivial⟩⟩ ?_
  obtain rfl := oI h0
  exact aF (vW (x := (.tup [])) (by kernel_rfl) (aN.refl _) ⟨rfl, hO.ext, hO.at 0 (by kernel_rfl), by simp only [List.length_map]; exact hN.trans hN0⟩)

theorem QO (f0 : (List aB)) (r : (List aB)) (h0 : wY f0 = some r) : dH Try.prog 57 [(eL aG f0)] (.fn (.func 75) [] [(.rp (eL aG r))]) := by
  intro H0
  refine dL Try.func57 ?_
  have hO := aK.start H0
  unfold wY at h0
  refine aM ?_
  refine aS aD 2 ?_
  refine gM 1 (eL aG f0) (by kernel_rfl) (by kernel_rfl) ?_
  refine bA ?_
  refine bC [(1, (.rp (eL aG f0)))] ?_
  refine cJ aD 2 [(2, (.fn (.func 75) [] [(.rp (eL aG f0))]))] ?_
  refine bI ?_
  obtain rfl := oI h0
  exact aF (kY (x := (.fn (.func 75) [] [(.rp (eL aG f0))])) (by kernel_rfl) (aN.refl _) ⟨rfl, hO.out⟩)

theorem IB {σ : Type} (I : σ → Gs → Prop) (yield0_b : Nat) (cK : σ → bJ → Option (σ × Bool)) (yield0_h : ∀ st a0 st2 r, cK st a0 = some (st2, r) → xT Try.prog (yv yield0_b) I st [(bX a0)] st2 (aC r)) (t1 : (List aB)) (sg0 : σ) (r : σ) (h0 : oW cK t1 sg0 = some r) : uJ Try.prog 75 I sg0 [(yv yield0_b), (.rp (eL aG t1))] r (.tup []) := by
  intro H0 G0 hI hg
  refine dL Try.func75 ?_
  obtain ⟨G, hO, hI⟩ : ∃ G, aK ⟨H0, List.map (fun p : Nat × cT => p.1) G0, G⟩ H0 [] ∧ I sg0 G := ⟨G0, aK.AL hg, hI⟩
  clear hg
  unfold oW at h0
  refine aW aD 2 [] [(3, (eI (0 : Int))), (4, (eI (0 : Int)))] ?_
  refine iI (fun T H => ∃ sg : σ, ∃ n3 : Int, ∃ jO : Int, ∃ G : Gs, Has T [(0, (yv yield0_b)), (3, (eI n3)), (4, (eI jO))] ∧ aK ⟨H0, List.map (fun p : Nat × cT => p.1) G0, G⟩ H [] ∧ I sg G ∧ mJ cK sg n3 jO = some r) ?_ ?_
  · clear hO hI h0
    rintro T H ⟨sg, n3, jO, G, hT, hO, hI, h0⟩
    refine bK hT ?_
    clear hT
    unfold mJ at h0
    refine aW aD 2 [3] [(34, (aC (decide ((0 : Int) < n3))))] ?_
    refine bQ h0 (fun h0 => ?_) (fun h0 => ?_)
    · refine aS aD 4 ?_
      refine bN 3 ?_
      obtain ⟨x2, hx3, h0⟩ := aV h0
      refine EP (I := I) (yv yield0_b) [(bX (bJ.mk jO (1125899906842624 : Int)))] (aC x2.2) (by kernel_rfl) (by kernel_rfl) (yield0_h _ (bJ.mk jO (1125899906842624 : Int)) x2.1 x2.2 hx3) hO hI ?_
      intro G H hO hI
      refine dK ?_
      obtain rfl := oI h0
      exact aF (vW (x := (.tup [])) (by kernel_rfl) (aN.refl _) ⟨rfl, G, hI, hO.wK⟩)
    refine bR ?_
    obtain rfl := oI h0
    exact aF (vW (x := (.tup [])) (by kernel_rfl) (aN.refl _) ⟨rfl, G, hI, hO.wK⟩)
  refine aW aD 3 [1] [(7, (eL aG t1)), (8, (eI (lN t1))), (9, (eI (0 : Int)))] ?_
  refine cC 0 ?_
  refine fQ [(0, (yv yield0_b)), (3, (eI (0 : Int))), (4, (eI (0 : Int))), (7, (eL aG t1)), (8, (eI (lN t1))), (9, (eI (0 : Int)))] ?_
  refine fV (fun T H => ∃ sg : σ, ∃ n3 : Int, ∃ jO : Int, ∃ t7 : (List aB), ∃ t8 : Int, ∃ t9 : Int, ∃ G : Gs, Has T [(0, (yv yield0_b)), (3, (eI n3)), (4, (eI jO)), (7, (eL aG t7)), (8, (eI t8)), (9, (eI t9))] ∧ aK ⟨H0, List.map (fun p : Nat × cT => p.1) G0, G⟩ H [] ∧ I sg G ∧ qD cK sg n3 jO t7 t8 t9 = some r) ?_ ⟨sg0, (0 : Int), (0 : Int), t1, (lN t1), (0 : Int), G, .eq (by kernel_rfl), hO, hI, h0⟩
  clear hO hI h0
  rintro T H ⟨sg, n3, jO, t7, t8, t9, G, hT, hO, hI, h0⟩
  refine bK hT ?_
  clear hT
  unfold qD at h0
  obtain ⟨rr0, hl0, h0⟩ := aV h0
  refine dV (by kernel_rfl) (fun (s : σ × Int × Int × Int) T H => ∃ G : Gs, Has T [(0, (yv yield0_b)), (3, (eI s.2.1)), (4, (eI s.2.2.1)), (7, (eL aG t7)), (8, (eI t8)), (9, (eI s.2.2.2))] ∧ aK ⟨H0, List.map (fun p : Nat × cT => p.1) G0, G⟩ H [] ∧ I s.1 G) hl0 ⟨G, .eq (by kernel_rfl), hO, hI⟩ ?_
  clear hO hI
  rintro k0 s out1 T H ⟨G, hT, hO, hI⟩ h1 ho0
  obtain ⟨sg, n3, jO, t9⟩ := s
  replace h1 : fR cK t7 t8 sg n3 jO t9 = some out1 := h1
  try dsimp only at hT
  refine bK hT ?_
  clear hT
  unfold fR at h1
  refine aW aD 1 [] [(10, (aC (decide (t9 < t8))))] ?_
  refine aM ?_
  refine bQ h1 (fun h1 => ?_) (fun h1 => ?_)
  · refine bR ?_
    refine bC [(0, (yv yield0_b)), (3, (eI n3)), (4, (eI jO)), (7, (eL aG t7)), (8, (eI t8)), (9, (eI t9))] ?_
    refine aM ?_
    refine cC 1 ?_
    refine aM ?_
    refine aS aD 4 ?_
    obtain ⟨c5, h1⟩ := aZ h1
    refine zA 2 [0 ≤ t9 ∧ t9 < (lN t7)] ⟨c5, trivial⟩ ?_
    refine jS 2 (aG (aB.mk 0 0)) (by kernel_rfl) (by kernel_rfl) hO ?_
    intro lo6 H hO
    refine fX 0 lo6 2 0 (aG (aB.mk 0 0)) (aG (gD t7 t9)) [(aG (aB.mk 0 0))] [(lo6, 2, [(aG (gD t7 t9))])] hO rfl (by kernel_rfl) ?_
    intro H hO
    refine dK ?_
    refine bU [] [(6, (.lp lo6 0 0))] ?_
    refine iI (fun T H => ∃ sg : σ, ∃ jO : Int, ∃ j6 : aB, ∃ G : Gs, Has T [(0, (yv yield0_b)), (3, (eI n3)), (4, (eI jO)), (6, (.lp lo6 0 0)), (7, (eL aG t7)), (8, (eI t8)), (9, (eI t9))] ∧ aK ⟨H0, List.map (fun p : Nat × cT => p.1) G0, G⟩ H [(lo6, 2, [(aG j6)])] ∧ I sg G ∧ lK cK sg n3 jO j6 t7 t8 t9 = some out1) ?_ ?_
    · clear hO hI h1
      rintro T H ⟨sg, jO, j6, G, hT, hO, hI, h1⟩
      refine bK hT ?_
      clear hT
      unfold lK at h1
      refine aM ?_
      refine aS aD 5 ?_
      refine bN 2 ?_
      refine mO 0 lo6 2 0 (aG j6) (eI j6.Net) [(aG j6)] hO rfl ?_
      refine bA ?_
      refine bU [3] [(3, (eI (wR (n3 + j6.Net))))] ?_
      refine aM ?_
      refine aS aD 11 ?_
      refine bN 6 ?_
      refine uV [(23, true)] 0 lo6 2 0 (aG j6) (eI j6.At) [(aG j6)] (by kernel_rfl) (by kernel_rfl) hO (by kernel_rfl) (decide ((wR (n3 + j6.Net)) = (0 : Int))) (by kernel_rfl) (fun hb7 => rfl) ?_
      refine bN 8 ?_
      obtain ⟨⟨x10, x11⟩, hx9, h1⟩ := aV h1
      replace hx9 := aBt hx9
      refine ZW (I := I) [(23, true)] (decide ((wR (n3 + j6.Net)) = (0 : Int))) (yv yield0_b) [(bX (bJ.mk jO j6.At))] (aC x11) ⟨fun hb => yield0_h _ (bJ.mk jO j6.At) x10 x11 (hx9.1 hb), hx9.2⟩ hO hI ?_
      intro G H hO hI
      refine bA ?_
      replace hO := hO.pick (L' := []) [] (by decide) (by kernel_rfl)
      refine bU [6] [(31, (aC ((decide ((wR (n3 + j6.Net)) = (0 : Int))) && (!x11))))] ?_
      refine bQ h1 (fun h1 => ?_) (fun h1 => ?_)
      · refine bI ?_
        obtain rfl := oI h1
        obtain rfl : _ = rr0 := ho0
        replace h0 : some x10 = some r := h0
        obtain rfl := oI h0
        exact aF (bD (aR (aR (bD (aR (kY (x := (.tup [])) (by kernel_rfl) (aN.refl _) ⟨rfl, G, hI, hO.wK⟩))))))
      refine bR ?_
      refine fC [(0, (yv yield0_b)), (3, (eI (wR (n3 + j6.Net)))), (4, (eI jO)), (7, (eL aG t7)), (8, (eI t8)), (9, (eI t9))] ?_
      refine aF (aX (aJ (?_)))
      refine aS aD 2 ?_
      refine bA ?_
      exact aF (aJ (⟨rfl, _, (oI h1).symm, _, .eq (by kernel_rfl), hO, hI⟩))
    refine aW aD 2 [] [(14, (aC (decide (n3 = (0 : Int)))))] ?_
    refine bQ h1 (fun h1 => ?_) (fun h1 => ?_)
    · refine aS aD 3 ?_
      refine bN 1 ?_
      refine mO 0 lo6 2 0 (aG (gD t7 t9)) (eI ((gD t7 t9).At)) [(aG (gD t7 t9))] hO rfl ?_
      refine bA ?_
      exact aF (aJ (⟨rfl, _, _, _, _, .eq (by kernel_rfl), hO, hI, h1⟩))
    refine bR ?_
    exact aF (aJ (⟨rfl, _, _, _, _, .eq (by kernel_rfl), hO, hI, h1⟩))
  refine jD 0 ?_
  obtain rfl := oI h1
  obtain rfl : _ = rr0 := ho0
  replace h0 : mJ cK sg n3 jO = some r := h0
  exact aF (aY (aY (cD (aJ (⟨rfl, _, _, _, _, .eq (by kernel_rfl), hO, hI, h0⟩)))))

theorem VG (f0 : (List aB)) (t1 : Int) (r : Int) (h0 : xJ f0 t1 = some r) : dH Try.prog 77 [(eL aG f0), (eI t1)] (eI r) := by
  intro H0
  refine dL Try.func77 ?_
  have hO := aK.start H0
  unfold xJ at h0
  refine aW aD 1 [] [] ?_
  refine aM ?_
  refine aM ?_
  refine aS aD 3 ?_
  refine bN 1 ?_
  obtain ⟨x1, hx2, h0⟩ := aV h0
  refine dX (tC f0 _ hx2) hO ?_
  intro H hO
  refine bA ?_
  refine bU [] [(10, (aC (!x1)))] ?_
  refine bQ h0 (fun h0 => ?_) (fun h0 => ?_)
  · refine cJ aD 1 [(4, (eI (0 : Int)))] ?_
    refine bI ?_
    obtain rfl := oI h0
    exact aF (aR (Q_r hO))
  refine bR ?_
  refine bC [(0, (eL aG f0)), (1, (eI t1))] ?_
  refine aW aD 1 [] [(5, (eI (0 : Int)))] ?_
  refine iI (fun T H => ∃ v5 : Int, Has T [(5, (eI v5))] ∧ aK ⟨H0, [], []⟩ H [] ∧ tB v5 = some r) ?_ ?_
  · clear hO h0
    rintro T H ⟨v5, hT, hO, h0⟩
    refine bK hT ?_
    clear hT
    unfold tB at h0
    refine cJ aD 2 [(4, (eI v5))] ?_
    refine bI ?_
    obtain rfl := oI h0
    exact aF (Q_r hO)
  refine aW aD 3 [0] [(11, (eL aG f0)), (12, (eI (lN f0))), (13, (eI (0 : Int)))] ?_
  refine cC 0 ?_
  refine fQ [(1, (eI t1)), (5, (eI (0 : Int))), (11, (eL aG f0)), (12, (eI (lN f0))), (13, (eI (0 : Int)))] ?_
  refine fV (fun T H => ∃ v5 : Int, ∃ t11 : (List aB), ∃ t12 : Int, ∃ t13 : Int, Has T [(1, (eI t1)), (5, (eI v5)), (11, (eL aG t11)), (12, (eI t12)), (13, (eI t13))] ∧ aK ⟨H0, [], []⟩ H [] ∧ xY t1 v5 t11 t12 t13 = some r) ?_ ⟨(0 : Int), f0, (lN f0), (0 : Int), .eq (by kernel_rfl), hO, h0⟩
  clear hO h0
  rintro T H ⟨v5, t11, t12, t13, hT, hO, h0⟩
  refine bK hT ?_
  clear hT
  unfold xY at h0
  obtain ⟨rr0, hl0, h0⟩ := aV h0
  refine dV (by kernel_rfl) (fun (s : Int × Int) T H => Has T [(1, (eI t1)), (5, (eI s.1)), (11, (eL aG t11)), (12, (eI t12)), (13, (eI s.2))] ∧ aK ⟨H0, [], []⟩ H []) hl0 ⟨.eq (by kernel_rfl), hO⟩ ?_
  clear hO
  rintro k0 s out1 T H ⟨hT, hO⟩ h1 ho0
  obtain ⟨v5, t13⟩ := s
  replace h1 : mT t1 t11 t12 v5 t13 = some out1 := h1
  try dsimp only at hT
  refine bK hT ?_
  clear hT
  unfold mT at h1
  refine aW aD 1 [] [(14, (aC (decide (t13 < t12))))] ?_
  refine aM ?_
  refine bQ h1 (fun h1 => ?_) (fun h1 => ?_)
  · refine bR ?_
    refine bC [(1, (eI t1)), (5, (eI v5)), (11, (eL aG t11)), (12, (eI t12)), (13, (eI t13))] ?_
    refine aM ?_
    refine cC 1 ?_
    refine aM ?_
    refine aS aD 4 ?_
    obtain ⟨c6, h1⟩ := aZ h1
    refine zA 2 [0 ≤ t13 ∧ t13 < (lN t11)] ⟨c6, trivial⟩ ?_
    refine jS 2 (aG (aB.mk 0 0)) (by kernel_rfl) (by kernel_rfl) hO ?_
    intro lo7 H hO
    refine fX 0 lo7 2 0 (aG (aB.mk 0 0)) (aG (gD t11 t13)) [(aG (aB.mk 0 0))] [(lo7, 2, [(aG (gD t11 t13))])] hO rfl (by kernel_rfl) ?_
    intro H hO
    refine dK ?_
    refine bU [] [(7, (.lp lo7 0 0))] ?_
    refine aM ?_
    refine aM ?_
    refine aS aD 4 ?_
    refine bN 1 ?_
    refine mO 0 lo7 2 0 (aG (gD t11 t13)) (eI ((gD t11 t13).At)) [(aG (gD t11 t13))] hO rfl ?_
    refine bA ?_
    refine bU [] [(20, (aC (decide (t1 < ((gD t11 t13).At)))))] ?_
    refine bQ h1 (fun h1 => ?_) (fun h1 => ?_)
    · refine jD 0 ?_
      replace hO := hO.pick (L' := []) [] (by decide) (by kernel_rfl)
      obtain rfl := oI h1
      obtain rfl : _ = rr0 := ho0
      replace h0 : tB v5 = some r := h0
      exact aF (aY (rN (by kernel_rfl) (aY (aY (cD (aJ (⟨rfl, _, .eq (by kernel_rfl), hO, h0⟩)))))))
    refine bR ?_
    refine bC [(1, (eI t1)), (5, (eI v5)), (7, (.lp lo7 0 0)), (11, (eL aG t11)), (12, (eI t12)), (13, (eI t13))] ?_
    refine aS aD 5 ?_
    refine bN 2 ?_
    refine mO 0 lo7 2 0 (aG (gD t11 t13)) (eI ((gD t11 t13).Net)) [(aG (gD t11 t13))] hO rfl ?_
    refine bA ?_
    refine fC [(1, (eI t1)), (5, (eI (wR (v5 + ((gD t11 t13).Net))))), (11, (eL aG t11)), (12, (eI t12)), (13, (eI t13))] ?_
    replace hO := hO.pick (L' := []) [] (by decide) (by kernel_rfl)
    refine aF (aX (aJ (?_)))
    refine aS aD 2 ?_
    refine bA ?_
    exact aF (aJ (⟨rfl, _, (oI h1).symm, .eq (by kernel_rfl), hO⟩))
  refine jD 0 ?_
  obtain rfl := oI h1
  obtain rfl : _ = rr0 := ho0
  replace h0 : tB v5 = some r := h0
  exact aF (aY (aY (cD (aJ (⟨rfl, _, .eq (by kernel_rfl), hO, h0⟩)))))

theorem MH (f0 : (List aB)) (w1 : bJ) (r : Int) (h0 : qY f0 w1 = some r) : dH Try.prog 60 [(eL aG f0), (bX w1)] (eI r) := by
  intro H0
  refine dL Try.func60 ?_
  have hO := aK.start H0
  unfold qY at h0
  refine aM ?_
  refine aS aD 2 ?_
  refine gM 2 (bX w1) (by kernel_rfl) (by kernel_rfl) ?_
  refine bA ?_
  refine bU [1] [(3, (.rp (bX w1)))] ?_
  refine aM ?_
  refine aS aD 5 ?_
  refine bN 3 ?_
  obtain ⟨x1, hx2, h0⟩ := aV h0
  refine dX (VG f0 w1.From _ hx2) hO ?_
  intro H hO
  refine bA ?_
  refine bU [] [(5, (eI x1))] ?_
  refine iI (fun T H => ∃ n5 : Int, Has T [(5, (eI n5))] ∧ aK ⟨H0, [], []⟩ H [] ∧ sY n5 = some r) ?_ ?_
  · clear hO h0
    rintro T H ⟨n5, hT, hO, h0⟩
    refine bK hT ?_
    clear hT
    unfold sY at h0
    refine cJ aD 2 [(4, (eI n5))] ?_
    refine bI ?_
    obtain rfl := oI h0
    exact aF (Q_r hO)
  refine aW aD 3 [0] [(12, (eL aG f0)), (13, (eI (lN f0))), (14, (eI (0 : Int)))] ?_
  refine cC 0 ?_
  refine fQ [(3, (.rp (bX w1))), (5, (eI x1)), (12, (eL aG f0)), (13, (eI (lN f0))), (14, (eI (0 : Int)))] ?_
  refine fV (fun T H => ∃ w3 : bJ, ∃ n5 : Int, ∃ t12 : (List aB), ∃ t13 : Int, ∃ t14 : Int, Has T [(3, (.rp (bX w3))), (5, (eI n5)), (12, (eL aG t12)), (13, (eI t13)), (14, (eI t14))] ∧ aK ⟨H0, [], []⟩ H [] ∧ tA w3 n5 t12 t13 t14 = some r) ?_ ⟨w1, x1, f0, (lN f0), (0 : Int), .eq (by kernel_rfl), hO, h0⟩
  clear hO h0
  rintro T H ⟨w3, n5, t12, t13, t14, hT, hO, h0⟩
  refine bK hT ?_
  clear hT
  unfold tA at h0
  obtain ⟨rr0, hl0, h0⟩ := aV h0
  refine dV (by kernel_rfl) (fun (s : Int × Int) T H => Has T [(3, (.rp (bX w3))), (5, (eI s.1)), (12, (eL aG t12)), (13, (eI t13)), (14, (eI s.2))] ∧ aK ⟨H0, [], []⟩ H []) hl0 ⟨.eq (by kernel_rfl), hO⟩ ?_
  clear hO
  rintro k0 s out1 T H ⟨hT, hO⟩ h1 ho0
  obtain ⟨n5, t14⟩ := s
  replace h1 : nW w3 t12 t13 n5 t14 = some out1 := h1
  try dsimp only at hT
  refine bK hT ?_
  clear hT
  unfold nW at h1
  refine aW aD 1 [] [(15, (aC (decide (t14 < t13))))] ?_
  refine aM ?_
  refine bQ h1 (fun h1 => ?_) (fun h1 => ?_)
  · refine bR ?_
    refine bC [(3, (.rp (bX w3))), (5, (eI n5)), (12, (eL aG t12)), (13, (eI t13)), (14, (eI t14))] ?_
    refine iI (fun T H => ∃ n5 : Int, Has T [(3, (.rp (bX w3))), (5, (eI n5)), (12, (eL aG t12)), (13, (eI t13)), (14, (eI t14))] ∧ aK ⟨H0, [], []⟩ H [] ∧ nU w3 n5 t12 t13 t14 = some out1) ?_ ?_
    · clear hO h1
      rintro T H ⟨n5, hT, hO, h1⟩
      refine bK hT ?_
      clear hT
      unfold nU at h1
      refine aS aD 2 ?_
      refine bA ?_
      exact aF (aJ (⟨rfl, _, (oI h1).symm, .eq (by kernel_rfl), hO⟩))
    refine cC 1 ?_
    refine aM ?_
    refine aS aD 4 ?_
    obtain ⟨c5, h1⟩ := aZ h1
    refine zA 2 [0 ≤ t14 ∧ t14 < (lN t12)] ⟨c5, trivial⟩ ?_
    refine jS 2 (aG (aB.mk 0 0)) (by kernel_rfl) (by kernel_rfl) hO ?_
    intro lo6 H hO
    refine fX 0 lo6 2 0 (aG (aB.mk 0 0)) (aG (gD t12 t14)) [(aG (aB.mk 0 0))] [(lo6, 2, [(aG (gD t12 t14))])] hO rfl (by kernel_rfl) ?_
    intro H hO
    refine dK ?_
    refine bU [] [(7, (.lp lo6 0 0))] ?_
    refine aM ?_
    refine aS aD 12 ?_
    refine bN 1 ?_
    refine mO 0 lo6 2 0 (aG (gD t12 t14)) (eI ((gD t12 t14).At)) [(aG (gD t12 t14))] hO rfl ?_
    refine bN 7 ?_
    refine uV [(23, true)] 0 lo6 2 0 (aG (gD t12 t14)) (eI ((gD t12 t14).At)) [(aG (gD t12 t14))] (by kernel_rfl) (by kernel_rfl) hO (by kernel_rfl) (decide (w3.From < ((gD t12 t14).At))) (by kernel_rfl) (fun hb7 => rfl) ?_
    refine bA ?_
    refine bU [] [(29, (aC ((decide (w3.From < ((gD t12 t14).At))) && (decide (((gD t12 t14).At) < w3.To)))))] ?_
    refine bQ h1 (fun h1 => ?_) (fun h1 => ?_)
    · refine aS aD 6 ?_
      refine bN 2 ?_
      refine mO 0 lo6 2 0 (aG (gD t12 t14)) (eI ((gD t12 t14).Net)) [(aG (gD t12 t14))] hO rfl ?_
      refine bA ?_
      replace hO := hO.pick (L' := []) [] (by decide) (by kernel_rfl)
      exact aF (aX (aJ (⟨rfl, _, .eq (by kernel_rfl), hO, h1⟩)))
    refine bR ?_
    replace hO := hO.pick (L' := []) [] (by decide) (by kernel_rfl)
    exact aF (aX (aJ (⟨rfl, _, .eq (by kernel_rfl), hO, h1⟩)))
  refine jD 0 ?_
  obtain rfl := oI h1
  obtain rfl : _ = rr0 := ho0
  replace h0 : sY n5 = some r := h0
  exact aF (aY (aY (cD (aJ (⟨rfl, _, .eq (by kernel_rfl), hO, h0⟩)))))

theorem OC (lm : Nat) (los : List (Nat × Nat)) (m : List (Int × aU)) (hl : los.length = m.length) (r : List aE) (f : List aB) (size hop frm front : Int) (out : Bool × List (Int × aU)) (h0 : sI m r f size hop frm front = some out) :
    JE Try.prog 33 [(.mp lm), (eL aH r), (eL aG f), (eI size), (eI hop), (eI frm), (eI front)] (pmG shP lm los m) [] (fun x M L => ∃ los' : List (Nat × Nat), los'.length = out.2.length ∧ x = aC out.1 ∧ M = pmG shP lm los' out.2 ∧ L = []) := by
  intro F H0 hO
  obtain ⟨Fh, Fe, Fg⟩ := F
  refine yK aD Try.func33 (by kernel_rfl) (by kernel_rfl) (by kernel_rfl) ?_
  unfold sI at h0
  refine aM ?_
  refine aS aD 8 ?_
  refine gM 1 (.mp lm) (by kernel_rfl) (by kernel_rfl) ?_
  refine gM 1 (eL aH r) (by kernel_rfl) (by kernel_rfl) ?_
  refine gM 1 (eL aG f) (by kernel_rfl) (by kernel_rfl) ?_
  refine gM 1 (eI size) (by kernel_rfl) (by kernel_rfl) ?_
  refine gM 1 (eI hop) (by kernel_rfl) (by kernel_rfl) ?_
  refine gM 1 (eI frm) (by kernel_rfl) (by kernel_rfl) ?_
  refine gM 1 (eI front) (by kernel_rfl) (by kernel_rfl) ?_
  refine jS 1 (aC false) (by kernel_rfl) (by kernel_rfl) hO ?_
  intro lo1 H hO
  replace hO : aK ⟨Fh, Fe, pmG shP lm los m ++ Fg⟩ H [(lo1, 1, [(aC false)])] := hO
  refine dK ?_
  refine bC [(7, (.rp (.mp lm))), (8, (.rp (eL aH r))), (9, (.rp (eL aG f))), (10, (.rp (eI size))), (11, (.rp (eI hop))), (12, (.rp (eI frm))), (13, (.rp (eI front))), (14, (.lp lo1 0 0))] ?_
  refine aM ?_
  refine aM ?_
  refine aS aD 2 ?_
  refine bN 1 ?_
  obtain ⟨x1, hx1, h0⟩ := aV h0
  refine dX (QO f _ hx1) hO ?_
  intro H hO
  refine dK ?_
  refine bC [(7, (.rp (.mp lm))), (8, (.rp (eL aH r))), (9, (.rp (eL aG f))), (10, (.rp (eI size))), (11, (.rp (eI hop))), (12, (.rp (eI frm))), (13, (.rp (eI front))), (14, (.lp lo1 0 0)), (20, (.fn (.func 75) [] [(.rp (eL aG x1))]))] ?_
  refine cC 0 ?_
  obtain ⟨o0, hl0, h0⟩ := aV h0
  refine wO (fid := 75) (ys := []) (cs := [(.rp (eL aG x1))]) #[21] (fun (A : qO) (b lL : Nat) (st : (Bool × List (Int × aU)) ⊕ (Bool × List (Int × aU))) (G' : Gs) => Sum.elim (fun (s : Bool × List (Int × aU)) => ∃ los : List (Nat × Nat), los.length = s.2.length ∧ G' = (lL, .raw (fN b A .ready none)) :: (up [(lo1, 1, [(aC s.1)])] ++ (pmG shP lm los s.2 ++ Fg))) (fun (s : Bool × List (Int × aU)) => ∃ los : List (Nat × Nat), los.length = s.2.length ∧ G' = (lL, .raw (fN b A .done (some .ret))) :: (up [(lo1, 1, [(aC s.1)])] ++ (pmG shP lm los s.2 ++ Fg))) st) (.inl (false, m)) o0 (.tup []) (by kernel_rfl) (by kernel_rfl) (by kernel_rfl) hO (fun _ _ => ⟨los, hl, rfl⟩) ?_ ?_
  · intro b lL
    clear hO h0
    refine IB _ b (fun st s => rnd (fun (q : Bool × List (Int × aU)) => nD r f size hop frm front q.1 q.2 s) st) ?_ x1 _ _ hl0
    intro st s21 out1 rr hr
    obtain ⟨s, rfl, h1, rfl⟩ := GO hr
    clear hr
    intro Hr Gr hi hg
    obtain ⟨t14, m1⟩ := s
    dsimp only [Sum.elim_inl] at hi
    obtain ⟨los1, hl1, rfl⟩ := hi
    replace h1 : nD r f size hop frm front t14 m1 s21 = some out1 := h1
    unfold nD at h1
    obtain ⟨E1, hE, hO⟩ := oY hg
    refine pH (uM (hO.gm 0 _ rfl).2 (by kernel_rfl) (by kernel_rfl) ?_)
    refine fQ [(7, (.rp (.mp lm))), (8, (.rp (eL aH r))), (9, (.rp (eL aG f))), (10, (.rp (eI size))), (11, (.rp (eI hop))), (12, (.rp (eI frm))), (13, (.rp (eI front))), (14, (.lp lo1 0 0)), (21, (bX s21))] ?_
    refine aS aD 2 ?_
    refine jS 2 (bX (bJ.mk 0 0)) (by kernel_rfl) (by kernel_rfl) hO ?_
    intro lo2 H hO
    refine fX 1 lo2 2 0 (bX (bJ.mk 0 0)) (bX s21) [(bX (bJ.mk 0 0))] [(lo1, 1, [(aC t14)]), (lo2, 2, [(bX s21)])] hO rfl (by kernel_rfl) ?_
    intro H hO
    refine dK ?_
    refine fC [(7, (.rp (.mp lm))), (8, (.rp (eL aH r))), (9, (.rp (eL aG f))), (10, (.rp (eI size))), (11, (.rp (eI hop))), (12, (.rp (eI frm))), (13, (.rp (eI front))), (14, (.lp lo1 0 0)), (15, (.lp lo2 0 0))] ?_
    refine aF (⟨rfl, rfl, (hO.gm 0 _ rfl).2, ?_⟩)
    intro o1 ho1
    replace hO := hO.mX o1
    refine cC 1 ?_
    refine aM ?_
    refine aS aD 6 ?_
    refine bN 2 ?_
    refine mO 1 lo2 2 0 (bX s21) (bX s21) [(bX s21)] hO rfl ?_
    refine bN 5 ?_
    obtain ⟨x2, hx2, h1⟩ := aV h1
    refine dX (DZ size hop s21 frm front _ hx2) hO ?_
    intro H hO
    refine dK ?_
    refine bC [(7, (.rp (.mp lm))), (8, (.rp (eL aH r))), (9, (.rp (eL aG f))), (10, (.rp (eI size))), (11, (.rp (eI hop))), (12, (.rp (eI frm))), (13, (.rp (eI front))), (14, (.lp lo1 0 0)), (27, (.fn (.func 54) [] [(.rp (eI x2.1)), (.rp (bX x2.2.1)), (.rp (eI x2.2.2.1)), (.rp (eI x2.2.2.2.1)), (.rp (eI x2.2.2.2.2))]))] ?_
    replace hO := hO.pick (L' := [(lo1, 1, [(aC t14)])]) [0] (by decide) (by kernel_rfl)
    refine cC 2 ?_
    obtain ⟨oi, hli, h1⟩ := aV h1
    refine aAF (fid := 54) (ys := []) (cs := [(.rp (eI x2.1)), (.rp (bX x2.2.1)), (.rp (eI x2.2.2.1)), (.rp (eI x2.2.2.2.1)), (.rp (eI x2.2.2.2.2))]) #[28] (fun (A2 : qO) (b2 lL2 : Nat) (st : (Bool × List (Int × aU)) ⊕ (Bool × List (Int × aU))) (G' : Gs) => Sum.elim (fun (s : Bool × List (Int × aU)) => ∃ los : List (Nat × Nat), los.length = s.2.length ∧ G' = (lL2, .raw (fN b2 A2 .ready none)) :: (up [(lo1, 1, [(aC s.1)])] ++ ((lL, o1) :: (pmG shP lm los s.2 ++ Fg)))) (fun (s : Bool × List (Int × aU)) => ∃ los : List (Nat × Nat), los.length = s.2.length ∧ G' = (lL2, .raw (fN b2 A2 .done (some .ret))) :: (up [(lo1, 1, [(aC s.1)])] ++ ((lL, o1) :: (pmG shP lm los s.2 ++ Fg)))) st) (.inl (t14, m1)) oi (.tup []) ((hO.gm 0 _ rfl).2.trans (congrArg some ho1)) (by kernel_rfl) (by kernel_rfl) (by kernel_rfl) hO (fun _ _ => ⟨los1, hl1, rfl⟩) ?_ ?_
    · intro b2 lL2
      clear hO h1
      refine yL _ b2 (fun st t => rnd (fun (q : Bool × List (Int × aU)) => mC r f size q.1 q.2 t) st) ?_ x2.1 x2.2.1 x2.2.2.1 x2.2.2.2.1 x2.2.2.2.2 _ _ hli
      clear hE
      intro st t28 out2 rr hr
      obtain ⟨s, rfl, h2, rfl⟩ := GO hr
      clear hr
      intro Hr2 Gr2 hi hg2
      obtain ⟨t14, m2⟩ := s
      dsimp only [Sum.elim_inl] at hi
      obtain ⟨los2, hl2, rfl⟩ := hi
      replace h2 : mC r f size t14 m2 t28 = some out2 := h2
      unfold mC at h2
      obtain ⟨E2, hE2, hO⟩ := oY hg2
      refine pH (uM (hO.gm 0 _ rfl).2 (by kernel_rfl) (by kernel_rfl) ?_)
      refine fQ [(7, (.rp (.mp lm))), (8, (.rp (eL aH r))), (9, (.rp (eL aG f))), (10, (.rp (eI size))), (11, (.rp (eI hop))), (12, (.rp (eI frm))), (13, (.rp (eI front))), (14, (.lp lo1 0 0)), (28, (eI t28))] ?_
      refine aS aD 1 ?_
      refine bA ?_
      refine fC [(7, (.rp (.mp lm))), (8, (.rp (eL aH r))), (9, (.rp (eL aG f))), (10, (.rp (eI size))), (11, (.rp (eI hop))), (12, (.rp (eI frm))), (13, (.rp (eI front))), (14, (.lp lo1 0 0)), (16, (eI t28))] ?_
      refine aF (⟨rfl, rfl, (hO.gm 0 _ rfl).2, ?_⟩)
      intro o2 ho2
      replace hO := hO.mX o2
      refine cC 3 ?_
      replace hO : aK ⟨Hr2, E2, (lm, oZ pN (pmM los2 m2)) :: (up (pmL shP los2 m2) ++ ((lL2, o2) :: (lL, o1) :: Fg))⟩ _ [(lo1, 1, [(aC t14)])] := hO.nN (List.perm_middle.trans (List.Perm.cons _ List.perm_middle)).symm
      refine aM ?_
      refine aS aD 4 ?_
      refine bN 2 ?_
      refine PJ (f := pN) (mty := 63) (ok := false) aD t28 none hO ?_
      refine bA ?_
      refine bC [(7, (.rp (.mp lm))), (8, (.rp (eL aH r))), (9, (.rp (eL aG f))), (10, (.rp (eI size))), (11, (.rp (eI hop))), (12, (.rp (eI frm))), (13, (.rp (eI front))), (14, (.lp lo1 0 0)), (16, (eI t28)), (17, (pN ((fG (pmM los2 m2) t28).getD none)))] ?_
      refine iI (fun T H => ∃ (a bb : Nat) (MM : List (Int × Option Nat)) (R : List (Nat × Nat × List V)) (p0 : aU), Has T [(7, (.rp (.mp lm))), (8, (.rp (eL aH r))), (9, (.rp (eL aG f))), (10, (.rp (eI size))), (11, (.rp (eI hop))), (12, (.rp (eI frm))), (13, (.rp (eI front))), (14, (.lp lo1 0 0)), (17, (.lp a 0 0))] ∧ Put shP m2 t28 a MM R ∧ aK ⟨Hr2, E2, (lm, oZ pN MM) :: (up R ++ ((lL2, o2) :: (lL, o1) :: Fg))⟩ H [(a, 3, [(.agg [(eI p0.Span.From), (eI p0.Span.To), (.msl 2 bb 0 (List.length p0.Rows))])]), (bb, 2, List.map cQ p0.Rows), (lo1, 1, [(aC t14)])] ∧ ((nG r f p0).bind fun p => some (.inl (t14, gR m2 t28 p))) = some out2) ?_ ?_
      · clear hO h2
        rintro T H ⟨a, bb, MM, R, p0, hT, hP, hO, h2⟩
        refine bK hT ?_
        clear hT
        obtain ⟨p1, hp, h2⟩ := aV h2
        have fin : ∀ (H : aP) (bb : Nat), aK ⟨Hr2, E2, (lm, oZ pN MM) :: (up R ++ ((lL2, o2) :: (lL, o1) :: Fg))⟩ H (shP a bb p1 ++ [(lo1, 1, [(aC t14)])]) → ∃ los' : List (Nat × Nat), los'.length = (gR m2 t28 p1).length ∧ aK ⟨Hr2, E2, (lL2, o2) :: ((lL, o1) :: (pmG shP lm los' (gR m2 t28 p1) ++ Fg))⟩ H [(lo1, 1, [(aC t14)])] := by
          intro H bb hO
          obtain ⟨los', hl', hO⟩ := hO.SX hP
          exact ⟨los', hl', hO.nN (List.perm_middle.trans (List.Perm.cons _ List.perm_middle))⟩
        unfold nG at hp
        refine aM ?_
        refine aS aD 7 ?_
        refine bN 3 ?_
        refine mO 0 a 3 0 (.agg [(eI p0.Span.From), (eI p0.Span.To), (.msl 2 bb 0 (List.length p0.Rows))]) (.msl 2 bb 0 (List.length p0.Rows)) [(.agg [(eI p0.Span.From), (eI p0.Span.To), (.msl 2 bb 0 (List.length p0.Rows))])] hO rfl ?_
        refine bA ?_
        refine bC [(7, (.rp (.mp lm))), (8, (.rp (eL aH r))), (9, (.rp (eL aG f))), (10, (.rp (eI size))), (11, (.rp (eI hop))), (12, (.rp (eI frm))), (13, (.rp (eI front))), (14, (.lp lo1 0 0)), (17, (.lp a 0 0)), (18, (eI (wR ((lN p0.Rows) - (1 : Int)))))] ?_
        refine aM ?_
        obtain ⟨c12, hp⟩ := aZ hp
        obtain ⟨x13, hx14, hp⟩ := aV hp
        refine gI (gH [65]) aD 15 ?_
        refine oR (K := fun T H => Has (lift T) [(7, (.rp (.mp lm))), (8, (.rp (eL aH r))), (9, (.rp (eL aG f))), (10, (.rp (eI size))), (11, (.rp (eI hop))), (12, (.rp (eI frm))), (13, (.rp (eI front))), (14, (.lp lo1 0 0)), (17, (.lp a 0 0)), (18, (eI (wR ((lN p0.Rows) - (1 : Int))))), (68, (aC ((decide ((wR ((lN p0.Rows) - (1 : Int))) < (0 : Int))) || (!x13))))] ∧ aK ⟨Hr2, E2, (lm, oZ pN MM) :: (up R ++ ((lL2, o2) :: (lL, o1) :: Fg))⟩ H [(a, 3, [(.agg [(eI p0.Span.From), (eI p0.Span.To), (.msl 2 bb 0 (List.length p0.Rows))])]), (bb, 2, List.map cQ p0.Rows), (lo1, 1, [(aC t14)])]) ?_ ?_
        · refine lR 3 ?_
          refine nT (t := 56) (e := decide ((wR ((lN p0.Rows) - (1 : Int))) < (0 : Int))) (by kernel_rfl) (fun hg15 => ?_) (fun hg15 => ?_)
          · refine kM ?_
            exact ⟨⟨[(7, (.rp (.mp lm))), (8, (.rp (eL aH r))), (9, (.rp (eL aG f))), (10, (.rp (eI size))), (11, (.rp (eI hop))), (12, (.rp (eI frm))), (13, (.rp (eI front))), (14, (.lp lo1 0 0)), (17, (.lp a 0 0)), (18, (eI (wR ((lN p0.Rows) - (1 : Int))))), (68, (aC true))], by kernel_rfl, rfl, ⟨aN.refl _, aN.refl _, aN.refl _, aN.refl _, aN.refl _, aN.refl _, aN.refl _, aN.refl _, aN.refl _, aN.refl _, aN.eq (congrArg aC (by rw [hg15]; rfl)), trivial⟩⟩, hO⟩
          · refine lR 6 ?_
            refine jI 0 a 3 0 (.agg [(eI p0.Span.From), (eI p0.Span.To), (.msl 2 bb 0 (List.length p0.Rows))]) (.msl 2 bb 0 (List.length p0.Rows)) [(.agg [(eI p0.Span.From), (eI p0.Span.To), (.msl 2 bb 0 (List.length p0.Rows))])] (by kernel_rfl) (by kernel_rfl) (by kernel_rfl) hO (by kernel_rfl) rfl ?_
            have c13 := c12 (by rw [hg15]; rfl)
            refine cH 10 [0 ≤ (wR ((lN p0.Rows) - (1 : Int))) ∧ (wR ((lN p0.Rows) - (1 : Int))) < (lN p0.Rows)] ⟨c13, trivial⟩ ?_
            refine jI 1 bb 2 (0 + Int.toNat (wR ((lN p0.Rows) - (1 : Int)))) (cQ (gD p0.Rows (wR ((lN p0.Rows) - (1 : Int))))) (eL aH ((gD p0.Rows (wR ((lN p0.Rows) - (1 : Int)))).Row)) (List.map cQ p0.Rows) (by kernel_rfl) (by kernel_rfl) (by kernel_rfl) hO (by kernel_rfl) (bW c13) ?_
            refine lR 12 ?_
            refine nX 58 [(eL aH ((gD p0.Rows (wR ((lN p0.Rows) - (1 : Int)))).Row)), (eL aH r)] (aC x13) (by kernel_rfl) (by kernel_rfl) (HK ((gD p0.Rows (wR ((lN p0.Rows) - (1 : Int)))).Row) r _ (jN hx14 (by rw [hg15]; rfl))) hO ?_
            intro H hO
            refine kM ?_
            exact ⟨⟨[(7, (.rp (.mp lm))), (8, (.rp (eL aH r))), (9, (.rp (eL aG f))), (10, (.rp (eI size))), (11, (.rp (eI hop))), (12, (.rp (eI frm))), (13, (.rp (eI front))), (14, (.lp lo1 0 0)), (17, (.lp a 0 0)), (18, (eI (wR ((lN p0.Rows) - (1 : Int))))), (68, (aC (!x13)))], by kernel_rfl, rfl, ⟨aN.refl _, aN.refl _, aN.refl _, aN.refl _, aN.refl _, aN.refl _, aN.refl _, aN.refl _, aN.refl _, aN.refl _, aN.eq (congrArg aC (by rw [hg15]; rfl)), trivial⟩⟩, hO⟩
        · rintro T H ⟨hT, hO⟩
          refine eD hT ?_
          clear hT
          refine aF (aJ ?_)
          refine bQ hp (fun hp => ?_) (fun hp => ?_)
          · obtain ⟨x15, hx15, hp⟩ := aV hp
            obtain ⟨x16, hx16, hp⟩ := aV hp
            obtain ⟨c17, hp⟩ := aZ hp
            refine gI (gH [74, 75, 76, 81, 83, 84]) aD 19 ?_
            refine lR 4 ?_
            refine gW 0 a 3 0 (.agg [(eI p0.Span.From), (eI p0.Span.To), (.msl 2 bb 0 (List.length p0.Rows))]) (.msl 2 bb 0 (List.length p0.Rows)) [(.agg [(eI p0.Span.From), (eI p0.Span.To), (.msl 2 bb 0 (List.length p0.Rows))])] hO rfl ?_
            refine lR 6 ?_
            refine yZ (BJ r _ hx15) hO ?_
            intro H hO
            refine lR 11 ?_
            refine gW 0 a 3 0 (.agg [(eI p0.Span.From), (eI p0.Span.To), (.msl 2 bb 0 (List.length p0.Rows))]) (bX p0.Span) [(.agg [(eI p0.Span.From), (eI p0.Span.To), (.msl 2 bb 0 (List.length p0.Rows))])] hO rfl ?_
            refine yZ (MH f p0.Span _ hx16) hO ?_
            intro H hO
            refine lR 14 ?_
            refine UH (xs := [(cQ (dR.mk x15 x16))]) (k := 2) (by kernel_rfl) (by kernel_rfl) ?_
            refine KF (e := cQ) p0.Rows ([dR.mk x15 x16]) 1 bb 2 32 (iD [(cQ (dR.mk x15 x16))]) (fun bc => [(a, 3, [(.agg [(eI p0.Span.From), (eI p0.Span.To), (.msl 2 bb 0 (List.length p0.Rows))])]), (bc, 2, List.map cQ (p0.Rows ++ ([dR.mk x15 x16]))), (lo1, 1, [(aC t14)])]) (by kernel_rfl) (by kernel_rfl) hO (by kernel_rfl) (by kernel_rfl) c17 (fun _ => by kernel_rfl) ?_
            intro bc H hO
            refine lR 18 ?_
            refine kP 0 a 3 0 (.agg [(eI p0.Span.From), (eI p0.Span.To), (.msl 2 bb 0 (List.length p0.Rows))]) (.agg [(eI p0.Span.From), (eI p0.Span.To), (.msl 2 bc 0 (List.length (p0.Rows ++ ([dR.mk x15 x16]))))]) [(.agg [(eI p0.Span.From), (eI p0.Span.To), (.msl 2 bb 0 (List.length p0.Rows))])] [(a, 3, [(.agg [(eI p0.Span.From), (eI p0.Span.To), (.msl 2 bc 0 (List.length (p0.Rows ++ ([dR.mk x15 x16]))))])]), (bc, 2, List.map cQ (p0.Rows ++ ([dR.mk x15 x16]))), (lo1, 1, [(aC t14)])] hO rfl (by kernel_rfl) ?_
            intro H hO
            refine nC (by kernel_rfl) ?_
            obtain rfl := oI hp
            refine fC [(7, (.rp (.mp lm))), (8, (.rp (eL aH r))), (9, (.rp (eL aG f))), (10, (.rp (eI size))), (11, (.rp (eI hop))), (12, (.rp (eI frm))), (13, (.rp (eI front))), (14, (.lp lo1 0 0))] ?_
            obtain ⟨los', hl', hO⟩ := fin H bc hO
            obtain rfl := oI h2
            exact aF (aX (⟨(dB hO hE2 ho2 .dead).1, rfl, _, ⟨los', hl', rfl⟩, (dB hO hE2 ho2 _).2⟩))
          · refine bR ?_
            obtain rfl := oI hp
            refine fC [(7, (.rp (.mp lm))), (8, (.rp (eL aH r))), (9, (.rp (eL aG f))), (10, (.rp (eI size))), (11, (.rp (eI hop))), (12, (.rp (eI frm))), (13, (.rp (eI front))), (14, (.lp lo1 0 0))] ?_
            obtain ⟨los', hl', hO⟩ := fin H bb hO
            obtain rfl := oI h2
            exact aF (aX (⟨(dB hO hE2 ho2 .dead).1, rfl, _, ⟨los', hl', rfl⟩, (dB hO hE2 ho2 _).2⟩))
      cases hg : fG m2 t28 with
      | none =>
        rw [hg] at h2
        replace h2 : cond (decide ((lN m2) = (1024 : Int))) (some (.inr (false, m2))) ((nG r f (aU.mk (bJ.mk t28 (if (1125899906842624 : Int) < (wR (t28 + size)) then (1125899906842624 : Int) else (wR (t28 + size)))) [])).bind fun p => some (.inl (t14, gR m2 t28 p))) = some out2 := h2
        rw [SW hg]
        refine fQ [(7, (.rp (.mp lm))), (8, (.rp (eL aH r))), (9, (.rp (eL aG f))), (10, (.rp (eI size))), (11, (.rp (eI hop))), (12, (.rp (eI frm))), (13, (.rp (eI front))), (14, (.lp lo1 0 0)), (16, (eI t28)), (17, (.lit (.pointer none)))] ?_
        refine aM ?_
        refine aS aD 2 ?_
        refine bN 1 ?_
        refine OV true ?_
        refine dK ?_
        refine bC [(7, (.rp (.mp lm))), (8, (.rp (eL aH r))), (9, (.rp (eL aG f))), (10, (.rp (eI size))), (11, (.rp (eI hop))), (12, (.rp (eI frm))), (13, (.rp (eI front))), (14, (.lp lo1 0 0)), (16, (eI t28)), (33, (aC true))] ?_
        refine lV (true) (fun hc => ?_) (fun hc => by cases hc)
        refine aM ?_
        refine aM ?_
        refine aS aD 3 ?_
        refine bN 1 ?_
        refine QE (mty := 63) hO ?_
        rw [JX hl2]
        refine bA ?_
        refine bC [(7, (.rp (.mp lm))), (8, (.rp (eL aH r))), (9, (.rp (eL aG f))), (10, (.rp (eI size))), (11, (.rp (eI hop))), (12, (.rp (eI frm))), (13, (.rp (eI front))), (14, (.lp lo1 0 0)), (16, (eI t28)), (36, (aC (decide ((lN m2) = (1024 : Int)))))] ?_
        refine bQ h2 (fun h2 => ?_) (fun h2 => ?_)
        · refine aM ?_
          refine aS aD 1 ?_
          refine fX 0 lo1 1 0 (aC t14) (aC false) [(aC t14)] [(lo1, 1, [(aC false)])] hO rfl (by kernel_rfl) ?_
          intro H hO
          refine dK ?_
          refine bC [(14, (.lp lo1 0 0))] ?_
          refine bI ?_
          obtain rfl := oI h2
          replace hO : aK ⟨Hr2, E2, (lL2, o2) :: ((lL, o1) :: (pmG shP lm los2 m2 ++ Fg))⟩ H [(lo1, 1, [(aC false)])] := (show aK ⟨Hr2, E2, pmG shP lm los2 m2 ++ ((lL2, o2) :: (lL, o1) :: Fg)⟩ H [(lo1, 1, [(aC false)])] from hO).nN (List.perm_middle.trans (List.Perm.cons _ List.perm_middle))
          exact aF (aR (aR (bD (⟨(dB hO hE2 ho2 .dead).1, rfl, _, ⟨los2, hl2, rfl⟩, (dB hO hE2 ho2 _).2⟩))))
        refine bR ?_
        refine bC [(7, (.rp (.mp lm))), (8, (.rp (eL aH r))), (9, (.rp (eL aG f))), (10, (.rp (eI size))), (11, (.rp (eI hop))), (12, (.rp (eI frm))), (13, (.rp (eI front))), (14, (.lp lo1 0 0)), (16, (eI t28))] ?_
        refine aM ?_
        refine aS aD 9 ?_
        refine bN 7 ?_
        refine jS 3 (.agg [(eI (bJ.mk t28 (if (1125899906842624 : Int) < (wR (t28 + size)) then (1125899906842624 : Int) else (wR (t28 + size)))).From), (eI (bJ.mk t28 (if (1125899906842624 : Int) < (wR (t28 + size)) then (1125899906842624 : Int) else (wR (t28 + size)))).To), (.sl true 0 (fun _ => .bad))]) (by kernel_rfl) (by kernel_rfl) hO ?_
        intro lo3 H hO
        refine bA ?_
        refine aCa 1 3 lo3 2 2 [(eI (bJ.mk t28 (if (1125899906842624 : Int) < (wR (t28 + size)) then (1125899906842624 : Int) else (wR (t28 + size)))).From), (eI (bJ.mk t28 (if (1125899906842624 : Int) < (wR (t28 + size)) then (1125899906842624 : Int) else (wR (t28 + size)))).To), (.sl true 0 (fun _ => .bad))] (fun _ => .bad) (fun lo4 => [(lo1, 1, [(aC t14)]), (lo3, 3, [(.agg [(eI (bJ.mk t28 (if (1125899906842624 : Int) < (wR (t28 + size)) then (1125899906842624 : Int) else (wR (t28 + size)))).From), (eI (bJ.mk t28 (if (1125899906842624 : Int) < (wR (t28 + size)) then (1125899906842624 : Int) else (wR (t28 + size)))).To), (.msl 2 lo4 0 0)])]), (lo4, 2, [])]) hO (by kernel_rfl) (by kernel_rfl) (fun _ => by kernel_rfl) ?_
        intro lo4 H hO
        refine bC [(7, (.rp (.mp lm))), (8, (.rp (eL aH r))), (9, (.rp (eL aG f))), (10, (.rp (eI size))), (11, (.rp (eI hop))), (12, (.rp (eI frm))), (13, (.rp (eI front))), (14, (.lp lo1 0 0)), (16, (eI t28)), (17, (.lp lo3 0 0))] ?_
        refine aS aD 4 ?_
        refine bN 3 ?_
        refine ZM (f := pN) (mty := 63) t28 (some lo3) hO ?_
        intro H hO
        refine dK ?_
        replace hO := hO.pick (L' := [(lo3, 3, [(.agg [(eI (bJ.mk t28 (if (1125899906842624 : Int) < (wR (t28 + size)) then (1125899906842624 : Int) else (wR (t28 + size)))).From), (eI (bJ.mk t28 (if (1125899906842624 : Int) < (wR (t28 + size)) then (1125899906842624 : Int) else (wR (t28 + size)))).To), (.msl 2 lo4 0 0)])]), (lo4, 2, []), (lo1, 1, [(aC t14)])]) [1, 2, 0] (by decide) (by kernel_rfl)
        exact aF (aJ ⟨rfl, lo3, lo4, _, _, (aU.mk (bJ.mk t28 (if (1125899906842624 : Int) < (wR (t28 + size)) then (1125899906842624 : Int) else (wR (t28 + size)))) []), .eq (by kernel_rfl), XF hl2 hg, hO, h2⟩)
      | some p0 =>
        rw [hg] at h2
        obtain ⟨a, bb, R, e1, hP, hO⟩ := aK.focus (sh := shP) (los := los2) (m := m2) (G := (lL2, o2) :: (lL, o1) :: Fg) hO hl2 hg
        rw [e1]
        refine fQ [(7, (.rp (.mp lm))), (8, (.rp (eL aH r))), (9, (.rp (eL aG f))), (10, (.rp (eI size))), (11, (.rp (eI hop))), (12, (.rp (eI frm))), (13, (.rp (eI front))), (14, (.lp lo1 0 0)), (16, (eI t28)), (17, (.lp a 0 0))] ?_
        refine aM ?_
        refine aS aD 2 ?_
        refine bN 1 ?_
        refine OV false ?_
        refine dK ?_
        refine bC [(7, (.rp (.mp lm))), (8, (.rp (eL aH r))), (9, (.rp (eL aG f))), (10, (.rp (eI size))), (11, (.rp (eI hop))), (12, (.rp (eI frm))), (13, (.rp (eI front))), (14, (.lp lo1 0 0)), (16, (eI t28)), (17, (.lp a 0 0)), (33, (aC false))] ?_
        refine lV (false) (fun hc => by cases hc) (fun hc => ?_)
        refine bR ?_
        exact aF (aJ ⟨rfl, a, bb, _, R, p0, .eq (by kernel_rfl), hP, hO, h2⟩)
    · intro b2 lL2 H' G' hi hO
      rcases oi with s | s
      · dsimp only [Sum.elim_inl] at hi
        obtain ⟨los2, hl2, rfl⟩ := hi
        obtain rfl := oI h1
        obtain ⟨hlL, hO⟩ := FO hO
        refine ⟨_, _, hlL, (by intro e; cases e), ?_⟩
        refine fC [(7, (.rp (.mp lm))), (8, (.rp (eL aH r))), (9, (.rp (eL aG f))), (10, (.rp (eI size))), (11, (.rp (eI hop))), (12, (.rp (eI frm))), (13, (.rp (eI front))), (14, (.lp lo1 0 0))] ?_
        exact aF (aX (aX (⟨(dB hO hE ho1 .dead).1, rfl, _, ⟨los2, hl2, rfl⟩, (dB hO hE ho1 _).2⟩)))
      · dsimp only [Sum.elim_inr] at hi
        obtain ⟨los2, hl2, rfl⟩ := hi
        obtain rfl := oI h1
        obtain ⟨hlL, hO⟩ := FO hO
        refine ⟨_, _, hlL, (by intro e; cases e), ?_⟩
        refine bI ?_
        exact aF (bD (bD (⟨(dB hO hE ho1 .dead).1, rfl, _, ⟨los2, hl2, rfl⟩, (dB hO hE ho1 _).2⟩)))
  · intro b lD lL H' G' hi hO
    rcases o0 with s | s
    · dsimp only [Sum.elim_inl] at hi
      obtain ⟨los1, hl1, rfl⟩ := hi
      obtain rfl := oI h0
      obtain ⟨hlL, hO⟩ := lH hO
      refine ⟨_, _, hlL, (by intro e; cases e), ?_⟩
      refine fC [(14, (.lp lo1 0 0))] ?_
      refine aF (aX (aJ (?_)))
      refine aM ?_
      refine aS aD 1 ?_
      refine fX 0 lo1 1 0 (aC s.1) (aC true) [(aC s.1)] [(lo1, 1, [(aC true)])] hO rfl (by kernel_rfl) ?_
      intro H hO
      refine dK ?_
      refine bC [(14, (.lp lo1 0 0))] ?_
      refine bI ?_
      have hD := (hO.gm 0 _ rfl).2
      replace hO := (hO.mX .dead).nQ
      exact aF (QM1 (.inr rfl) hD (rs := [.cell 14 4]) (xs := [(aC true)]) (x := (aC true)) (by kernel_rfl) (fL (lo := lo1) (k := 1) (y := (aC true)) (x := (aC true)) 0 hO (by kernel_rfl) (by kernel_rfl) (by kernel_rfl) (by kernel_rfl) lM) (by kernel_rfl) ⟨_, [], ⟨los1, hl1, rfl, rfl, rfl⟩, hO.pick (L' := []) [] (by decide) (by kernel_rfl)⟩)
    · dsimp only [Sum.elim_inr] at hi
      obtain ⟨los1, hl1, rfl⟩ := hi
      obtain rfl := oI h0
      obtain ⟨hlL, hO⟩ := lH hO
      refine ⟨_, _, hlL, (by intro e; cases e), ?_⟩
      refine bI ?_
      refine aF (bD (aR ?_))
      have hD := (hO.gm 0 _ rfl).2
      replace hO := (hO.mX .dead).nQ
      exact QM1 (.inr rfl) hD (rs := [.cell 14 4]) (xs := [(aC s.1)]) (x := (aC s.1)) (by kernel_rfl) (fL (lo := lo1) (k := 1) (y := (aC s.1)) (x := (aC s.1)) 0 hO (by kernel_rfl) (by kernel_rfl) (by kernel_rfl) (by kernel_rfl) lM) (by kernel_rfl) ⟨_, [], ⟨los1, hl1, rfl, rfl, rfl⟩, hO.pick (L' := []) [] (by decide) (by kernel_rfl)⟩

theorem zZ (l0 : (List aL)) (jZ : Int) (hop2 : Int) (iH : Int) (dJ : Int) (r : ((List aU) × Int)) (h0 : oX l0 jZ hop2 iH dJ = some r) : dH Try.prog 16 [(eL aO l0), (eI jZ), (eI hop2), (eI iH), (eI dJ)] (.tup [(eL aT r.1), (eI r.2)]) := by
  intro H0
  refine yK aD Try.func16 (by kernel_rfl) (by kernel_rfl) (by kernel_rfl) ?_
  have hO := aK.start H0
  unfold oX at h0
  refine aM ?_
  refine aS aD 6 ?_
  refine gM 1 (eI jZ) (by kernel_rfl) (by kernel_rfl) ?_
  refine gM 1 (eI hop2) (by kernel_rfl) (by kernel_rfl) ?_
  refine gM 1 (eI iH) (by kernel_rfl) (by kernel_rfl) ?_
  refine gM 1 (eI dJ) (by kernel_rfl) (by kernel_rfl) ?_
  refine wD 1 (.sl true 0 (fun _ => .bad)) (eL aT ([])) (by kernel_rfl) (by kernel_rfl) (by kernel_rfl) (kE) (by kernel_rfl) (by kernel_rfl) hO ?_
  intro lo1 H hO
  refine jS 1 (eI 0) (by kernel_rfl) (by kernel_rfl) hO ?_
  intro lo2 H hO
  refine dK ?_
  refine bC [(0, (eL aO l0)), (6, (.rp (eI jZ))), (7, (.rp (eI hop2))), (8, (.rp (eI iH))), (9, (.rp (eI dJ))), (10, (.lp lo1 0 0)), (11, (.lp lo2 0 0))] ?_
  refine aM ?_
  refine cC 0 ?_
  refine aM ?_
  refine aS aD 10 ?_
  refine bN 2 ?_
  obtain ⟨x3, hx4, h0⟩ := aV h0
  refine dX (EE jZ hop2 _ hx4) hO ?_
  intro H hO
  refine bN 6 ?_
  obtain ⟨x6, hx7, h0⟩ := aV h0
  refine nB [(25, false)] 31 [(eL aO l0)] (aC x6) (!(!x3)) (by kernel_rfl) (by kernel_rfl) (by kernel_rfl) (fun hb8 => (BU l0 _ (jN hx7 hb8))) hO ?_
  intro H hO
  refine bA ?_
  refine bU [] [(20, (aC ((!x3) || (!x6))))] ?_
  refine bQ h0 (fun h0 => ?_) (fun h0 => ?_)
  · refine aM ?_
    refine aS aD 2 ?_
    refine fX 0 lo1 1 0 (eL aT ([])) (.sl true 0 (fun _ => .bad)) [(eL aT ([]))] [(lo1, 1, [(.sl true 0 (fun _ => .bad))]), (lo2, 1, [(eI 0)])] hO rfl (by kernel_rfl) ?_
    intro H hO
    refine fX 1 lo2 1 0 (eI 0) (eI (2 : Int)) [(eI 0)] [(lo1, 1, [(.sl true 0 (fun _ => .bad))]), (lo2, 1, [(eI (2 : Int))])] hO rfl (by kernel_rfl) ?_
    intro H hO
    refine dK ?_
    refine pG 0 lo1 1 (.sl true 0 (fun _ => .bad)) (eL aT ([])) [(lo1, 1, [(eL aT ([]))]), (lo2, 1, [(eI (2 : Int))])] hO (by kernel_rfl) (by kernel_rfl) kE (by kernel_rfl) ?_
    intro H hO
    refine bC [(10, (.lp lo1 0 0)), (11, (.lp lo2 0 0))] ?_
    refine bI ?_
    obtain rfl := oI h0
    exact aF (bD (aR (QM0 (.inr rfl) (rs := [.cell 10 37, .cell 11 22]) (xs := [(eL aT ([])), (eI (2 : Int))]) (x := (.tup [(eL aT ([])), (eI (2 : Int))])) (by kernel_rfl) (fL (lo := lo1) (k := 1) (y := (eL aT ([]))) (x := (eL aT ([]))) 0 hO (by kernel_rfl) (by kernel_rfl) (by kernel_rfl) (by kernel_rfl) (fL (lo := lo2) (k := 1) (y := (eI (2 : Int))) (x := (eI (2 : Int))) 1 hO (by kernel_rfl) (by kernel_rfl) (by kernel_rfl) (by kernel_rfl) lM)) (by kernel_rfl) ⟨rfl, hO.out⟩)))
  refine aM ?_
  refine aS aD 4 ?_
  refine bN 1 ?_
  obtain ⟨x10, hx11, h0⟩ := aV h0
  refine dX (CW l0 _ hx11) hO ?_
  intro H hO
  refine bA ?_
  refine bU [20] [(30, (aC (!x10)))] ?_
  refine bQ h0 (fun h0 => ?_) (fun h0 => ?_)
  · refine aM ?_
    refine aS aD 2 ?_
    refine fX 0 lo1 1 0 (eL aT ([])) (.sl true 0 (fun _ => .bad)) [(eL aT ([]))] [(lo1, 1, [(.sl true 0 (fun _ => .bad))]), (lo2, 1, [(eI 0)])] hO rfl (by kernel_rfl) ?_
    intro H hO
    refine fX 1 lo2 1 0 (eI 0) (eI (20 : Int)) [(eI 0)] [(lo1, 1, [(.sl true 0 (fun _ => .bad))]), (lo2, 1, [(eI (20 : Int))])] hO rfl (by kernel_rfl) ?_
    intro H hO
    refine dK ?_
    refine pG 0 lo1 1 (.sl true 0 (fun _ => .bad)) (eL aT ([])) [(lo1, 1, [(eL aT ([]))]), (lo2, 1, [(eI (20 : Int))])] hO (by kernel_rfl) (by kernel_rfl) kE (by kernel_rfl) ?_
    intro H hO
    refine bC [(10, (.lp lo1 0 0)), (11, (.lp lo2 0 0))] ?_
    refine bI ?_
    obtain rfl := oI h0
    exact aF (bD (aR (QM0 (.inr rfl) (rs := [.cell 10 37, .cell 11 22]) (xs := [(eL aT ([])), (eI (20 : Int))]) (x := (.tup [(eL aT ([])), (eI (20 : Int))])) (by kernel_rfl) (fL (lo := lo1) (k := 1) (y := (eL aT ([]))) (x := (eL aT ([]))) 0 hO (by kernel_rfl) (by kernel_rfl) (by kernel_rfl) (by kernel_rfl) (fL (lo := lo2) (k := 1) (y := (eI (20 : Int))) (x := (eI (20 : Int))) 1 hO (by kernel_rfl) (by kernel_rfl) (by kernel_rfl) (by kernel_rfl) lM)) (by kernel_rfl) ⟨rfl, hO.out⟩)))
  refine aM ?_
  refine aS aD 9 ?_
  refine bN 1 ?_
  obtain ⟨x14, hx15, h0⟩ := aV h0
  refine dX (vQ iH _ hx15) hO ?_
  intro H hO
  refine bN 5 ?_
  obtain ⟨x17, hx18, h0⟩ := aV h0
  refine nB [(38, false)] 25 [(eI dJ)] (aC x17) (!(!x14)) (by kernel_rfl) (by kernel_rfl) (by kernel_rfl) (fun hb19 => (vQ dJ _ (jN hx18 hb19))) hO ?_
  intro H hO
  refine bA ?_
  refine bU [30] [(34, (aC ((!x14) || (!x17))))] ?_
  refine bQ h0 (fun h0 => ?_) (fun h0 => ?_)
  · refine aM ?_
    refine aS aD 2 ?_
    refine fX 0 lo1 1 0 (eL aT ([])) (.sl true 0 (fun _ => .bad)) [(eL aT ([]))] [(lo1, 1, [(.sl true 0 (fun _ => .bad))]), (lo2, 1, [(eI 0)])] hO rfl (by kernel_rfl) ?_
    intro H hO
    refine fX 1 lo2 1 0 (eI 0) (eI (13 : Int)) [(eI 0)] [(lo1, 1, [(.sl true 0 (fun _ => .bad))]), (lo2, 1, [(eI (13 : Int))])] hO rfl (by kernel_rfl) ?_
    intro H hO
    refine dK ?_
    refine pG 0 lo1 1 (.sl true 0 (fun _ => .bad)) (eL aT ([])) [(lo1, 1, [(eL aT ([]))]), (lo2, 1, [(eI (13 : Int))])] hO (by kernel_rfl) (by kernel_rfl) kE (by kernel_rfl) ?_
    intro H hO
    refine bC [(10, (.lp lo1 0 0)), (11, (.lp lo2 0 0))] ?_
    refine bI ?_
    obtain rfl := oI h0
    exact aF (bD (aR (QM0 (.inr rfl) (rs := [.cell 10 37, .cell 11 22]) (xs := [(eL aT ([])), (eI (13 : Int))]) (x := (.tup [(eL aT ([])), (eI (13 : Int))])) (by kernel_rfl) (fL (lo := lo1) (k := 1) (y := (eL aT ([]))) (x := (eL aT ([]))) 0 hO (by kernel_rfl) (by kernel_rfl) (by kernel_rfl) (by kernel_rfl) (fL (lo := lo2) (k := 1) (y := (eI (13 : Int))) (x := (eI (13 : Int))) 1 hO (by kernel_rfl) (by kernel_rfl) (by kernel_rfl) (by kernel_rfl) lM)) (by kernel_rfl) ⟨rfl, hO.out⟩)))
  refine bR ?_
  refine fC [(0, (eL aO l0)), (6, (.rp (eI jZ))), (7, (.rp (eI hop2))), (8, (.rp (eI iH))), (9, (.rp (eI dJ))), (10, (.lp lo1 0 0)), (11, (.lp lo2 0 0))] ?_
  refine aF (aX (aJ (?_)))
  unfold zF at h0
  refine aM ?_
  refine aS aD 3 ?_
  refine YQ (β := Option Nat) pN (t := 63) hO ?_
  intro lm H hO
  refine jS 1 (.lit (.map none)) (by kernel_rfl) (by kernel_rfl) hO ?_
  intro lo12 H hO
  refine fX 2 lo12 1 0 (.lit (.map none)) (.mp lm) [(.lit (.map none))] [(lo1, 1, [(eL aT ([]))]), (lo2, 1, [(eI 0)]), (lo12, 1, [(.mp lm)])] hO rfl (by kernel_rfl) ?_
  intro H hO
  replace hO : aK ⟨H0, [], pmG shP lm [] [] ++ []⟩ H [(lo1, 1, [(eL aT ([]))]), (lo2, 1, [(eI 0)]), (lo12, 1, [(.mp lm)])] := hO
  refine dK ?_
  refine bC [(0, (eL aO l0)), (6, (.rp (eI jZ))), (7, (.rp (eI hop2))), (8, (.rp (eI iH))), (9, (.rp (eI dJ))), (10, (.lp lo1 0 0)), (11, (.lp lo2 0 0)), (12, (.lp lo12 0 0))] ?_
  refine aM ?_
  refine aM ?_
  refine aS aD 2 ?_
  refine bN 1 ?_
  obtain ⟨x1, hx1, h0⟩ := aV h0
  refine dX (MF l0 _ hx1) hO ?_
  intro H hO
  refine dK ?_
  refine bC [(6, (.rp (eI jZ))), (7, (.rp (eI hop2))), (8, (.rp (eI iH))), (9, (.rp (eI dJ))), (10, (.lp lo1 0 0)), (11, (.lp lo2 0 0)), (12, (.lp lo12 0 0)), (45, (.fn (.func 55) [] [(.rp (eL aO x1))]))] ?_
  refine cC 1 ?_
  obtain ⟨o0, hl0, h0⟩ := aV h0
  refine wO (fid := 55) (ys := []) (cs := [(.rp (eL aO x1))]) #[46, 47] (fun (A : qO) (b lL : Nat) (st : (List aU × Int × List (Int × aU)) ⊕ (List aU × Int × List (Int × aU))) (G' : Gs) => Sum.elim (fun (s : List aU × Int × List (Int × aU)) => ∃ los : List (Nat × Nat), los.length = s.2.2.length ∧ G' = (lL, .raw (fN b A .ready none)) :: (up [(lo1, 1, [(eL aT (s.1))]), (lo2, 1, [(eI (s.2.1))]), (lo12, 1, [(.mp lm)])] ++ (pmG shP lm los s.2.2 ++ []))) (fun (s : List aU × Int × List (Int × aU)) => ∃ los : List (Nat × Nat), los.length = s.2.2.length ∧ G' = (lL, .raw (fN b A .done (some .ret))) :: (up [(lo1, 1, [(eL aT (s.1))]), (lo2, 1, [(eI (s.2.1))]), (lo12, 1, [(.mp lm)])] ++ (pmG shP lm los s.2.2 ++ []))) st) (.inl ([], 0, [])) o0 (.tup []) (by kernel_rfl) (by kernel_rfl) (by kernel_rfl) hO (fun _ _ => ⟨[], rfl, rfl⟩) ?_ ?_
  · intro b lL
    clear hO h0
    refine FB _ b (fun st t46 t47 => rnd (fun (q : List aU × Int × List (Int × aU)) => lX jZ hop2 iH dJ q.1 q.2.1 q.2.2 t46 t47) st) ?_ x1 _ _ hl0
    intro st t46 t47 out1 rr hr
    obtain ⟨s, rfl, h1, rfl⟩ := GO hr
    clear hr
    intro Hr Gr hi hg
    obtain ⟨t10, t11, m⟩ := s
    dsimp only [Sum.elim_inl] at hi
    obtain ⟨los, hl, rfl⟩ := hi
    replace h1 : lX jZ hop2 iH dJ t10 t11 m t46 t47 = some out1 := h1
    unfold lX at h1
    obtain ⟨E1, hE, hO⟩ := oY hg
    refine pH (uM (hO.gm 0 _ rfl).2 (by kernel_rfl) (by kernel_rfl) ?_)
    refine fQ [(6, (.rp (eI jZ))), (7, (.rp (eI hop2))), (8, (.rp (eI iH))), (9, (.rp (eI dJ))), (10, (.lp lo1 0 0)), (11, (.lp lo2 0 0)), (12, (.lp lo12 0 0)), (46, (eL aH t46)), (47, (eL aG t47))] ?_
    refine cJ aD 1 [(6, (.rp (eI jZ))), (7, (.rp (eI hop2))), (8, (.rp (eI iH))), (9, (.rp (eI dJ))), (10, (.lp lo1 0 0)), (11, (.lp lo2 0 0)), (12, (.lp lo12 0 0)), (13, (eL aH t46)), (47, (eL aG t47))] ?_
    refine aS aD 1 ?_
    refine bA ?_
    refine fC [(6, (.rp (eI jZ))), (7, (.rp (eI hop2))), (8, (.rp (eI iH))), (9, (.rp (eI dJ))), (10, (.lp lo1 0 0)), (11, (.lp lo2 0 0)), (12, (.lp lo12 0 0)), (13, (eL aH t46)), (14, (eL aG t47))] ?_
    refine aF (⟨rfl, rfl, (hO.gm 0 _ rfl).2, ?_⟩)
    intro o1 ho1
    replace hO := hO.mX o1
    refine cC 2 ?_
    refine aM ?_
    refine aS aD 9 ?_
    refine mO 2 lo12 1 0 (.mp lm) (.mp lm) [(.mp lm)] hO rfl ?_
    refine bN 7 ?_
    obtain ⟨x2, hx2, h1⟩ := aV h1
    replace hO : aK ⟨Hr, E1, pmG shP lm los m ++ ((lL, o1) :: [])⟩ _ [(lo1, 1, [(eL aT t10)]), (lo2, 1, [(eI t11)]), (lo12, 1, [(.mp lm)])] := hO.nN List.perm_middle.symm
    refine aCJ (pmG shP lm los m) [(lo1, 1, [(eL aT t10)]), (lo2, 1, [(eI t11)]), (lo12, 1, [(.mp lm)])] [0, 1, 2] (OC lm los m hl t46 t47 jZ hop2 iH dJ _ hx2) hO ?_
    intro r1 M1 L1 H hP hO
    obtain ⟨los', hl', rfl, rfl, rfl⟩ := hP
    replace hO : aK ⟨Hr, E1, (lL, o1) :: (pmG shP lm los' x2.2 ++ [])⟩ H [(lo1, 1, [(eL aT t10)]), (lo2, 1, [(eI t11)]), (lo12, 1, [(.mp lm)])] := hO.nN List.perm_middle
    refine bA ?_
    refine bC [(10, (.lp lo1 0 0)), (11, (.lp lo2 0 0)), (12, (.lp lo12 0 0)), (56, (aC (!x2.1)))] ?_
    refine bQ h1 (fun h1 => ?_) (fun h1 => ?_)
    · refine aM ?_
      refine aS aD 2 ?_
      refine fX 0 lo1 1 0 (eL aT t10) (.sl true 0 (fun _ => .bad)) [(eL aT t10)] [(lo1, 1, [(.sl true 0 (fun _ => .bad))]), (lo2, 1, [(eI t11)]), (lo12, 1, [(.mp lm)])] hO rfl (by kernel_rfl) ?_
      intro H hO
      refine fX 1 lo2 1 0 (eI t11) (eI (7 : Int)) [(eI t11)] [(lo1, 1, [(.sl true 0 (fun _ => .bad))]), (lo2, 1, [(eI (7 : Int))]), (lo12, 1, [(.mp lm)])] hO rfl (by kernel_rfl) ?_
      intro H hO
      refine dK ?_
      refine pG 0 lo1 1 (.sl true 0 (fun _ => .bad)) (eL aT []) [(lo1, 1, [(eL aT ([]))]), (lo2, 1, [(eI ((7 : Int)))]), (lo12, 1, [(.mp lm)])] hO (by kernel_rfl) (by kernel_rfl) kE (by kernel_rfl) ?_
      intro H hO
      refine bC [(10, (.lp lo1 0 0)), (11, (.lp lo2 0 0))] ?_
      refine bI ?_
      obtain rfl := oI h1
      exact aF (bD (⟨(dB hO hE ho1 .dead).1, rfl, _, ⟨los', hl', rfl⟩, (dB hO hE ho1 _).2⟩))
    · refine bR ?_
      obtain rfl := oI h1
      refine fC [(10, (.lp lo1 0 0)), (11, (.lp lo2 0 0))] ?_
      exact aF (aX (⟨(dB hO hE ho1 .dead).1, rfl, _, ⟨los', hl', rfl⟩, (dB hO hE ho1 _).2⟩))
  · intro b lD lL H' G' hi hO
    rcases o0 with s | s
    · obtain ⟨t10, t11, m⟩ := s
      dsimp only [Sum.elim_inl] at hi
      obtain ⟨los, hl, rfl⟩ := hi
      replace h0 : sQ m = some r := h0
      obtain ⟨hlL, hO⟩ := lH hO
      refine ⟨_, _, hlL, (by intro e; cases e), ?_⟩
      refine fC [(10, (.lp lo1 0 0)), (11, (.lp lo2 0 0)), (12, (.lp lo12 0 0))] ?_
      refine aF (aX (aJ (?_)))
      unfold sQ at h0
      replace hO : aK ⟨H0, [], up (pmL shP los m) ++ ((lm, oZ pN (pmM los m)) :: [(lD, .raw pR)])⟩ _ [(lo1, 1, [(eL aT t10)]), (lo2, 1, [(eI t11)]), (lo12, 1, [(.mp lm)])] := hO.nN (by
        show ((lD, cT.raw pR) :: (((lm, oZ pN (pmM los m)) :: up (pmL shP los m)) ++ [])).Perm _
        rw [List.append_nil]
        refine List.Perm.trans ?_ List.perm_middle.symm
        refine (List.Perm.swap _ _ _).trans (List.Perm.cons _ ?_)
        exact (List.perm_append_comm (l₁ := [(lD, cT.raw pR)])))
      refine FE 3 2 2 (fun b p => [(eI p.Span.From), (eI p.Span.To), (.msl 2 b 0 (List.length p.Rows))]) aU.Rows cQ aT (fun _ _ _ => rfl) (fun _ _ => rfl) (fun _ _ => rfl) m los hl hO fun H hO => ?_
      replace hO : aK ⟨H0, [], (lm, oZ pN (pmM los m)) :: (up (pmL shF los m) ++ [(lD, .raw pR)])⟩ H [(lo1, 1, [(eL aT t10)]), (lo2, 1, [(eI t11)]), (lo12, 1, [(.mp lm)])] := hO.nN List.perm_middle
      refine aM ?_
      refine aS aD 4 ?_
      refine mO 2 lo12 1 0 (.mp lm) (.mp lm) [(.mp lm)] hO rfl ?_
      refine QE (mty := 63) hO ?_
      rw [JX hl]
      obtain ⟨c1, h0⟩ := aZ h0
      refine JL 1 8 (lN m) (by kernel_rfl) (by kernel_rfl) c1 hO ?_
      intro lo15 H hO
      refine bA ?_
      refine bC [(10, (.lp lo1 0 0)), (11, (.lp lo2 0 0)), (12, (.lp lo12 0 0)), (15, (.msl 1 lo15 0 (List.length ([] : List Int))))] ?_
      refine aM ?_
      refine aM ?_
      refine aS aD 2 ?_
      refine mO 2 lo12 1 0 (.mp lm) (.mp lm) [(.mp lm)] hO rfl ?_
      refine TY (mty := 63) hO ?_
      intro li bs ck H hmb hmn hO
      refine dK ?_
      refine bC [(10, (.lp lo1 0 0)), (11, (.lp lo2 0 0)), (12, (.lp lo12 0 0)), (15, (.msl 1 lo15 0 (List.length ([] : List Int)))), (61, (.lp li 0 0))] ?_
      refine cC 3 ?_
      refine XY (by kernel_rfl) (fun (s : List Int) (seen : List Nat) T H => ∃ lo15 : Nat, Has T [(10, (.lp lo1 0 0)), (11, (.lp lo2 0 0)), (12, (.lp lo12 0 0)), (15, (.msl 1 lo15 0 (List.length s))), (61, (.lp li 0 0))] ∧ aK ⟨H0, [], (li, JU li lm ck seen) :: (lm, DG pN (pmM los m) bs ck) :: (up (pmL shF los m) ++ [(lD, .raw pR)])⟩ H [(lo1, 1, [(eL aT t10)]), (lo2, 1, [(eI t11)]), (lo12, 1, [(.mp lm)]), (lo15, 1, List.map (eI) s)]) hmb (aBz hl h0) ⟨lo15, .eq (by kernel_rfl), hO⟩ ?_
      clear hO h0 c1
      rintro seen rem s T H ⟨lo15, hT, hO⟩ hleft hall
      refine bK (l := [(10, (.lp lo1 0 0)), (11, (.lp lo2 0 0)), (12, (.lp lo12 0 0)), (15, (.msl 1 lo15 0 (List.length s))), (61, (.lp li 0 0))]) hT ?_
      clear hT
      refine aM ?_
      refine aS aD 2 ?_
      refine VM hmb hmn hleft hall hO (fun h0 => ?_) (fun mk mv bq rest out1 H h1 hlt hleft hall hat hO => ?_)
      · clear hall hleft
        unfold zD at h0
        refine bA ?_
        refine bC [(10, (.lp lo1 0 0)), (11, (.lp lo2 0 0)), (12, (.lp lo12 0 0)), (15, (.msl 1 lo15 0 (List.length s))), (63, (aC false))] ?_
        refine aM ?_
        refine lV (false) (fun hc => by cases hc) (fun hc => ?_)
        refine jD 3 ?_
        replace hO := hO.nQ
        refine WD hO fun H hO => ?_
        refine fC [(10, (.lp lo1 0 0)), (11, (.lp lo2 0 0)), (12, (.lp lo12 0 0)), (15, (.msl 1 lo15 0 (List.length s)))] ?_
        refine aF (aY (aY (cD (aJ (?_)))))
        refine aM ?_
        refine aS aD 2 ?_
        refine bN 1 ?_
        obtain ⟨b1, hb1, h0⟩ := aV h0
        refine wL [(lo1, 1, [(eL aT t10)]), (lo2, 1, [(eI t11)]), (lo12, 1, [(.mp lm)]), (lo15, 1, List.map (eI) b1)] 3 (AU lo15 s _ hb1) hO ?_
        intro H hO hlen
        simp only [List.length_map] at hlen
        refine dK ?_
        rw [← hlen]
        refine bC [(10, (.lp lo1 0 0)), (11, (.lp lo2 0 0)), (12, (.lp lo12 0 0)), (15, (.msl 1 lo15 0 (List.length b1)))] ?_
        refine aM ?_
        refine aS aD 4 ?_
        refine bN 2 ?_
        obtain ⟨c2, h0⟩ := aZ h0
        refine JL 3 40 (lN b1) (by kernel_rfl) (by kernel_rfl) c2 hO ?_
        intro lo17 H hO
        refine bA ?_
        refine bC [(10, (.lp lo1 0 0)), (11, (.lp lo2 0 0)), (12, (.lp lo12 0 0)), (15, (.msl 1 lo15 0 (List.length b1))), (17, (.msl 3 lo17 0 (List.length ([] : List aU))))] ?_
        refine aM ?_
        refine cJ aD 3 [(10, (.lp lo1 0 0)), (11, (.lp lo2 0 0)), (12, (.lp lo12 0 0)), (15, (.msl 1 lo15 0 (List.length b1))), (17, (.msl 3 lo17 0 (List.length ([] : List aU)))), (75, (.msl 1 lo15 0 (List.length b1))), (76, (eI (lN b1))), (77, (eI (0 : Int)))] ?_
        obtain ⟨out, hlo, h0⟩ := aV h0
        refine cC 5 ?_
        refine dV (by kernel_rfl) (fun (s : List aU × Int) T H => ∃ (lo17 : Nat) (los : List (Nat × Nat)), los.length = m.length ∧ Has T [(10, (.lp lo1 0 0)), (11, (.lp lo2 0 0)), (12, (.lp lo12 0 0)), (15, (.msl 1 lo15 0 (List.length b1))), (17, (.msl 3 lo17 0 (List.length s.1))), (75, (.msl 1 lo15 0 (List.length b1))), (76, (eI (lN b1))), (77, (eI s.2))] ∧ aK ⟨H0, [], (lm, oZ pN (pmM los m)) :: (up (pmL shF los m) ++ [(lD, .raw pR)])⟩ H [(lo1, 1, [(eL aT t10)]), (lo2, 1, [(eI t11)]), (lo12, 1, [(.mp lm)]), (lo15, 1, List.map (eI) b1), (lo17, 3, List.map aT s.1)]) hlo ⟨lo17, los, hl, .eq (by kernel_rfl), hO⟩ ?_
        clear hO c2
        rintro k s out1 T H ⟨lo17, los, hl, hT, hO⟩ h1 ho
        obtain ⟨o17, i77⟩ := s
        replace h1 : pU m b1 (lN b1) o17 i77 = some out1 := h1
        dsimp only at hT
        refine bK hT ?_
        clear hT
        unfold pU at h1
        refine cJ aD 1 [(10, (.lp lo1 0 0)), (11, (.lp lo2 0 0)), (12, (.lp lo12 0 0)), (15, (.msl 1 lo15 0 (List.length b1))), (17, (.msl 3 lo17 0 (List.length o17))), (75, (.msl 1 lo15 0 (List.length b1))), (76, (eI (lN b1))), (77, (eI i77)), (78, (aC (decide (i77 < (lN b1)))))] ?_
        refine aM ?_
        refine bQ h1 (fun h1 => ?_) (fun h1 => ?_)
        · refine bR ?_
          refine bC [(10, (.lp lo1 0 0)), (11, (.lp lo2 0 0)), (12, (.lp lo12 0 0)), (15, (.msl 1 lo15 0 (List.length b1))), (17, (.msl 3 lo17 0 (List.length o17))), (75, (.msl 1 lo15 0 (List.length b1))), (76, (eI (lN b1))), (77, (eI i77))] ?_
          refine aM ?_
          refine cC 6 ?_
          refine aM ?_
          obtain ⟨c3, h1⟩ := aZ h1
          refine aS aD 3 ?_
          refine zA 1 [0 ≤ i77 ∧ i77 < (lN b1)] ⟨c3, trivial⟩ ?_
          refine mO 3 lo15 1 (0 + Int.toNat i77) (eI (gD b1 i77)) (eI (gD b1 i77)) (List.map (eI) b1) hO (bW c3) ?_
          refine bA ?_
          refine bC [(10, (.lp lo1 0 0)), (11, (.lp lo2 0 0)), (12, (.lp lo12 0 0)), (15, (.msl 1 lo15 0 (List.length b1))), (17, (.msl 3 lo17 0 (List.length o17))), (75, (.msl 1 lo15 0 (List.length b1))), (76, (eI (lN b1))), (77, (eI i77)), (19, (eI (gD b1 i77)))] ?_
          cases hg : fG m (gD b1 i77) with
          | none => rw [hg] at h1; cases h1
          | some p =>
            rw [hg] at h1
            obtain ⟨c4, h1⟩ := aZ h1
            obtain ⟨a, bb, R, e1, hP, hO⟩ := aK.focus (sh := shF) (los := los) (m := m) (G := [(lD, .raw pR)]) hO hl hg
            replace hO : aK ⟨H0, [], (lm, oZ pN (pmM los m)) :: (up R ++ [(lD, .raw pR)])⟩ _ [(a, 3, [(aT p)]), (lo1, 1, [(eL aT t10)]), (lo2, 1, [(eI t11)]), (lo12, 1, [(.mp lm)]), (lo15, 1, List.map (eI) b1), (lo17, 3, List.map aT o17)] := hO
            refine aS aD 9 ?_
            refine bN 1 ?_
            refine mO 3 lo12 1 0 (.mp lm) (.mp lm) [(.mp lm)] hO rfl ?_
            refine bN 3 ?_
            refine PJ (f := pN) (mty := 63) (ok := false) aD (gD b1 i77) none hO ?_
            rw [e1]
            refine bN 5 ?_
            refine mO 0 a 3 0 (aT p) (aT p) [(aT p)] hO rfl ?_
            refine uH (xs := [(aT p)]) (k := 3) (by kernel_rfl) (by kernel_rfl) ?_
            refine AV (e := aT) o17 ([p]) 5 lo17 3 40 (iD [(aT p)]) (fun lo18 => [(a, 3, [(aT p)]), (lo1, 1, [(eL aT t10)]), (lo2, 1, [(eI t11)]), (lo12, 1, [(.mp lm)]), (lo15, 1, List.map (eI) b1), (lo18, 3, List.map aT (o17 ++ ([p])))]) (by kernel_rfl) (by kernel_rfl) hO (by kernel_rfl) (by kernel_rfl) c4 (fun _ => by kernel_rfl) ?_
            intro lo18 H hO
            refine bA ?_
            refine fC [(10, (.lp lo1 0 0)), (11, (.lp lo2 0 0)), (12, (.lp lo12 0 0)), (15, (.msl 1 lo15 0 (List.length b1))), (17, (.msl 3 lo18 0 (List.length (o17 ++ [p])))), (75, (.msl 1 lo15 0 (List.length b1))), (76, (eI (lN b1))), (77, (eI i77))] ?_
            refine aF (aX (aJ (?_)))
            refine aS aD 2 ?_
            refine bA ?_
            obtain rfl := oI h1
            obtain ⟨los', hl', hO⟩ := aK.SX (sh := shF) (x := p) (b := bb) (G := [(lD, .raw pR)]) hO hP
            rw [LC hg] at hl' hO
            exact aF (⟨rfl, _, rfl, lo18, los', hl', .eq (by kernel_rfl), hO⟩)
        · refine jD 5 ?_
          obtain rfl := oI h1
          obtain rfl : _ = out := ho
          obtain rfl := oI h0
          refine fC [(10, (.lp lo1 0 0)), (11, (.lp lo2 0 0)), (12, (.lp lo12 0 0)), (17, (.msl 3 lo17 0 (List.length o17)))] ?_
          refine DL (en := aT) o17 3 4 17 3 lo17 (List.length o17) hO (by kernel_rfl) (by kernel_rfl) (by kernel_rfl) (L' := [(lo1, 1, [(eL aT t10)]), (lo2, 1, [(eI t11)]), (lo12, 1, [(.mp lm)]), (lo15, 1, List.map (eI) b1)]) (by kernel_rfl) ?_
          intro H hO
          refine aF (aY (aY (cD (aJ (?_)))))
          refine fQ [(10, (.lp lo1 0 0)), (11, (.lp lo2 0 0)), (12, (.lp lo12 0 0)), (17, (eL aT o17))] ?_
          refine aM ?_
          refine aS aD 3 ?_
          refine bN 1 ?_
          refine fX 0 lo1 1 0 (eL aT t10) (eL aT o17) [(eL aT t10)] [(lo1, 1, [(eL aT o17)]), (lo2, 1, [(eI t11)]), (lo12, 1, [(.mp lm)]), (lo15, 1, List.map (eI) b1)] hO rfl (by kernel_rfl) ?_
          intro H hO
          refine fX 1 lo2 1 0 (eI t11) (eI (0 : Int)) [(eI t11)] [(lo1, 1, [(eL aT o17)]), (lo2, 1, [(eI ((0 : Int)))]), (lo12, 1, [(.mp lm)]), (lo15, 1, List.map (eI) b1)] hO rfl (by kernel_rfl) ?_
          intro H hO
          refine dK ?_
          refine bC [(10, (.lp lo1 0 0)), (11, (.lp lo2 0 0))] ?_
          refine bI ?_
          replace hO := hO.nN (G' := (lD, .raw pR) :: ((lm, oZ pN (pmM los m)) :: up (pmL shF los m))) (by
            refine (List.Perm.cons _ List.perm_append_comm).trans ?_
            exact List.Perm.swap _ _ _)
          have hD := (hO.gm 0 _ rfl).2
          replace hO := (hO.mX .dead).nQ
          exact aF (QM1 (.inr rfl) hD (rs := [.cell 10 37, .cell 11 22]) (xs := [(eL aT o17), (eI (0 : Int))]) (x := (.tup [(eL aT o17), (eI (0 : Int))])) (by kernel_rfl) (fL (lo := lo1) (k := 1) (y := (eL aT o17)) (x := (eL aT o17)) 0 hO (by kernel_rfl) (by kernel_rfl) (by kernel_rfl) (by kernel_rfl) (fL (lo := lo2) (k := 1) (y := (eI (0 : Int))) (x := (eI (0 : Int))) 1 hO (by kernel_rfl) (by kernel_rfl) (by kernel_rfl) (by kernel_rfl) lM)) (by kernel_rfl) ⟨rfl, hO.VD.out⟩)
      replace h1 : pK s mk = some out1 := h1
      unfold pK at h1
      refine bA ?_
      refine bC [(10, (.lp lo1 0 0)), (11, (.lp lo2 0 0)), (12, (.lp lo12 0 0)), (15, (.msl 1 lo15 0 (List.length s))), (61, (.lp li 0 0)), (63, (aC true))] ?_
      refine aM ?_
      refine lV (true) (fun hc => ?_) (fun hc => by cases hc)
      refine bR ?_
      refine bC [(10, (.lp lo1 0 0)), (11, (.lp lo2 0 0)), (12, (.lp lo12 0 0)), (15, (.msl 1 lo15 0 (List.length s))), (61, (.lp li 0 0))] ?_
      refine cC 4 ?_
      refine aM ?_
      refine aS aD 3 ?_
      refine UB hat hO ?_
      refine bA ?_
      refine bC [(10, (.lp lo1 0 0)), (11, (.lp lo2 0 0)), (12, (.lp lo12 0 0)), (15, (.msl 1 lo15 0 (List.length s))), (61, (.lp li 0 0)), (16, (eI mk))] ?_
      refine aS aD 5 ?_
      refine bN 2 ?_
      refine uH (xs := [(eI mk)]) (k := 1) (by kernel_rfl) (by kernel_rfl) ?_
      obtain ⟨c5, h1⟩ := aZ h1
      refine AV (e := (eI)) s ([mk]) 3 lo15 1 8 (iD [(eI mk)]) (fun lo16 => [(lo1, 1, [(eL aT t10)]), (lo2, 1, [(eI t11)]), (lo12, 1, [(.mp lm)]), (lo16, 1, List.map (eI) (s ++ ([mk])))]) (by kernel_rfl) (by kernel_rfl) hO (by kernel_rfl) (by kernel_rfl) c5 (fun _ => by kernel_rfl) ?_
      intro lo16 H hO
      refine bA ?_
      obtain rfl := oI h1
      exact aF (aX (⟨rfl, _, _, _, hlt, hleft, hall, lo16, .eq (by kernel_rfl), hO⟩))
    · obtain ⟨t10, t11, m⟩ := s
      dsimp only [Sum.elim_inr] at hi
      obtain ⟨los, hl, rfl⟩ := hi
      obtain rfl := oI h0
      obtain ⟨hlL, hO⟩ := lH hO
      refine ⟨_, _, hlL, (by intro e; cases e), ?_⟩
      refine bI ?_
      refine aF (bD (aR ?_))
      have hD := (hO.gm 0 _ rfl).2
      replace hO := (hO.mX .dead).nQ
      exact QM1 (.inr rfl) hD (rs := [.cell 10 37, .cell 11 22]) (xs := [(eL aT t10), (eI t11)]) (x := (.tup [(eL aT t10), (eI t11)])) (by kernel_rfl) (fL (lo := lo1) (k := 1) (y := (eL aT t10)) (x := (eL aT t10)) 0 hO (by kernel_rfl) (by kernel_rfl) (by kernel_rfl) (by kernel_rfl) (fL (lo := lo2) (k := 1) (y := (eI t11)) (x := (eI t11)) 1 hO (by kernel_rfl) (by kernel_rfl) (by kernel_rfl) (by kernel_rfl) lM)) (by kernel_rfl) ⟨rfl, hO.VD.out⟩

theorem yM  (r : Bool) (h0 : oA  = some r) : dH Try.prog 11 [] (aC r) := by
  intro H0
  refine dL Try.func11 ?_
  have hO := aK.start H0
  unfold oA at h0
  refine cJ aD 1 [] ?_
  refine aM ?_
  refine aS aD 6 ?_
  obtain ⟨x1, hx2, h0⟩ := aV h0
  refine dX (GZ (10 : Int) (5 : Int) (12 : Int) _ hx2) hO ?_
  intro H hO
  refine bA ?_
  refine bC [(1, (eI x1.1)), (2, (eI x1.2))] ?_
  refine aM ?_
  refine aS aD 7 ?_
  refine bN 1 ?_
  obtain ⟨x4, hx5, h0⟩ := aV h0
  refine dX (QH (10 : Int) (5 : Int) (bJ.mk (3 : Int) (7 : Int)) (0 : Int) (100 : Int) _ hx5) hO ?_
  intro H hO
  refine bA ?_
  refine bU [] [(3, (eL (eI) x4.1)), (4, (eI x4.2))] ?_
  refine aM ?_
  refine aS aD 13 ?_
  refine bN 1 ?_
  refine uH (xs := [(aH (aE.mk (1 : Int) (1 : Int) ByteArray.empty))]) (k := 3) (by kernel_rfl) (by kernel_rfl) ?_
  refine bN 4 ?_
  refine uH (xs := [(aH (aE.mk (1 : Int) (1 : Int) ByteArray.empty))]) (k := 3) (by kernel_rfl) (by kernel_rfl) ?_
  refine bN 6 ?_
  refine uH (xs := [(.agg [(iD [(aH (aE.mk (1 : Int) (1 : Int) ByteArray.empty))]), (eI (3 : Int)), (eI (1 : Int))]), (.agg [(iD [(aH (aE.mk (1 : Int) (1 : Int) ByteArray.empty))]), (eI (7 : Int)), (eI (-1 : Int))])]) (k := 3) (by kernel_rfl) (by kernel_rfl) ?_
  obtain ⟨x7, hx8, h0⟩ := aV h0
  refine aCL 16 [(iD [(.agg [(iD [(aH (aE.mk (1 : Int) (1 : Int) ByteArray.empty))]), (eI (3 : Int)), (eI (1 : Int))]), (.agg [(iD [(aH (aE.mk (1 : Int) (1 : Int) ByteArray.empty))]), (eI (7 : Int)), (eI (-1 : Int))])]), (eI (10 : Int)), (eI (5 : Int)), (eI (0 : Int)), (eI (100 : Int))] (.tup [(eL aT x7.1), (eI x7.2)]) (dH.sub (zZ ([aL.mk ([aE.mk (1 : Int) (1 : Int) ByteArray.empty]) (3 : Int) (1 : Int), aL.mk ([aE.mk (1 : Int) (1 : Int) ByteArray.empty]) (7 : Int) (-1 : Int)]) (10 : Int) (5 : Int) (0 : Int) (100 : Int) _ hx8) ⟨(aBE (e := aO) (xs := [(.agg [(iD [(aH (aE.mk (1 : Int) (1 : Int) ByteArray.empty))]), (eI (3 : Int)), (eI (1 : Int))]), (.agg [(iD [(aH (aE.mk (1 : Int) (1 : Int) ByteArray.empty))]), (eI (7 : Int)), (eI (-1 : Int))])]) (l := [aL.mk ([aE.mk (1 : Int) (1 : Int) ByteArray.empty]) (3 : Int) (1 : Int), aL.mk ([aE.mk (1 : Int) (1 : Int) ByteArray.empty]) (7 : Int) (-1 : Int)]) ⟨(XZ (xs := [(iD [(aH (aE.mk (1 : Int) (1 : Int) ByteArray.empty))]), (eI (3 : Int)), (eI (1 : Int))]) (ys := [(eL aH ([aE.mk (1 : Int) (1 : Int) ByteArray.empty])), (eI (3 : Int)), (eI (1 : Int))]) ⟨OK (l := [aE.mk (1 : Int) (1 : Int) ByteArray.empty]), aN.refl _, aN.refl _, trivial⟩), (XZ (xs := [(iD [(aH (aE.mk (1 : Int) (1 : Int) ByteArray.empty))]), (eI (7 : Int)), (eI (-1 : Int))]) (ys := [(eL aH ([aE.mk (1 : Int) (1 : Int) ByteArray.empty])), (eI (7 : Int)), (eI (-1 : Int))]) ⟨OK (l := [aE.mk (1 : Int) (1 : Int) ByteArray.empty]), aN.refl _, aN.refl _, trivial⟩), trivial⟩ rfl), aN.refl _, aN.refl _, aN.refl _, aN.refl _, trivial⟩) hO ?_
  intro H hO
  refine bA ?_
  refine bU [] [(5, (eL aT x7.1)), (6, (eI x7.2))] ?_
  refine aM ?_
  refine aS aD 47 ?_
  obtain ⟨c10, h0⟩ := aZ h0
  obtain ⟨c11, h0⟩ := aZ h0
  obtain ⟨c12, h0⟩ := aZ h0
  refine rR [((((((decide (x1.1 = (5 : Int))) && (decide (x1.2 = (0 : Int)))) && (decide (x4.2 = (0 : Int)))) && (decide ((lN x4.1) = (2 : Int))))) = true → 0 ≤ (1 : Int) ∧ (1 : Int) < (lN x4.1)), (((((((((decide (x1.1 = (5 : Int))) && (decide (x1.2 = (0 : Int)))) && (decide (x4.2 = (0 : Int)))) && (decide ((lN x4.1) = (2 : Int)))) && (decide ((gD x4.1 (1 : Int)) = (5 : Int)))) && (decide (x7.2 = (0 : Int)))) && (decide ((lN x7.1) = (2 : Int))))) = true → 0 ≤ (1 : Int) ∧ (1 : Int) < (lN x7.1)), ((((((((((decide (x1.1 = (5 : Int))) && (decide (x1.2 = (0 : Int)))) && (decide (x4.2 = (0 : Int)))) && (decide ((lN x4.1) = (2 : Int)))) && (decide ((gD x4.1 (1 : Int)) = (5 : Int)))) && (decide (x7.2 = (0 : Int)))) && (decide ((lN x7.1) = (2 : Int)))) && ((decide ((((gD x7.1 (1 : Int)).Span).From) = ((bJ.mk (5 : Int) (15 : Int)).From))) && ((decide ((((gD x7.1 (1 : Int)).Span).To) = ((bJ.mk (5 : Int) (15 : Int)).To))) && true)))) = true → 0 ≤ (1 : Int) ∧ (1 : Int) < (lN x7.1))] ⟨c10, c11, c12, trivial⟩ ?_
  refine bC [(0, (aC (((((((((decide (x1.1 = (5 : Int))) && (decide (x1.2 = (0 : Int)))) && (decide (x4.2 = (0 : Int)))) && (decide ((lN x4.1) = (2 : Int)))) && (decide ((gD x4.1 (1 : Int)) = (5 : Int)))) && (decide (x7.2 = (0 : Int)))) && (decide ((lN x7.1) = (2 : Int)))) && ((decide ((((gD x7.1 (1 : Int)).Span).From) = ((bJ.mk (5 : Int) (15 : Int)).From))) && ((decide ((((gD x7.1 (1 : Int)).Span).To) = ((bJ.mk (5 : Int) (15 : Int)).To))) && true))) && (decide ((lN ((gD x7.1 (1 : Int)).Rows)) = (1 : Int))))))] ?_
  refine bI ?_
  obtain rfl := oI h0
  exact aF (Q_r hO)

theorem PB (a0 : (List aE)) (b1 : (List aE)) (r : Bool) (h0 : sN a0 b1 = some r) : dH Try.prog 46 [(eL aH a0), (eL aH b1)] (aC r) := by
  intro H0
  refine dL Try.func46 ?_
  have hO := aK.start H0
  unfold sN at h0
  refine aW aD 1 [] [] ?_
  refine aM ?_
  refine aW aD 5 [] [(10, (aC (!decide ((lN a0) = (lN b1)))))] ?_
  refine bQ h0 (fun h0 => ?_) (fun h0 => ?_)
  · refine cJ aD 1 [(4, (aC false))] ?_
    refine bI ?_
    obtain rfl := oI h0
    exact aF (aR (Q_r hO))
  refine bR ?_
  refine bC [(0, (eL aH a0)), (1, (eL aH b1))] ?_
  refine iI (fun T H => Has T [] ∧ aK ⟨H0, [], []⟩ H [] ∧ rD  = some r) ?_ ?_
  · clear hO h0
    rintro T H ⟨hT, hO, h0⟩
    refine bK hT ?_
    clear hT
    unfold rD at h0
    refine cJ aD 1 [(4, (aC true))] ?_
    refine bI ?_
    obtain rfl := oI h0
    exact aF (Q_r hO)
  refine aW aD 1 [] [(5, (eI (0 : Int)))] ?_
  refine cC 0 ?_
  refine fQ [(0, (eL aH a0)), (1, (eL aH b1)), (5, (eI (0 : Int)))] ?_
  refine fV (fun T H => ∃ i5 : Int, Has T [(0, (eL aH a0)), (1, (eL aH b1)), (5, (eI i5))] ∧ aK ⟨H0, [], []⟩ H [] ∧ uI a0 b1 i5 = some r) ?_ ⟨(0 : Int), .eq (by kernel_rfl), hO, h0⟩
  clear hO h0
  rintro T H ⟨i5, hT, hO, h0⟩
  refine bK hT ?_
  clear hT
  unfold uI at h0
  obtain ⟨rr0, hl0, h0⟩ := aV h0
  refine dV (by kernel_rfl) (fun (s : Int) T H => Has T [(0, (eL aH a0)), (1, (eL aH b1)), (5, (eI s))] ∧ aK ⟨H0, [], []⟩ H []) hl0 ⟨.eq (by kernel_rfl), hO⟩ ?_
  clear hO
  rintro k0 s out1 T H ⟨hT, hO⟩ h1 ho0
  obtain ⟨i5, rfl⟩ : ∃ x, x = s := ⟨_, rfl⟩
  replace h1 : oJ a0 b1 i5 = some out1 := h1
  refine bK hT ?_
  clear hT
  unfold oJ at h1
  refine aM ?_
  refine aW aD 4 [] [(14, (aC (decide (i5 < (lN a0)))))] ?_
  refine bQ h1 (fun h1 => ?_) (fun h1 => ?_)
  · refine bR ?_
    refine bC [(0, (eL aH a0)), (1, (eL aH b1)), (5, (eI i5))] ?_
    refine aM ?_
    refine cC 1 ?_
    refine aM ?_
    refine gI (gH [20, 24]) aD 9 ?_
    obtain ⟨c3, h1⟩ := aZ h1
    obtain ⟨c4, h1⟩ := aZ h1
    refine JF (Ds := [0 ≤ i5 ∧ i5 < (lN a0), 0 ≤ i5 ∧ i5 < (lN b1)]) (by kernel_rfl) ⟨c3, c4, trivial⟩ ?_
    refine bU [] [(25, (aC (!((decide (((gD a0 i5).Kind) = ((gD b1 i5).Kind))) && ((decide (((gD a0 i5).Num) = ((gD b1 i5).Num))) && ((nP ((gD a0 i5).Text) ((gD b1 i5).Text)) && true))))))] ?_
    refine bQ h1 (fun h1 => ?_) (fun h1 => ?_)
    · refine cJ aD 1 [(4, (aC false))] ?_
      refine bI ?_
      obtain rfl := oI h1
      obtain rfl : _ = rr0 := ho0
      replace h0 : some false = some r := h0
      obtain rfl := oI h0
      exact aF (bD (aR (aR (bD (aR (Q_r hO))))))
    refine bR ?_
    refine fC [(0, (eL aH a0)), (1, (eL aH b1)), (5, (eI i5))] ?_
    refine aF (aX (aJ (?_)))
    refine aS aD 3 ?_
    refine bA ?_
    exact aF (aJ (⟨rfl, _, (oI h1).symm, .eq (by kernel_rfl), hO⟩))
  refine jD 0 ?_
  obtain rfl := oI h1
  obtain rfl : _ = rr0 := ho0
  replace h0 : rD  = some r := h0
  exact aF (aY (aY (cD (aJ (⟨rfl, .eq (by kernel_rfl), hO, h0⟩)))))

end Go.Abs
namespace Go.Abs
open Go Go.RowKit Go.Proofs
theorem DT (a0 : (List dR)) (b1 : (List dR)) (r : Bool) (h0 : mW a0 b1 = some r) : dH Try.prog 42 [(eL cQ a0), (eL cQ b1)] (aC r) := by
  intro H0
  refine dL Try.func42 ?_
  have hO := aK.start H0
  unfold mW at h0
  refine aW aD 1 [] [] ?_
  refine aM ?_
  refine aW aD 5 [] [(10, (aC (!decide ((lN a0) = (lN b1)))))] ?_
  refine bQ h0 (fun h0 => ?_) (fun h0 => ?_)
  · refine cJ aD 1 [(4, (aC false))] ?_
    refine bI ?_
    obtain rfl := oI h0
    exact aF (aR (Q_r hO))
  refine bR ?_
  refine bC [(0, (eL cQ a0)), (1, (eL cQ b1))] ?_
  refine iI (fun T H => Has T [] ∧ aK ⟨H0, [], []⟩ H [] ∧ mG  = some r) ?_ ?_
  · clear hO h0
    rintro T H ⟨hT, hO, h0⟩
    refine bK hT ?_
    clear hT
    unfold mG at h0
    refine cJ aD 1 [(4, (aC true))] ?_
    refine bI ?_
    obtain rfl := oI h0
    exact aF (Q_r hO)
  refine aW aD 1 [] [(5, (eI (0 : Int)))] ?_
  refine cC 0 ?_
  refine fQ [(0, (eL cQ a0)), (1, (eL cQ b1)), (5, (eI (0 : Int)))] ?_
  refine fV (fun T H => ∃ i5 : Int, Has T [(0, (eL cQ a0)), (1, (eL cQ b1)), (5, (eI i5))] ∧ aK ⟨H0, [], []⟩ H [] ∧ oE a0 b1 i5 = some r) ?_ ⟨(0 : Int), .eq (by kernel_rfl), hO, h0⟩
  clear hO h0
  rintro T H ⟨i5, hT, hO, h0⟩
  refine bK hT ?_
  clear hT
  unfold oE at h0
  obtain ⟨rr0, hl0, h0⟩ := aV h0
  refine dV (by kernel_rfl) (fun (s : Int) T H => Has T [(0, (eL cQ a0)), (1, (eL cQ b1)), (5, (eI s))] ∧ aK ⟨H0, [], []⟩ H []) hl0 ⟨.eq (by kernel_rfl), hO⟩ ?_
  clear hO
  rintro k0 s out1 T H ⟨hT, hO⟩ h1 ho0
  obtain ⟨i5, rfl⟩ : ∃ x, x = s := ⟨_, rfl⟩
  replace h1 : lA a0 b1 i5 = some out1 := h1
  refine bK hT ?_
  clear hT
  unfold lA at h1
  refine aM ?_
  refine aW aD 4 [] [(14, (aC (decide (i5 < (lN a0)))))] ?_
  refine bQ h1 (fun h1 => ?_) (fun h1 => ?_)
  · refine bR ?_
    refine bC [(0, (eL cQ a0)), (1, (eL cQ b1)), (5, (eI i5))] ?_
    refine aM ?_
    refine cC 1 ?_
    refine aM ?_
    obtain ⟨c3, h1⟩ := aZ h1
    obtain ⟨c4, h1⟩ := aZ h1
    obtain ⟨c5, h1⟩ := aZ h1
    obtain ⟨c6, h1⟩ := aZ h1
    obtain ⟨x7, hx8, h1⟩ := aV h1
    refine gI (gH [21, 26, 33, 38]) aD 25 ?_
    refine oR (K := fun T H => Has (lift T) [(0, (eL cQ a0)), (1, (eL cQ b1)), (5, (eI i5)), (41, (aC ((!decide (((gD a0 i5).N) = ((gD b1 i5).N))) || (!x7))))] ∧ aK ⟨H0, [], []⟩ H []) ?_ ?_
    · refine cH 12 [0 ≤ i5 ∧ i5 < (lN a0), 0 ≤ i5 ∧ i5 < (lN b1)] ⟨c3, c4, trivial⟩ ?_
      refine nT (t := 28) (e := !decide (((gD a0 i5).N) = ((gD b1 i5).N))) (by kernel_rfl) (fun hg9 => ?_) (fun hg9 => ?_)
      · refine kM ?_
        exact ⟨⟨[(0, (eL cQ a0)), (1, (eL cQ b1)), (5, (eI i5)), (41, (aC true))], by kernel_rfl, rfl, ⟨aN.refl _, aN.refl _, aN.refl _, aN.eq (congrArg aC (TL hg9 rfl).symm), trivial⟩⟩, hO⟩
      refine cH 22 [0 ≤ i5 ∧ i5 < (lN a0), 0 ≤ i5 ∧ i5 < (lN b1)] ⟨(c5 (ES hg9)), (c6 (ES hg9)), trivial⟩ ?_
      refine nX 46 [(eL aH ((gD a0 i5).Row)), (eL aH ((gD b1 i5).Row))] (aC x7) (by kernel_rfl) (by kernel_rfl) (PB ((gD a0 i5).Row) ((gD b1 i5).Row) _ (jN hx8 (ES hg9))) hO ?_
      intro H hO
      refine kM ?_
      exact ⟨⟨[(0, (eL cQ a0)), (1, (eL cQ b1)), (5, (eI i5)), (41, (aC (!x7)))], by kernel_rfl, rfl, ⟨aN.refl _, aN.refl _, aN.refl _, aN.eq (congrArg aC (TL hg9 rfl).symm), trivial⟩⟩, hO⟩
    · rintro T H ⟨hT, hO⟩
      refine eD hT ?_
      clear hT
      refine aF (aJ ?_)
      refine bQ h1 (fun h1 => ?_) (fun h1 => ?_)
      · refine cJ aD 1 [(4, (aC false))] ?_
        refine bI ?_
        obtain rfl := oI h1
        obtain rfl : _ = rr0 := ho0
        replace h0 : some false = some r := h0
        obtain rfl := oI h0
        exact aF (bD (aR (aR (bD (aR (Q_r hO))))))
      refine bR ?_
      refine fC [(0, (eL cQ a0)), (1, (eL cQ b1)), (5, (eI i5))] ?_
      refine aF (aX (aJ (?_)))
      refine aS aD 3 ?_
      refine bA ?_
      exact aF (aJ (⟨rfl, _, (oI h1).symm, .eq (by kernel_rfl), hO⟩))
  refine jD 0 ?_
  obtain rfl := oI h1
  obtain rfl : _ = rr0 := ho0
  replace h0 : mG  = some r := h0
  exact aF (aY (aY (cD (aJ (⟨rfl, .eq (by kernel_rfl), hO, h0⟩)))))

theorem PD (a0 : (List aU)) (b1 : (List aU)) (r : Bool) (h0 : sE a0 b1 = some r) : dH Try.prog 18 [(eL aT a0), (eL aT b1)] (aC r) := by
  intro H0
  refine dL Try.func18 ?_
  have hO := aK.start H0
  unfold sE at h0
  refine aW aD 1 [] [] ?_
  refine aM ?_
  refine aW aD 5 [] [(10, (aC (!decide ((lN a0) = (lN b1)))))] ?_
  refine bQ h0 (fun h0 => ?_) (fun h0 => ?_)
  · refine cJ aD 1 [(4, (aC false))] ?_
    refine bI ?_
    obtain rfl := oI h0
    exact aF (aR (Q_r hO))
  refine bR ?_
  refine bC [(0, (eL aT a0)), (1, (eL aT b1))] ?_
  refine iI (fun T H => Has T [] ∧ aK ⟨H0, [], []⟩ H [] ∧ qU  = some r) ?_ ?_
  · clear hO h0
    rintro T H ⟨hT, hO, h0⟩
    refine bK hT ?_
    clear hT
    unfold qU at h0
    refine cJ aD 1 [(4, (aC true))] ?_
    refine bI ?_
    obtain rfl := oI h0
    exact aF (Q_r hO)
  refine aW aD 1 [] [(5, (eI (0 : Int)))] ?_
  refine cC 0 ?_
  refine fQ [(0, (eL aT a0)), (1, (eL aT b1)), (5, (eI (0 : Int)))] ?_
  refine fV (fun T H => ∃ i5 : Int, Has T [(0, (eL aT a0)), (1, (eL aT b1)), (5, (eI i5))] ∧ aK ⟨H0, [], []⟩ H [] ∧ uC a0 b1 i5 = some r) ?_ ⟨(0 : Int), .eq (by kernel_rfl), hO, h0⟩
  clear hO h0
  rintro T H ⟨i5, hT, hO, h0⟩
  refine bK hT ?_
  clear hT
  unfold uC at h0
  obtain ⟨rr0, hl0, h0⟩ := aV h0
  refine dV (by kernel_rfl) (fun (s : Int) T H => Has T [(0, (eL aT a0)), (1, (eL aT b1)), (5, (eI s))] ∧ aK ⟨H0, [], []⟩ H []) hl0 ⟨.eq (by kernel_rfl), hO⟩ ?_
  clear hO
  rintro k0 s out1 T H ⟨hT, hO⟩ h1 ho0
  obtain ⟨i5, rfl⟩ : ∃ x, x = s := ⟨_, rfl⟩
  replace h1 : oL a0 b1 i5 = some out1 := h1
  refine bK hT ?_
  clear hT
  unfold oL at h1
  refine aM ?_
  refine aW aD 4 [] [(14, (aC (decide (i5 < (lN a0)))))] ?_
  refine bQ h1 (fun h1 => ?_) (fun h1 => ?_)
  · refine bR ?_
    refine bC [(0, (eL aT a0)), (1, (eL aT b1)), (5, (eI i5))] ?_
    refine aM ?_
    refine cC 1 ?_
    refine aM ?_
    obtain ⟨c3, h1⟩ := aZ h1
    obtain ⟨c4, h1⟩ := aZ h1
    obtain ⟨c5, h1⟩ := aZ h1
    obtain ⟨c6, h1⟩ := aZ h1
    obtain ⟨x7, hx8, h1⟩ := aV h1
    refine gI (gH [21, 26, 33, 38]) aD 25 ?_
    refine oR (K := fun T H => Has (lift T) [(0, (eL aT a0)), (1, (eL aT b1)), (5, (eI i5)), (41, (aC ((!((decide ((((gD a0 i5).Span).From) = (((gD b1 i5).Span).From))) && ((decide ((((gD a0 i5).Span).To) = (((gD b1 i5).Span).To))) && true))) || (!x7))))] ∧ aK ⟨H0, [], []⟩ H []) ?_ ?_
    · refine cH 12 [0 ≤ i5 ∧ i5 < (lN a0), 0 ≤ i5 ∧ i5 < (lN b1)] ⟨c3, c4, trivial⟩ ?_
      refine nT (t := 28) (e := !((decide ((((gD a0 i5).Span).From) = (((gD b1 i5).Span).From))) && ((decide ((((gD a0 i5).Span).To) = (((gD b1 i5).Span).To))) && true))) (by kernel_rfl) (fun hg9 => ?_) (fun hg9 => ?_)
      · refine kM ?_
        exact ⟨⟨[(0, (eL aT a0)), (1, (eL aT b1)), (5, (eI i5)), (41, (aC true))], by kernel_rfl, rfl, ⟨aN.refl _, aN.refl _, aN.refl _, aN.eq (congrArg aC (TL hg9 rfl).symm), trivial⟩⟩, hO⟩
      refine cH 22 [0 ≤ i5 ∧ i5 < (lN a0), 0 ≤ i5 ∧ i5 < (lN b1)] ⟨(c5 (ES hg9)), (c6 (ES hg9)), trivial⟩ ?_
      refine nX 42 [(eL cQ ((gD a0 i5).Rows)), (eL cQ ((gD b1 i5).Rows))] (aC x7) (by kernel_rfl) (by kernel_rfl) (DT ((gD a0 i5).Rows) ((gD b1 i5).Rows) _ (jN hx8 (ES hg9))) hO ?_
      intro H hO
      refine kM ?_
      exact ⟨⟨[(0, (eL aT a0)), (1, (eL aT b1)), (5, (eI i5)), (41, (aC (!x7)))], by kernel_rfl, rfl, ⟨aN.refl _, aN.refl _, aN.refl _, aN.eq (congrArg aC (TL hg9 rfl).symm), trivial⟩⟩, hO⟩
    · rintro T H ⟨hT, hO⟩
      refine eD hT ?_
      clear hT
      refine aF (aJ ?_)
      refine bQ h1 (fun h1 => ?_) (fun h1 => ?_)
      · refine cJ aD 1 [(4, (aC false))] ?_
        refine bI ?_
        obtain rfl := oI h1
        obtain rfl : _ = rr0 := ho0
        replace h0 : some false = some r := h0
        obtain rfl := oI h0
        exact aF (bD (aR (aR (bD (aR (Q_r hO))))))
      refine bR ?_
      refine fC [(0, (eL aT a0)), (1, (eL aT b1)), (5, (eI i5))] ?_
      refine aF (aX (aJ (?_)))
      refine aS aD 3 ?_
      refine bA ?_
      exact aF (aJ (⟨rfl, _, (oI h1).symm, .eq (by kernel_rfl), hO⟩))
  refine jD 0 ?_
  obtain rfl := oI h1
  obtain rfl : _ = rr0 := ho0
  replace h0 : qU  = some r := h0
  exact aF (aY (aY (cD (aJ (⟨rfl, .eq (by kernel_rfl), hO, h0⟩)))))

theorem UT (lo0p : Nat) (l0 : (List aL)) (r1 : (List aE)) (f2 : (List aB)) (r : (List aL)) (h0 : vB l0 r1 f2 = some r) : BL Try.prog 91 lo0p 3 (List.map aO l0) [(.msl 3 lo0p 0 (List.length l0)), (eL aH r1), (eL aG f2)] (fun lo => .msl 3 lo 0 (List.length r)) (List.map aO r) := by
  intro H0 hl0
  refine dL Try.func91 ?_
  have hO := aK.qX hl0
  clear hl0
  unfold vB at h0
  refine aW aD 1 [] [] ?_
  refine iI (fun T H => ∃ l0 : List aL, ∃ lo1 : Nat, Has T [(0, (.msl 3 lo1 0 (List.length l0)))] ∧ aK ⟨H0, [lo0p], []⟩ H [(lo1, 3, List.map aO l0)] ∧ wX l0 = some r) ?_ ?_
  · clear hO h0
    rintro T H ⟨l0, lo1, hT, hO, h0⟩
    refine bK hT ?_
    clear hT
    unfold wX at h0
    refine cJ aD 2 [(6, (.msl 3 lo1 0 (List.length l0)))] ?_
    refine bI ?_
    obtain rfl := oI h0
    exact aF (kY (x := (.msl 3 lo1 0 (List.length l0))) (by kernel_rfl) (aN.refl _) ⟨lo1, rfl, hO⟩)
  refine aW aD 3 [2] [(9, (eL aG f2)), (10, (eI (lN f2))), (11, (eI (0 : Int)))] ?_
  refine cC 0 ?_
  refine fQ [(0, (.msl 3 lo0p 0 (List.length l0))), (1, (eL aH r1)), (9, (eL aG f2)), (10, (eI (lN f2))), (11, (eI (0 : Int)))] ?_
  refine fV (fun T H => ∃ l0 : List aL, ∃ t9 : (List aB), ∃ t10 : Int, ∃ t11 : Int, ∃ lo3 : Nat, Has T [(0, (.msl 3 lo3 0 (List.length l0))), (1, (eL aH r1)), (9, (eL aG t9)), (10, (eI t10)), (11, (eI t11))] ∧ aK ⟨H0, [lo0p], []⟩ H [(lo3, 3, List.map aO l0)] ∧ wW l0 r1 t9 t10 t11 = some r) ?_ ⟨l0, f2, (lN f2), (0 : Int), lo0p, .eq (by kernel_rfl), hO, h0⟩
  clear hO h0
  rintro T H ⟨l0, t9, t10, t11, lo3, hT, hO, h0⟩
  refine bK hT ?_
  clear hT
  unfold wW at h0
  obtain ⟨rr0, hl0, h0⟩ := aV h0
  refine dV (by kernel_rfl) (fun (s : List aL × Int) T H => ∃ lo3 : Nat, Has T [(0, (.msl 3 lo3 0 (List.length s.1))), (1, (eL aH r1)), (9, (eL aG t9)), (10, (eI t10)), (11, (eI s.2))] ∧ aK ⟨H0, [lo0p], []⟩ H [(lo3, 3, List.map aO s.1)]) hl0 ⟨lo3, .eq (by kernel_rfl), hO⟩ ?_
  clear hO
  rintro k0 s out1 T H ⟨lo3, hT, hO⟩ h1 ho0
  obtain ⟨l0, t11⟩ := s
  replace h1 : nS r1 t9 t10 l0 t11 = some out1 := h1
  try dsimp only at hT
  refine bK hT ?_
  clear hT
  unfold nS at h1
  refine aW aD 1 [] [(12, (aC (decide (t11 < t10))))] ?_
  refine aM ?_
  refine bQ h1 (fun h1 => ?_) (fun h1 => ?_)
  · refine bR ?_
    refine bC [(0, (.msl 3 lo3 0 (List.length l0))), (1, (eL aH r1)), (9, (eL aG t9)), (10, (eI t10)), (11, (eI t11))] ?_
    refine aM ?_
    refine cC 1 ?_
    refine aM ?_
    refine aS aD 4 ?_
    obtain ⟨c5, h1⟩ := aZ h1
    refine zA 2 [0 ≤ t11 ∧ t11 < (lN t9)] ⟨c5, trivial⟩ ?_
    refine jS 2 (aG (aB.mk 0 0)) (by kernel_rfl) (by kernel_rfl) hO ?_
    intro lo6 H hO
    refine fX 1 lo6 2 0 (aG (aB.mk 0 0)) (aG (gD t9 t11)) [(aG (aB.mk 0 0))] [(lo3, 3, List.map aO l0), (lo6, 2, [(aG (gD t9 t11))])] hO rfl (by kernel_rfl) ?_
    intro H hO
    refine dK ?_
    refine bU [] [(8, (.lp lo6 0 0))] ?_
    refine fQ [(0, (.msl 3 lo3 0 (List.length l0))), (1, (eL aH r1)), (8, (.lp lo6 0 0)), (9, (eL aG t9)), (10, (eI t10)), (11, (eI t11))] ?_
    refine WA 2 1 8 2 lo6 (aG (gD t9 t11)) [(lo3, 3, List.map aO l0)] hO (by kernel_rfl) (by kernel_rfl) (by kernel_rfl) ?_
    intro H hO
    refine gI (gH [19, 21, 23]) aD 11 ?_
    refine lR 2 ?_
    obtain ⟨x7, hx8, h1⟩ := aV h1
    refine yZ (BJ r1 _ hx8) hO ?_
    intro H hO
    refine lR 8 ?_
    refine UH (xs := [(aO (aL.mk x7 ((gD t9 t11).At) ((gD t9 t11).Net)))]) (k := 3) (by kernel_rfl) (by kernel_rfl) ?_
    obtain ⟨c11, h1⟩ := aZ h1
    refine KF (e := aO) l0 ([aL.mk x7 ((gD t9 t11).At) ((gD t9 t11).Net)]) 0 lo3 3 40 (iD [(aO (aL.mk x7 ((gD t9 t11).At) ((gD t9 t11).Net)))]) (fun lo10 => [(lo10, 3, List.map aO (l0 ++ ([aL.mk x7 ((gD t9 t11).At) ((gD t9 t11).Net)])))]) (by kernel_rfl) (by kernel_rfl) hO (by kernel_rfl) (by kernel_rfl) c11 (fun _ => by kernel_rfl) ?_
    intro lo10 H hO
    refine kM ?_
    refine fC [(0, (.msl 3 lo10 0 (List.length (l0 ++ ([aL.mk x7 ((gD t9 t11).At) ((gD t9 t11).Net)]))))), (1, (eL aH r1)), (9, (eL aG t9)), (10, (eI t10)), (11, (eI t11))] ?_
    refine aF (aX (aJ (?_)))
    refine aS aD 2 ?_
    refine bA ?_
    exact aF (aJ (⟨rfl, _, (oI h1).symm, _, .eq (by kernel_rfl), hO⟩))
  refine jD 0 ?_
  obtain rfl := oI h1
  obtain rfl : _ = rr0 := ho0
  replace h0 : wX l0 = some r := h0
  exact aF (aY (aY (cD (aJ (⟨rfl, _, _, .eq (by kernel_rfl), hO, h0⟩)))))

theorem ML (l0 : (List aL)) (by1_f : Nat) (by1_a by1_c : List V) (by1 : (List aB) → Option ((List aB) × Int)) (by1_h : ∀ a0 r, by1 a0 = some r → dH Try.prog by1_f (by1_a ++ [(eL aG a0)] ++ by1_c) (.tup [(eL aG r.1), (eI r.2)])) (r : ((List aL) × Int)) (h0 : rC l0 by1 = some r) : dH Try.prog 68 [(eL aO l0), (.fn (.func by1_f) by1_a by1_c)] (.tup [(eL aO r.1), (eI r.2)]) := by
  intro H0
  refine yK aD Try.func68 (by kernel_rfl) (by kernel_rfl) (by kernel_rfl) ?_
  have hO := aK.start H0
  unfold rC at h0
  refine aM ?_
  refine aS aD 3 ?_
  refine gM 1 (.fn (.func by1_f) by1_a by1_c) (by kernel_rfl) (by kernel_rfl) ?_
  refine wD 1 (.sl true 0 (fun _ => .bad)) (eL aO ([])) (by kernel_rfl) (by kernel_rfl) (by kernel_rfl) (kE) (by kernel_rfl) (by kernel_rfl) hO ?_
  intro lo1 H hO
  refine jS 1 (eI 0) (by kernel_rfl) (by kernel_rfl) hO ?_
  intro lo2 H hO
  refine dK ?_
  refine bU [1] [(3, (.rp (.fn (.func by1_f) by1_a by1_c))), (4, (.lp lo1 0 0)), (5, (.lp lo2 0 0))] ?_
  refine aM ?_
  refine aS aD 3 ?_
  refine uH (xs := []) (k := 3) (by kernel_rfl) (by kernel_rfl) ?_
  refine wD 1 (.sl true 0 (fun _ => .bad)) (eL aO ([])) (by kernel_rfl) (by kernel_rfl) (by kernel_rfl) (kE) (by kernel_rfl) (by kernel_rfl) hO ?_
  intro lo3 H hO
  refine WB 11 3 (fun _ => .bad) (by kernel_rfl) hO (by kernel_rfl) ?_
  intro lo4 H hO
  refine fX 2 lo3 1 0 (eL aO ([])) (.msl 3 lo4 0 (List.length ([] : List aL))) [(eL aO ([]))] [(lo1, 1, [(eL aO ([]))]), (lo2, 1, [(eI 0)]), (lo3, 1, [(.msl 3 lo4 0 (List.length ([] : List aL)))]), (lo4, 3, List.map aO ([] : List aL))] hO rfl (by kernel_rfl) ?_
  intro H hO
  refine dK ?_
  refine bU [] [(6, (.lp lo3 0 0))] ?_
  refine aM ?_
  refine aM ?_
  refine aS aD 2 ?_
  refine bN 1 ?_
  obtain ⟨x5, hx6, h0⟩ := aV h0
  refine dX (AH l0 _ hx6) hO ?_
  intro H hO
  refine dK ?_
  refine bU [0] [(13, (.fn (.func 74) [] [(.rp (eL aO x5))]))] ?_
  refine cC 0 ?_
  refine fQ [(3, (.rp (.fn (.func by1_f) by1_a by1_c))), (4, (.lp lo1 0 0)), (5, (.lp lo2 0 0)), (6, (.lp lo3 0 0)), (13, (.fn (.func 74) [] [(.rp (eL aO x5))]))] ?_
  refine fV (fun T H => ∃ t4 : (List aL), ∃ t5 : Int, ∃ out6 : List aL, ∃ kS : (List aL), ∃ lo7 : Nat, Has T [(3, (.rp (.fn (.func by1_f) by1_a by1_c))), (4, (.lp lo1 0 0)), (5, (.lp lo2 0 0)), (6, (.lp lo3 0 0)), (13, (.fn (.func 74) [] [(.rp (eL aO kS))]))] ∧ aK ⟨H0, [], []⟩ H [(lo1, 1, [(eL aO t4)]), (lo2, 1, [(eI t5)]), (lo3, 1, [(.msl 3 lo7 0 (List.length out6))]), (lo7, 3, List.map aO out6)] ∧ sZ by1 t4 t5 out6 kS = some r) ?_ ⟨[], 0, ([] : List aL), x5, lo4, .eq (by kernel_rfl), hO, h0⟩
  clear hO h0
  rintro T H ⟨t4, t5, out6, kS, lo7, hT, hO, h0⟩
  refine bK (l := [(3, (.rp (.fn (.func by1_f) by1_a by1_c))), (4, (.lp lo1 0 0)), (5, (.lp lo2 0 0)), (6, (.lp lo3 0 0)), (13, (.fn (.func 74) [] [(.rp (eL aO kS))]))]) hT ?_
  clear hT
  unfold sZ at h0
  obtain ⟨o0, hl0, h0⟩ := aV h0
  refine wO (fid := 74) (ys := []) (cs := [(.rp (eL aO kS))]) #[14, 15] (fun (A : qO) (b lL : Nat) (st : ((List aL) × Int × List aL) ⊕ ((List aL) × Int × List aL)) (G' : Gs) => Sum.elim (fun (s : (List aL) × Int × List aL) => ∃ lo7 : Nat, G' = (lL, .raw (fN b A .ready none)) :: (up [(lo1, 1, [(eL aO s.1)]), (lo2, 1, [(eI s.2.1)]), (lo3, 1, [(.msl 3 lo7 0 (List.length s.2.2))]), (lo7, 3, List.map aO s.2.2)] ++ [])) (fun (s : (List aL) × Int × List aL) => ∃ lo7 : Nat, G' = (lL, .raw (fN b A .done (some .ret))) :: (up [(lo1, 1, [(eL aO s.1)]), (lo2, 1, [(eI s.2.1)]), (lo3, 1, [(.msl 3 lo7 0 (List.length s.2.2))]), (lo7, 3, List.map aO s.2.2)] ++ [])) st) (.inl (t4, t5, out6)) o0 (.tup []) (by kernel_rfl) (by kernel_rfl) (by kernel_rfl) hO (fun _ _ => ⟨lo7, rfl⟩) ?_ ?_
  · intro b lL
    clear hO h0
    refine vO _ b (fun st t14 t15 => rnd (fun (s : (List aL) × Int × List aL) => mK by1 kS s.1 s.2.1 s.2.2 t14 t15) st) ?_ kS _ _ hl0
    intro st t14 t15 out1 rr hr
    obtain ⟨s, rfl, h1, rfl⟩ := GO hr
    clear hr
    intro Hr Gr hi hg
    obtain ⟨t4, t5, out6⟩ := s
    dsimp only [Sum.elim_inl] at hi
    obtain ⟨lo7, rfl⟩ := hi
    replace h1 : mK by1 kS t4 t5 out6 t14 t15 = some out1 := h1
    unfold mK at h1
    obtain ⟨E1, hE, hO⟩ := oY hg
    refine pH (uM (hO.gm 0 _ rfl).2 (by kernel_rfl) (by kernel_rfl) ?_)
    refine fQ [(3, (.rp (.fn (.func by1_f) by1_a by1_c))), (4, (.lp lo1 0 0)), (5, (.lp lo2 0 0)), (6, (.lp lo3 0 0)), (13, (.fn (.func 74) [] [(.rp (eL aO kS))])), (14, (eL aH t14)), (15, (eL aG t15))] ?_
    refine aW aD 1 [13, 14] [(7, (eL aH t14))] ?_
    refine aS aD 1 ?_
    refine bA ?_
    refine fC [(3, (.rp (.fn (.func by1_f) by1_a by1_c))), (4, (.lp lo1 0 0)), (5, (.lp lo2 0 0)), (6, (.lp lo3 0 0)), (7, (eL aH t14)), (8, (eL aG t15))] ?_
    refine aF (⟨rfl, rfl, (hO.gm 0 _ rfl).2, ?_⟩)
    intro o1 ho1
    replace hO := hO.mX o1
    refine cC 1 ?_
    refine aM ?_
    refine aS aD 8 ?_
    refine bN 2 ?_
    obtain ⟨x8, hx9, h1⟩ := aV h1
    refine dX (by1_h t15 _ hx9) hO ?_
    intro H hO
    refine bA ?_
    refine bU [3, 8] [(9, (eL aG x8.1)), (10, (eI x8.2))] ?_
    refine aM ?_
    refine aW aD 2 [] [(23, (aC (!decide (x8.2 = (0 : Int)))))] ?_
    refine bQ h1 (fun h1 => ?_) (fun h1 => ?_)
    · refine aM ?_
      refine aS aD 3 ?_
      refine bN 1 ?_
      refine fX 0 lo1 1 0 (eL aO t4) (.sl true 0 (fun _ => .bad)) [(eL aO t4)] [(lo1, 1, [(.sl true 0 (fun _ => .bad))]), (lo2, 1, [(eI t5)]), (lo3, 1, [(.msl 3 lo7 0 (List.length out6))]), (lo7, 3, List.map aO out6)] hO rfl (by kernel_rfl) ?_
      intro H hO
      refine fX 1 lo2 1 0 (eI t5) (eI x8.2) [(eI t5)] [(lo1, 1, [(.sl true 0 (fun _ => .bad))]), (lo2, 1, [(eI x8.2)]), (lo3, 1, [(.msl 3 lo7 0 (List.length out6))]), (lo7, 3, List.map aO out6)] hO rfl (by kernel_rfl) ?_
      intro H hO
      refine dK ?_
      refine pG 0 lo1 1 (.sl true 0 (fun _ => .bad)) (eL aO ([])) [(lo1, 1, [(eL aO ([]))]), (lo2, 1, [(eI x8.2)]), (lo3, 1, [(.msl 3 lo7 0 (List.length out6))]), (lo7, 3, List.map aO out6)] hO (by kernel_rfl) (by kernel_rfl) kE (by kernel_rfl) ?_
      intro H hO
      refine bC [(4, (.lp lo1 0 0)), (5, (.lp lo2 0 0)), (6, (.lp lo3 0 0))] ?_
      refine bI ?_
      refine fC [(4, (.lp lo1 0 0)), (5, (.lp lo2 0 0)), (6, (.lp lo3 0 0))] ?_
      obtain rfl := oI h1
      exact aF (aR (bD (⟨(dB hO hE ho1 .dead).1, rfl, _, ⟨lo7, rfl⟩, (dB hO hE ho1 _).2⟩)))
    refine bR ?_
    refine bC [(4, (.lp lo1 0 0)), (5, (.lp lo2 0 0)), (6, (.lp lo3 0 0)), (7, (eL aH t14)), (9, (eL aG x8.1))] ?_
    refine aM ?_
    refine aS aD 5 ?_
    refine mO 2 lo3 1 0 (.msl 3 lo7 0 (List.length out6)) (.msl 3 lo7 0 (List.length out6)) [(.msl 3 lo7 0 (List.length out6))] hO rfl ?_
    refine bN 3 ?_
    obtain ⟨x12, hx13, h1⟩ := aV h1
    refine aBp (L' := fun lo14 => [(lo1, 1, [(eL aO t4)]), (lo2, 1, [(eI t5)]), (lo3, 1, [(.msl 3 lo7 0 (List.length out6))]), (lo14, 3, List.map aO x12)]) 3 lo7 3 (List.map aO out6) (List.map aO x12) 91 [(.msl 3 lo7 0 (List.length out6)), (eL aH t14), (eL aG x8.1)] (fun lo14 => (.msl 3 lo14 0 (List.length x12))) (by kernel_rfl) (by kernel_rfl) (UT lo7 out6 t14 x8.1 _ hx13) hO (by kernel_rfl) (fun _ => by kernel_rfl) ?_
    intro lo14 H hO
    refine fX 2 lo3 1 0 (.msl 3 lo7 0 (List.length out6)) (.msl 3 lo14 0 (List.length x12)) [(.msl 3 lo7 0 (List.length out6))] [(lo1, 1, [(eL aO t4)]), (lo2, 1, [(eI t5)]), (lo3, 1, [(.msl 3 lo14 0 (List.length x12))]), (lo14, 3, List.map aO x12)] hO rfl (by kernel_rfl) ?_
    intro H hO
    refine dK ?_
    refine bU [7, 9] [] ?_
    refine aM ?_
    refine aS aD 3 ?_
    refine mO 2 lo3 1 0 (.msl 3 lo14 0 (List.length x12)) (.msl 3 lo14 0 (List.length x12)) [(.msl 3 lo14 0 (List.length x12))] hO rfl ?_
    refine bA ?_
    refine bU [] [(31, (aC (decide ((4096 : Int) < (lN x12)))))] ?_
    refine bQ h1 (fun h1 => ?_) (fun h1 => ?_)
    · refine aM ?_
      refine aS aD 2 ?_
      refine fX 0 lo1 1 0 (eL aO t4) (.sl true 0 (fun _ => .bad)) [(eL aO t4)] [(lo1, 1, [(.sl true 0 (fun _ => .bad))]), (lo2, 1, [(eI t5)]), (lo3, 1, [(.msl 3 lo14 0 (List.length x12))]), (lo14, 3, List.map aO x12)] hO rfl (by kernel_rfl) ?_
      intro H hO
      refine fX 1 lo2 1 0 (eI t5) (eI (7 : Int)) [(eI t5)] [(lo1, 1, [(.sl true 0 (fun _ => .bad))]), (lo2, 1, [(eI (7 : Int))]), (lo3, 1, [(.msl 3 lo14 0 (List.length x12))]), (lo14, 3, List.map aO x12)] hO rfl (by kernel_rfl) ?_
      intro H hO
      refine dK ?_
      refine pG 0 lo1 1 (.sl true 0 (fun _ => .bad)) (eL aO ([])) [(lo1, 1, [(eL aO ([]))]), (lo2, 1, [(eI (7 : Int))]), (lo3, 1, [(.msl 3 lo14 0 (List.length x12))]), (lo14, 3, List.map aO x12)] hO (by kernel_rfl) (by kernel_rfl) kE (by kernel_rfl) ?_
      intro H hO
      refine bC [(4, (.lp lo1 0 0)), (5, (.lp lo2 0 0)), (6, (.lp lo3 0 0))] ?_
      refine bI ?_
      refine fC [(4, (.lp lo1 0 0)), (5, (.lp lo2 0 0)), (6, (.lp lo3 0 0))] ?_
      obtain rfl := oI h1
      exact aF (bD (⟨(dB hO hE ho1 .dead).1, rfl, _, ⟨lo14, rfl⟩, (dB hO hE ho1 _).2⟩))
    refine bR ?_
    refine fC [(4, (.lp lo1 0 0)), (5, (.lp lo2 0 0)), (6, (.lp lo3 0 0))] ?_
    obtain rfl := oI h1
    exact aF (aX (⟨(dB hO hE ho1 .dead).1, rfl, _, ⟨lo14, rfl⟩, (dB hO hE ho1 _).2⟩))
  · intro b lD16 lL H' G' hi hO
    rcases o0 with s | s
    · dsimp only [Sum.elim_inl] at hi
      obtain ⟨lo7, rfl⟩ := hi
      replace h0 : (some (s.2.2, (0 : Int))) = some r := h0
      obtain ⟨hlL, hO⟩ := lH hO
      refine ⟨_, _, hlL, (by intro e; cases e), ?_⟩
      refine fC [(4, (.lp lo1 0 0)), (5, (.lp lo2 0 0)), (6, (.lp lo3 0 0))] ?_
      refine aF (aX (aJ (?_)))
      refine aM ?_
      refine IS (e := aO) s.2.2 2 3 1 3 lo3 lo7 (List.length s.2.2) [(lo1, 1, [(eL aO s.1)]), (lo2, 1, [(eI s.2.1)]), (lo3, 1, [(eL aO s.2.2)])] hO (by kernel_rfl) (by kernel_rfl) (by kernel_rfl) (.inr (by decide)) (by kernel_rfl) ?_
      intro H hO
      refine aS aD 3 ?_
      refine mO 2 lo3 1 0 (eL aO s.2.2) (eL aO s.2.2) [(eL aO s.2.2)] hO rfl ?_
      refine fX 0 lo1 1 0 (eL aO s.1) (eL aO s.2.2) [(eL aO s.1)] [(lo1, 1, [(eL aO s.2.2)]), (lo2, 1, [(eI s.2.1)]), (lo3, 1, [(eL aO s.2.2)])] hO rfl (by kernel_rfl) ?_
      intro H hO
      refine fX 1 lo2 1 0 (eI s.2.1) (eI (0 : Int)) [(eI s.2.1)] [(lo1, 1, [(eL aO s.2.2)]), (lo2, 1, [(eI (0 : Int))]), (lo3, 1, [(eL aO s.2.2)])] hO rfl (by kernel_rfl) ?_
      intro H hO
      refine dK ?_
      replace hO := hO.pick (L' := [(lo1, 1, [(eL aO s.2.2)]), (lo2, 1, [(eI (0 : Int))])]) [0, 1] (by decide) (by kernel_rfl)
      refine bU [6] [] ?_
      refine bI ?_
      obtain rfl := oI h0
      have hD := (hO.gm 0 _ rfl).2
      replace hO := (hO.mX .dead).nQ
      exact aF (QM1 (.inr rfl) hD (rs := [.cell 4 35, .cell 5 22]) (xs := [(eL aO s.2.2), (eI (0 : Int))]) (x := (.tup [(eL aO s.2.2), (eI (0 : Int))])) (by kernel_rfl) (fL (lo := lo1) (k := 1) (y := (eL aO s.2.2)) (x := (eL aO s.2.2)) 0 hO (by kernel_rfl) (by kernel_rfl) (by kernel_rfl) (by kernel_rfl) (fL (lo := lo2) (k := 1) (y := (eI (0 : Int))) (x := (eI (0 : Int))) 1 hO (by kernel_rfl) (by kernel_rfl) (by kernel_rfl) (by kernel_rfl) lM)) (by kernel_rfl) ⟨rfl, hO.out⟩)
    · dsimp only [Sum.elim_inr] at hi
      obtain ⟨lo7, rfl⟩ := hi
      replace h0 : (some (s.1, s.2.1)) = some r := h0
      obtain ⟨hlL, hO⟩ := lH hO
      refine ⟨_, _, hlL, (by intro e; cases e), ?_⟩
      refine bI ?_
      replace hO := hO.pick (L' := [(lo1, 1, [(eL aO s.1)]), (lo2, 1, [(eI s.2.1)])]) [0, 1] (by decide) (by kernel_rfl)
      obtain rfl := oI h0
      have hD := (hO.gm 0 _ rfl).2
      replace hO := (hO.mX .dead).nQ
      exact aF (bD (aR (QM1 (.inr rfl) hD (rs := [.cell 4 35, .cell 5 22]) (xs := [(eL aO s.1), (eI s.2.1)]) (x := (.tup [(eL aO s.1), (eI s.2.1)])) (by kernel_rfl) (fL (lo := lo1) (k := 1) (y := (eL aO s.1)) (x := (eL aO s.1)) 0 hO (by kernel_rfl) (by kernel_rfl) (by kernel_rfl) (by kernel_rfl) (fL (lo := lo2) (k := 1) (y := (eI s.2.1)) (x := (eI s.2.1)) 1 hO (by kernel_rfl) (by kernel_rfl) (by kernel_rfl) (by kernel_rfl) lM)) (by kernel_rfl) ⟨rfl, hO.out⟩)))

theorem TZ (l0 : (List aL)) (by1_f : Nat) (by1_a by1_c : List V) (by1 : (List aB) → Option ((List aB) × Int)) (by1_h : ∀ a0 r, by1 a0 = some r → dH Try.prog by1_f (by1_a ++ [(eL aG a0)] ++ by1_c) (.tup [(eL aG r.1), (eI r.2)])) (r : ((List aL) × Int)) (h0 : vM l0 by1 = some r) : dH Try.prog 43 [(eL aO l0), (.fn (.func by1_f) by1_a by1_c)] (.tup [(eL aO r.1), (eI r.2)]) := by
  intro H0
  refine dL Try.func43 ?_
  have hO := aK.start H0
  unfold vM at h0
  refine aW aD 2 [] [] ?_
  refine aM ?_
  refine aM ?_
  refine aS aD 3 ?_
  refine bN 1 ?_
  obtain ⟨x1, hx2, h0⟩ := aV h0
  refine dX (BU l0 _ hx2) hO ?_
  intro H hO
  refine bA ?_
  refine bU [] [(8, (aC (!x1)))] ?_
  refine bQ h0 (fun h0 => ?_) (fun h0 => ?_)
  · refine cJ aD 2 [(4, (.sl true 0 (fun _ => .bad))), (5, (eI (2 : Int)))] ?_
    refine bI ?_
    refine eD (l := [(4, (eL aO ([]))), (5, (eI (2 : Int)))]) ⟨[(4, (.sl true 0 (fun _ => .bad))), (5, (eI (2 : Int)))], by kernel_rfl, rfl, ⟨kE, aN.refl _, trivial⟩⟩ ?_
    obtain rfl := oI h0
    exact aF (aR (Q_r hO))
  refine bR ?_
  refine bC [(0, (eL aO l0)), (1, (.fn (.func by1_f) by1_a by1_c))] ?_
  refine aM ?_
  refine aS aD 7 ?_
  refine bN 2 ?_
  obtain ⟨x5, hx6, h0⟩ := aV h0
  refine dX (ML l0 by1_f by1_a by1_c by1 by1_h _ hx6) hO ?_
  intro H hO
  refine bA ?_
  refine bC [(4, (eL aO x5.1)), (5, (eI x5.2))] ?_
  refine bI ?_
  obtain rfl := oI h0
  exact aF (Q_r hO)

theorem uR (s0 : (List aB)) (r : (List aB)) (h0 : gX s0 = some r) : wV Try.prog 69 [(eL aG s0)] (fun lo => (.msl 2 lo 0 (List.length r))) 2 (List.map aG r) := by
  intro H0
  refine dL Try.func69 ?_
  have hO := aK.start H0
  unfold gX at h0
  refine aW aD 1 [] [] ?_
  refine aM ?_
  refine aM ?_
  refine aS aD 2 ?_
  refine bN 1 ?_
  refine aCD false (List.length s0) (fun i => aG (List.getD s0 i default)) (by kernel_rfl) (by kernel_rfl) ?_
  intro b1 hn2
  refine dK ?_
  refine bU [] [(4, (aC b1))] ?_
  refine lV (b1) (fun hc3 => ?_) (fun hc3 => ?_)
  · replace h0 : some ([] : List aB) = some r := by
      have hl := List.eq_nil_of_length_eq_zero (hn2 hc3)
      rw [hl] at h0
      exact (aZ h0).2
    refine cJ aD 1 [(2, (.sl true 0 (fun _ => .bad)))] ?_
    refine bI ?_
    refine fC [(2, (.sl true 0 (fun _ => .bad)))] ?_
    refine VV (el := (fun _ => .bad)) 0 2 2 hO (by kernel_rfl) ?_
    intro lo4 H5 hO
    obtain rfl := oI h0
    exact aF (aR (kY (x := (.msl 2 lo4 0 (List.length ([] : List aB)))) (by kernel_rfl) (aN.refl _) ⟨lo4, rfl, hO⟩))
  · refine bR ?_
    refine bC [(0, (eL aG s0))] ?_
    refine aM ?_
    refine aS aD 4 ?_
    refine uH (xs := []) (k := 2) (by kernel_rfl) (by kernel_rfl) ?_
    refine bN 2 ?_
    obtain ⟨c7, h0⟩ := aZ h0
    refine SE (e := aG) s0 (fun _ => .bad) 2 16 (eL aG s0) (fun lo6 => [(lo6, 2, List.map aG s0)]) (by kernel_rfl) (by kernel_rfl) hO (SN (fun _ => by kernel_rfl)) c7 (fun _ => by kernel_rfl) ?_
    intro lo6 H hO
    refine bA ?_
    refine bC [(2, (.msl 2 lo6 0 (List.length s0)))] ?_
    refine bI ?_
    obtain rfl := oI h0
    exact aF (kY (x := (.msl 2 lo6 0 (List.length s0))) (by kernel_rfl) (aN.refl _) ⟨lo6, rfl, hO⟩)

theorem RB (f0 : (List aB)) (r : ((List aB) × Int)) (h0 : rH f0 = some r) : dH Try.prog 70 [(eL aG f0)] (.tup [(eL aG r.1), (eI r.2)]) := by
  intro H0
  refine dL Try.func70 ?_
  have hO := aK.start H0
  unfold rH at h0
  refine aW aD 2 [] [] ?_
  refine aM ?_
  refine aM ?_
  refine aS aD 3 ?_
  refine bN 1 ?_
  obtain ⟨x1, hx2, h0⟩ := aV h0
  refine dX (tC f0 _ hx2) hO ?_
  intro H hO
  refine bA ?_
  refine bU [] [(6, (aC (!x1)))] ?_
  refine bQ h0 (fun h0 => ?_) (fun h0 => ?_)
  · refine cJ aD 2 [(2, (.sl true 0 (fun _ => .bad))), (3, (eI (7 : Int)))] ?_
    refine bI ?_
    refine eD (l := [(2, (eL aG ([]))), (3, (eI (7 : Int)))]) ⟨[(2, (.sl true 0 (fun _ => .bad))), (3, (eI (7 : Int)))], by kernel_rfl, rfl, ⟨kE, aN.refl _, trivial⟩⟩ ?_
    obtain rfl := oI h0
    exact aF (aR (Q_r hO))
  refine bR ?_
  refine bC [(0, (eL aG f0))] ?_
  refine cJ aD 3 [(2, (eL aG f0)), (3, (eI (0 : Int)))] ?_
  refine bI ?_
  obtain rfl := oI h0
  exact aF (Q_r hO)

theorem RJ (f0 : (List aB)) (t1 : Int) (r : ((List aB) × Int)) (h0 : uA f0 t1 = some r) : dH Try.prog 48 [(eL aG f0), (eI t1)] (.tup [(eL aG r.1), (eI r.2)]) := by
  intro H0
  refine dL Try.func48 ?_
  have hO := aK.start H0
  unfold uA at h0
  refine aW aD 2 [] [] ?_
  refine aM ?_
  refine cC 0 ?_
  refine aM ?_
  refine aS aD 4 ?_
  refine bN 1 ?_
  obtain ⟨x1, hx2, h0⟩ := aV h0
  refine dX (tC f0 _ hx2) hO ?_
  intro H hO
  refine bA ?_
  refine bU [] [(9, (aC (!x1)))] ?_
  refine bQ h0 (fun h0 => ?_) (fun h0 => ?_)
  · refine cJ aD 2 [(4, (.sl true 0 (fun _ => .bad))), (5, (eI (2 : Int)))] ?_
    refine bI ?_
    refine eD (l := [(4, (eL aG ([]))), (5, (eI (2 : Int)))]) ⟨[(4, (.sl true 0 (fun _ => .bad))), (5, (eI (2 : Int)))], by kernel_rfl, rfl, ⟨kE, aN.refl _, trivial⟩⟩ ?_
    obtain rfl := oI h0
    exact aF (bD (aR (Q_r hO)))
  refine aW aD 3 [9] [(13, (aC (decide ((1125899906842624 : Int) ≤ t1))))] ?_
  refine bQ h0 (fun h0 => ?_) (fun h0 => ?_)
  · refine cJ aD 2 [(4, (.sl true 0 (fun _ => .bad))), (5, (eI (0 : Int)))] ?_
    refine bI ?_
    refine eD (l := [(4, (eL aG ([]))), (5, (eI (0 : Int)))]) ⟨[(4, (.sl true 0 (fun _ => .bad))), (5, (eI (0 : Int)))], by kernel_rfl, rfl, ⟨kE, aN.refl _, trivial⟩⟩ ?_
    obtain rfl := oI h0
    exact aF (bD (aR (Q_r hO)))
  refine aW aD 3 [13] [(16, (aC (decide (t1 ≤ (-1 : Int)))))] ?_
  refine bQ h0 (fun h0 => ?_) (fun h0 => ?_)
  · refine aM ?_
    refine aS aD 4 ?_
    refine bN 1 ?_
    obtain ⟨x7, hx8, h0⟩ := aV h0
    refine aBl (L' := fun lo9 => [(lo9, 2, List.map aG x7)]) 2 (List.map aG x7) 69 [(eL aG f0)] (fun lo9 => (.msl 2 lo9 0 (List.length x7))) (by kernel_rfl) (by kernel_rfl) (uR f0 _ hx8) hO (fun _ => by kernel_rfl) ?_
    intro lo9 H hO
    refine bA ?_
    refine bC [(4, (.msl 2 lo9 0 (List.length x7))), (5, (eI (0 : Int)))] ?_
    refine bI ?_
    refine fC [(4, (.msl 2 lo9 0 (List.length x7))), (5, (eI (0 : Int)))] ?_
    refine DL (en := aG) x7 0 0 4 2 lo9 (List.length x7) hO (by kernel_rfl) (by kernel_rfl) (by kernel_rfl) (L' := []) (by kernel_rfl) ?_
    intro H10 hO
    obtain rfl := oI h0
    exact aF (bD (aR (Q_r hO)))
  refine bR ?_
  refine fC [(0, (eL aG f0)), (1, (eI t1))] ?_
  refine aF (aX (aJ (?_)))
  refine aW aD 2 [] [(6, (eI (0 : Int))), (7, (eI (0 : Int)))] ?_
  refine iI (fun T H => ∃ v6 : Int, ∃ at7 : Int, Has T [(0, (eL aG f0)), (6, (eI v6)), (7, (eI at7))] ∧ aK ⟨H0, [], []⟩ H [] ∧ sG f0 v6 at7 = some r) ?_ ?_
  · clear hO h0
    rintro T H ⟨v6, at7, hT, hO, h0⟩
    refine bK hT ?_
    clear hT
    unfold sG at h0
    refine aM ?_
    refine aS aD 2 ?_
    refine uH (xs := []) (k := 2) (by kernel_rfl) (by kernel_rfl) ?_
    refine bA ?_
    refine bU [] [(8, (.sl true 0 (fun _ => .bad)))] ?_
    refine iI (fun T H => ∃ out8 : List aB, ∃ lo11 : Nat, Has T [(0, (eL aG f0)), (7, (eI at7)), (8, (.msl 2 lo11 0 (List.length out8)))] ∧ aK ⟨H0, [], []⟩ H [(lo11, 2, List.map aG out8)] ∧ sS f0 at7 out8 = some r) ?_ ?_
    · clear hO h0
      rintro T H ⟨out8, lo11, hT, hO, h0⟩
      refine bK hT ?_
      clear hT
      unfold sS at h0
      refine aM ?_
      refine aS aD 10 ?_
      obtain ⟨c15, h0⟩ := aZ h0
      refine zA 4 [0 ≤ at7 ∧ at7 ≤ (lN f0)] ⟨c15, trivial⟩ ?_
      obtain ⟨c17, h0⟩ := aZ h0
      refine AV (e := aG) out8 (List.drop (Int.toNat at7) f0) 0 lo11 2 16 (.sl false (List.length f0 - Int.toNat at7) (fun i => aG (List.getD f0 (Int.toNat at7 + i) default))) (fun lo16 => [(lo16, 2, List.map aG (out8 ++ (List.drop (Int.toNat at7) f0)))]) (by kernel_rfl) (by kernel_rfl) hO (by kernel_rfl) (VS (fun _ => by kernel_rfl)) c17 (fun _ => by kernel_rfl) ?_
      intro lo16 H hO
      refine LJ (e := aG) (out8 ++ (List.drop (Int.toNat at7) f0)) 0 55 2 lo16 (List.length (out8 ++ (List.drop (Int.toNat at7) f0))) [] (by kernel_rfl) hO (by kernel_rfl) (by kernel_rfl) (by kernel_rfl) (by kernel_rfl) ?_
      intro H hO
      obtain ⟨x18, hx19, h0⟩ := aV h0
      refine dX (RB (out8 ++ (List.drop (Int.toNat at7) f0)) _ hx19) hO ?_
      intro H hO
      refine bA ?_
      refine bC [(4, (eL aG x18.1)), (5, (eI x18.2))] ?_
      refine bI ?_
      obtain rfl := oI h0
      exact aF (Q_r hO)
    refine aW aD 2 [] [(45, (aC (!decide (v6 = (0 : Int)))))] ?_
    refine bQ h0 (fun h0 => ?_) (fun h0 => ?_)
    · refine aS aD 6 ?_
      refine bN 3 ?_
      refine uH (xs := [(aG (aB.mk (-1 : Int) v6))]) (k := 2) (by kernel_rfl) (by kernel_rfl) ?_
      obtain ⟨c23, h0⟩ := aZ h0
      refine SE (e := aG) ([aB.mk (-1 : Int) v6]) (fun _ => .bad) 2 16 (iD [(aG (aB.mk (-1 : Int) v6))]) (fun lo22 => [(lo22, 2, List.map aG ([aB.mk (-1 : Int) v6]))]) (by kernel_rfl) (by kernel_rfl) hO (by kernel_rfl) c23 (fun _ => by kernel_rfl) ?_
      intro lo22 H hO
      refine bA ?_
      exact aF (aJ (⟨rfl, _, _, .eq (by kernel_rfl), hO, h0⟩))
    refine bR ?_
    refine fC [(0, (eL aG f0)), (7, (eI at7)), (8, (.sl true 0 (fun _ => .bad)))] ?_
    refine VV (el := (fun _ => .bad)) 2 8 2 hO (by kernel_rfl) ?_
    intro lo24 H25 hO
    exact aF (aJ (⟨rfl, ([] : List aB), _, .eq (by kernel_rfl), hO, h0⟩))
  refine cC 1 ?_
  refine fQ [(0, (eL aG f0)), (1, (eI t1)), (6, (eI (0 : Int))), (7, (eI (0 : Int)))] ?_
  refine fV (fun T H => ∃ v6 : Int, ∃ at7 : Int, Has T [(0, (eL aG f0)), (1, (eI t1)), (6, (eI v6)), (7, (eI at7))] ∧ aK ⟨H0, [], []⟩ H [] ∧ vE f0 t1 v6 at7 = some r) ?_ ⟨(0 : Int), (0 : Int), .eq (by kernel_rfl), hO, h0⟩
  clear hO h0
  rintro T H ⟨v6, at7, hT, hO, h0⟩
  refine bK hT ?_
  clear hT
  unfold vE at h0
  obtain ⟨rr0, hl0, h0⟩ := aV h0
  refine dV (by kernel_rfl) (fun (s : Int × Int) T H => Has T [(0, (eL aG f0)), (1, (eI t1)), (6, (eI s.1)), (7, (eI s.2))] ∧ aK ⟨H0, [], []⟩ H []) hl0 ⟨.eq (by kernel_rfl), hO⟩ ?_
  clear hO
  rintro k0 s out1 T H ⟨hT, hO⟩ h1 ho0
  obtain ⟨v6, at7⟩ := s
  replace h1 : lE f0 t1 v6 at7 = some out1 := h1
  try dsimp only at hT
  refine bK hT ?_
  clear hT
  unfold lE at h1
  refine aM ?_
  refine aM ?_
  refine aS aD 13 ?_
  obtain ⟨c26, h1⟩ := aZ h1
  refine rR [(((decide (at7 < (lN f0)))) = true → 0 ≤ at7 ∧ at7 < (lN f0))] ⟨c26, trivial⟩ ?_
  refine bU [] [(33, (aC ((decide (at7 < (lN f0))) && (decide (((gD f0 at7).At) < t1)))))] ?_
  refine bQ h1 (fun h1 => ?_) (fun h1 => ?_)
  · refine bR ?_
    refine bC [(0, (eL aG f0)), (1, (eI t1)), (6, (eI v6)), (7, (eI at7))] ?_
    refine cC 2 ?_
    refine aM ?_
    refine aS aD 8 ?_
    obtain ⟨c28, h1⟩ := aZ h1
    refine rR [0 ≤ at7 ∧ at7 < (lN f0)] ⟨c28, trivial⟩ ?_
    refine bU [6] [(6, (eI (wR (v6 + ((gD f0 at7).Net)))))] ?_
    refine aS aD 3 ?_
    refine bA ?_
    exact aF (aX (aJ (⟨rfl, _, (oI h1).symm, .eq (by kernel_rfl), hO⟩)))
  refine jD 1 ?_
  obtain rfl := oI h1
  obtain rfl : _ = rr0 := ho0
  replace h0 : sG f0 v6 at7 = some r := h0
  exact aF (aY (aY (cD (aJ (⟨rfl, _, _, .eq (by kernel_rfl), hO, h0⟩)))))

theorem ME (f0 : (List aB)) (t1 : Int) (r : ((List aB) × Int)) (h0 : oK f0 t1 = some r) : dH Try.prog 47 [(eL aG f0), (.rp (eI t1))] (.tup [(eL aG r.1), (eI r.2)]) := by
  intro H0
  refine dL Try.func47 ?_
  have hO := aK.start H0
  unfold oK at h0
  refine aW aD 2 [] [] ?_
  refine aM ?_
  refine aS aD 7 ?_
  refine bN 2 ?_
  obtain ⟨x1, hx2, h0⟩ := aV h0
  refine dX (RJ f0 t1 _ hx2) hO ?_
  intro H hO
  refine bA ?_
  refine bC [(3, (eL aG x1.1)), (4, (eI x1.2))] ?_
  refine bI ?_
  obtain rfl := oI h0
  exact aF (Q_r hO)

theorem QU (l0 : (List aL)) (t1 : Int) (r : ((List aL) × Int)) (h0 : tS l0 t1 = some r) : dH Try.prog 22 [(eL aO l0), (eI t1)] (.tup [(eL aO r.1), (eI r.2)]) := by
  intro H0
  refine dL Try.func22 ?_
  have hO := aK.start H0
  unfold tS at h0
  refine aM ?_
  refine aS aD 3 ?_
  refine gM 1 (eI t1) (by kernel_rfl) (by kernel_rfl) ?_
  refine bA ?_
  refine bU [1] [(3, (.rp (eI t1)))] ?_
  refine aM ?_
  refine aS aD 7 ?_
  refine bN 2 ?_
  obtain ⟨x1, hx2, h0⟩ := aV h0
  refine dX (TZ l0 47 [] [(.rp (eI t1))] (fun y0 => oK y0 t1) (fun y0 r h => ME y0 t1 r h) _ hx2) hO ?_
  intro H hO
  refine bA ?_
  refine bC [(4, (eL aO x1.1)), (5, (eI x1.2))] ?_
  refine bI ?_
  obtain rfl := oI h0
  exact aF (Q_r hO)

theorem DW (l0 : (List aL)) (jZ : Int) (vA : Int) (t3 : Int) (dJ : Int) (r : Bool) (h0 : oN l0 jZ vA t3 dJ = some r) : dH Try.prog 8 [(eL aO l0), (eI jZ), (eI vA), (eI t3), (eI dJ)] (aC r) := by
  intro H0
  refine dL Try.func8 ?_
  have hO := aK.start H0
  unfold oN at h0
  refine aW aD 1 [] [] ?_
  refine aM ?_
  refine aS aD 9 ?_
  refine bN 3 ?_
  obtain ⟨x1, hx2, h0⟩ := aV h0
  refine dX (GZ jZ vA t3 _ hx2) hO ?_
  intro H hO
  refine bA ?_
  refine bU [] [(11, (eI x1.1)), (12, (eI x1.2))] ?_
  refine aM ?_
  refine aW aD 7 [3, 12] [(32, (aC ((!decide (x1.2 = (0 : Int))) || (decide (t3 < x1.1)))))] ?_
  refine bQ h0 (fun h0 => ?_) (fun h0 => ?_)
  · refine aM ?_
    refine aS aD 2 ?_
    obtain ⟨x5, hx6, h0⟩ := aV h0
    refine dX (yM  _ hx6) hO ?_
    intro H hO
    refine bA ?_
    refine bC [(10, (aC x5))] ?_
    refine bI ?_
    obtain rfl := oI h0
    exact aF (aR (Q_r hO))
  refine bR ?_
  refine bC [(0, (eL aO l0)), (1, (eI jZ)), (2, (eI vA)), (4, (eI dJ)), (11, (eI x1.1))] ?_
  refine aM ?_
  refine aS aD 8 ?_
  refine bN 2 ?_
  obtain ⟨x8, hx9, h0⟩ := aV h0
  refine dX (QU l0 x1.1 _ hx9) hO ?_
  intro H hO
  refine bA ?_
  refine bU [] [(13, (eL aO x8.1)), (14, (eI x8.2))] ?_
  refine aM ?_
  refine aM ?_
  refine aS aD 11 ?_
  refine bN 8 ?_
  obtain ⟨x11, hx12, h0⟩ := aV h0
  refine nB [(46, false)] 23 [(eL aO l0)] (aC x11) (!((!decide (x8.2 = (0 : Int))) || (decide (x1.1 = (1125899906842624 : Int))))) (by kernel_rfl) (by kernel_rfl) (by kernel_rfl) (fun hb13 => (CW l0 _ (jN hx12 hb13))) hO ?_
  intro H hO
  refine bA ?_
  refine bU [14] [(50, (aC (((!decide (x8.2 = (0 : Int))) || (decide (x1.1 = (1125899906842624 : Int)))) || (!x11))))] ?_
  refine bQ h0 (fun h0 => ?_) (fun h0 => ?_)
  · refine aM ?_
    refine aS aD 2 ?_
    obtain ⟨x15, hx16, h0⟩ := aV h0
    refine dX (yM  _ hx16) hO ?_
    intro H hO
    refine bA ?_
    refine bC [(10, (aC x15))] ?_
    refine bI ?_
    obtain rfl := oI h0
    exact aF (aR (Q_r hO))
  refine bR ?_
  refine bC [(0, (eL aO l0)), (1, (eI jZ)), (2, (eI vA)), (4, (eI dJ)), (11, (eI x1.1)), (13, (eL aO x8.1))] ?_
  refine aM ?_
  refine aS aD 11 ?_
  refine bN 5 ?_
  obtain ⟨x18, hx19, h0⟩ := aV h0
  refine dX (zZ l0 jZ vA x1.1 dJ _ hx19) hO ?_
  intro H hO
  refine bA ?_
  refine bU [0] [(15, (eL aT x18.1)), (16, (eI x18.2))] ?_
  refine aM ?_
  refine aS aD 11 ?_
  refine bN 5 ?_
  obtain ⟨x21, hx22, h0⟩ := aV h0
  refine dX (zZ x8.1 jZ vA x1.1 dJ _ hx22) hO ?_
  intro H hO
  refine bA ?_
  refine bU [1, 2, 4, 11, 13] [(17, (eL aT x21.1)), (18, (eI x21.2))] ?_
  refine aM ?_
  refine aS aD 12 ?_
  obtain ⟨x24, hx25, h0⟩ := aV h0
  refine dX (yM  _ hx25) hO ?_
  intro H hO
  refine bN 9 ?_
  obtain ⟨x27, hx28, h0⟩ := aV h0
  refine nB [(76, true)] 18 [(eL aT x18.1), (eL aT x21.1)] (aC x27) (x24 && (decide (x18.2 = x21.2))) (by kernel_rfl) (by kernel_rfl) (by kernel_rfl) (fun hb29 => (PD x18.1 x21.1 _ (jN hx28 hb29))) hO ?_
  intro H hO
  refine bA ?_
  refine bC [(10, (aC ((x24 && (decide (x18.2 = x21.2))) && x27)))] ?_
  refine bI ?_
  obtain rfl := oI h0
  exact aF (Q_r hO)

end Go.Abs
namespace Go.Abs
open Go Go.RowKit Go.Proofs
theorem CV {H : Type} {enc : TypeId × Value → H} {w : World} : vG enc Try.prog w 52 aH zH :=
  CT Try.underlying52 (by kernel_rfl) (rK (c' := FQ) (ok' := zH) (fun (a : Int) (b : Int × ByteArray × Unit) => (aE.mk a b.1 b.2.1 : aE)) (by kernel_rfl) (zT Try.underlying50) (rK (c' := fun (b : Int × ByteArray × Unit) => (V.cells (cR .i64 b.1) ++ (V.cells (wH b.2.1) ++ []))) (ok' := fun b => (uT b.1 ∧ ((fun s => s.size ≤ maxLen) b.2.1 ∧ True))) (fun a b => (a, b)) (by kernel_rfl) (zT Try.underlying3) (rK (c' := fun (b : ByteArray × Unit) => (V.cells (wH b.1) ++ [])) (ok' := fun b => ((fun s => s.size ≤ maxLen) b.1 ∧ True)) (fun a b => (a, b)) (by kernel_rfl) (NJ Try.underlying9) (HY ()) (fun _ _ => rfl) (fun _ _ h1 h2 => ⟨h1, h2⟩)) (fun _ _ => rfl) (fun _ _ h1 h2 => ⟨h1, h2⟩)) (fun _ _ => rfl) (fun _ _ h1 h2 => ⟨h1, h2⟩))

theorem EY {H : Type} {enc : TypeId × Value → H} {w : World} : vG enc Try.prog w 56 aO tP :=
  CT Try.underlying56 (by kernel_rfl) (rK (c' := IM) (ok' := tP) (fun (a : (List aE)) (b : Int × Int × Unit) => (aL.mk a b.1 b.2.1 : aL)) (by kernel_rfl) (QV Try.underlying54 (by decide +kernel) (fun _ => by kernel_rfl) (fun _ => rfl) CV (by kernel_rfl)) (rK (c' := fun (b : Int × Int × Unit) => (V.cells (cR .i64 b.1) ++ (V.cells (cR .i64 b.2.1) ++ []))) (ok' := fun b => (uT b.1 ∧ (uT b.2.1 ∧ True))) (fun a b => (a, b)) (by kernel_rfl) (zT Try.underlying3) (rK (c' := fun (b : Int × Unit) => (V.cells (cR .i64 b.1) ++ [])) (ok' := fun b => (uT b.1 ∧ True)) (fun a b => (a, b)) (by kernel_rfl) (zT Try.underlying3) (HY ()) (fun _ _ => rfl) (fun _ _ h1 h2 => ⟨h1, h2⟩)) (fun _ _ => rfl) (fun _ _ h1 h2 => ⟨h1, h2⟩)) (fun _ _ => rfl) (fun _ _ h1 h2 => ⟨h1, h2⟩))

end Go.Abs
namespace Go.Abs
open Go
theorem eH {n : Int} (h1 : -9223372036854775808 ≤ n) (h2 : n ≤ 9223372036854775807) : IntKind.i64.wrap n = n := by
  simp only [IntKind.wrap, IntKind.bits, IntKind.signed]
  simp
  split <;> omega

def mZ {α st R : Type} (step : st → α → Option (st ⊕ R)) (fin : st → R) : st → List α → Option R
  | s, [] => some (fin s)
  | s, a :: r => match step s a with
    | some (.inl s') => mZ step fin s' r
    | some (.inr x) => some x
    | none => none

theorem BS {α st R : Type} {step : st → α → Option (st ⊕ R)} {fin : st → R} {s s' : st} {a : α} {r : List α} (h : step s a = some (.inl s')) : mZ step fin s (a :: r) = mZ step fin s' r := by
  simp only [mZ, h]

theorem BX {α st R : Type} {step : st → α → Option (st ⊕ R)} {fin : st → R} {s : st} {x : R} {a : α} {r : List α} (h : step s a = some (.inr x)) : mZ step fin s (a :: r) = some x := by
  simp only [mZ, h]

theorem TA {α S st R : Type} {body : S → Option (S ⊕ R)} {l : List α} (mk : st → Int → S) (step : st → α → Option (st ⊕ R)) (fin : st → R)
    (hn : ∀ (i : Nat) a s, l[i]? = some a → (∀ s', step s a = some (.inl s') → body (mk s i) = some (.inl (mk s' ((i + 1 : Nat) : Int)))) ∧ (∀ x, step s a = some (.inr x) → body (mk s i) = some (.inr x)))
    (he : ∀ s, body (mk s (l.length : Nat)) = some (.inr (fin s))) : ∀ (m k : Nat) (s : st) (r : R), l.length - k = m → k ≤ l.length → mZ step fin s (l.drop k) = some r → lp body (mk s k) = some r
  | 0, k, s, r, hm, hk, h => by
    have : k = l.length := by omega
    subst this
    rw [List.drop_length] at h
    simp only [mZ, Option.some.injEq] at h
    subst h
    exact cV (he s)
  | m + 1, k, s, r, hm, hk, h => by
    have hlt : k < l.length := by omega
    have hd : l.drop k = l[k] :: l.drop (k + 1) := List.drop_eq_getElem_cons hlt
    rw [hd] at h
    simp only [mZ] at h
    obtain ⟨h1, h2⟩ := hn k l[k] s (List.getElem?_eq_getElem hlt)
    split at h
    · rename_i s' hs
      rw [gF (h1 s' hs)]
      exact TA mk step fin hn he m (k + 1) s' r (by omega) (by omega) h
    · rename_i x hs
      simp at h; subst h
      exact cV (h2 x hs)
    · cases h

theorem NH {α S st R : Type} {body : S → Option (S ⊕ R)} {l : List α} (mk : st → Int → S) (step : st → α → Option (st ⊕ R)) (fin : st → R)
    (hn : ∀ (i : Nat) a s, l[i]? = some a → (∀ s', step s a = some (.inl s') → body (mk s i) = some (.inl (mk s' ((i + 1 : Nat) : Int)))) ∧ (∀ x, step s a = some (.inr x) → body (mk s i) = some (.inr x)))
    (he : ∀ s, body (mk s (l.length : Nat)) = some (.inr (fin s))) {s : st} {r : R} (h : mZ step fin s l = some r) : lp body (mk s 0) = some r :=
  TA mk step fin hn he _ 0 s r rfl (Nat.zero_le _) (by simpa using h)

theorem NZ {α S st R : Type} {body : S → Option (S ⊕ R)} {l : List α} (mk : st → Int → S) (step : st → α → Option (st ⊕ R)) (fin : st → R) (Inv : Nat → st → Prop)
    (hn : ∀ (i : Nat) a s, Inv i s → l[i]? = some a → (∀ s', step s a = some (.inl s') → Inv (i + 1) s' ∧ body (mk s i) = some (.inl (mk s' ((i + 1 : Nat) : Int)))) ∧ (∀ x, step s a = some (.inr x) → body (mk s i) = some (.inr x)))
    (he : ∀ s, Inv l.length s → body (mk s (l.length : Nat)) = some (.inr (fin s))) : ∀ (m k : Nat) (s : st) (r : R), l.length - k = m → k ≤ l.length → Inv k s → mZ step fin s (l.drop k) = some r → lp body (mk s k) = some r
  | 0, k, s, r, hm, hk, hi, h => by
    have : k = l.length := by omega
    subst this
    rw [List.drop_length] at h
    simp only [mZ, Option.some.injEq] at h
    subst h
    exact cV (he s hi)
  | m + 1, k, s, r, hm, hk, hi, h => by
    have hlt : k < l.length := by omega
    have hd : l.drop k = l[k] :: l.drop (k + 1) := List.drop_eq_getElem_cons hlt
    rw [hd] at h
    simp only [mZ] at h
    obtain ⟨h1, h2⟩ := hn k l[k] s hi (List.getElem?_eq_getElem hlt)
    split at h
    · rename_i s' hs
      obtain ⟨hi', hb⟩ := h1 s' hs
      rw [gF hb]
      exact NZ mk step fin Inv hn he m (k + 1) s' r (by omega) (by omega) hi' h
    · rename_i x hs
      simp at h; subst h
      exact cV (h2 x hs)
    · cases h

theorem YB {α S st R : Type} {body : S → Option (S ⊕ R)} {l : List α} (mk : st → Int → S) (step : st → α → Option (st ⊕ R)) (fin : st → R) (Inv : Nat → st → Prop)
    (hn : ∀ (i : Nat) a s, Inv i s → l[i]? = some a → (∀ s', step s a = some (.inl s') → Inv (i + 1) s' ∧ body (mk s i) = some (.inl (mk s' ((i + 1 : Nat) : Int)))) ∧ (∀ x, step s a = some (.inr x) → body (mk s i) = some (.inr x)))
    (he : ∀ s, Inv l.length s → body (mk s (l.length : Nat)) = some (.inr (fin s))) {s : st} {r : R} (hi : Inv 0 s) (h : mZ step fin s l = some r) : lp body (mk s 0) = some r :=
  NZ mk step fin Inv hn he _ 0 s r rfl (Nat.zero_le _) hi (by simpa using h)

theorem idx {α : Type} [Inhabited α] {l : List α} {i : Nat} {a : α} (h : l[i]? = some a) (hl : l.length < 4611686018427387904) :
    decide ((i : Int) < ((l.length : Nat) : Int)) = true ∧ (0 ≤ (i : Int) ∧ (i : Int) < ((l.length : Nat) : Int)) ∧ l.getD (Int.toNat (i : Int)) default = a ∧ IntKind.i64.wrap ((i : Int) + 1) = ((i + 1 : Nat) : Int) := by
  have hlt : i < l.length := (List.getElem?_eq_some_iff.1 h).1
  refine ⟨by simpa using hlt, ⟨by omega, by omega⟩, ?_, ?_⟩
  · rw [Int.toNat_natCast, List.getD_eq_getElem?_getD, h]; rfl
  · rw [eH (by omega) (by omega)]; omega

theorem lY {n : Nat} : decide (((n : Nat) : Int) < ((n : Nat) : Int)) = false := by simp

theorem aCK {α : Type} {j : α} {r : List α} : (0 : Int) ≤ 0 ∧ (0 : Int) < ((List.length (j :: r) : Nat) : Int) := ⟨by omega, by simp⟩

theorem aBN {α : Type} [Inhabited α] {j : α} {r : List α} : List.getD (j :: r) (Int.toNat (0 : Int)) default = j := rfl

end Go.Abs
namespace Go.Abs
open Go
theorem drop_cons {α : Type} {l r : List α} {a : α} {k : Nat} (h : l.drop k = a :: r) : l[k]? = some a ∧ l.drop (k + 1) = r := by
  have hk : k < l.length := by
    apply Classical.byContradiction; intro hn
    rw [List.drop_eq_nil_of_le (by omega)] at h; cases h
  rw [List.drop_eq_getElem_cons hk] at h
  obtain ⟨h1, h2⟩ := List.cons.inj h
  exact ⟨by rw [List.getElem?_eq_getElem hk, h1], h2⟩

theorem XC {α S st R : Type} {body : S → Option (S ⊕ R)} {l : List α} (mk : st → Int → S) (G : st → List α → R) (Inv : st → List α → Prop)
    (hn : ∀ (i : Nat) a r s, l[i]? = some a → Inv s (a :: r) → (∃ s', body (mk s i) = some (.inl (mk s' ((i + 1 : Nat) : Int))) ∧ Inv s' r ∧ G s' r = G s (a :: r)) ∨ body (mk s i) = some (.inr (G s (a :: r))))
    (he : ∀ s, Inv s [] → body (mk s (l.length : Nat)) = some (.inr (G s []))) : ∀ (r : List α) (k : Nat) (s : st), l.drop k = r → k ≤ l.length → Inv s r → lp body (mk s k) = some (G s r)
  | [], k, s, hd, hk, hi => by
    have : k = l.length := by
      have := congrArg List.length hd
      simp only [List.length_drop, List.length_nil] at this; omega
    subst this
    exact cV (he s hi)
  | a :: r, k, s, hd, hk, hi => by
    obtain ⟨h1, h2⟩ := drop_cons hd
    have hlt : k < l.length := (List.getElem?_eq_some_iff.1 h1).1
    rcases hn k a r s h1 hi with ⟨s', hb, hi', hg⟩ | hb
    · rw [gF hb, XC mk G Inv hn he r (k + 1) s' h2 (by omega) hi', hg]
    · exact cV hb

theorem BC {α S st R : Type} {body : S → Option (S ⊕ R)} {l : List α} (mk : st → Int → S) (G : st → List α → R) (Inv : st → List α → Prop) (s : st)
    (hn : ∀ (i : Nat) a r s, l[i]? = some a → Inv s (a :: r) → (∃ s', body (mk s i) = some (.inl (mk s' ((i + 1 : Nat) : Int))) ∧ Inv s' r ∧ G s' r = G s (a :: r)) ∨ body (mk s i) = some (.inr (G s (a :: r))))
    (he : ∀ s, Inv s [] → body (mk s (l.length : Nat)) = some (.inr (G s []))) (hi : Inv s l) : lp body (mk s 0) = some (G s l) :=
  XC mk G Inv hn he l 0 s rfl (Nat.zero_le _) hi

theorem XW {α S R : Type} {body : S → Option (S ⊕ R)} {l : List α} (mk : Int → S) (bad : α → Bool) (x y : R)
    (hn : ∀ (i : Nat) a, l[i]? = some a → body (mk i) = some (if bad a then .inr x else .inl (mk ((i + 1 : Nat) : Int))))
    (he : body (mk (l.length : Nat)) = some (.inr y)) : lp body (mk 0) = some (if l.any bad then x else y) := by
  refine BC (st := Unit) (fun _ i => mk i) (fun _ r => if r.any bad then x else y) (fun _ _ => True) () ?_ ?_ trivial
  · intro i a r s ha _
    have hb := hn i a ha
    cases h : bad a
    · left; refine ⟨(), ?_, trivial, ?_⟩
      · simpa [h] using hb
      · simp [List.any_cons, h]
    · right; simpa [h, List.any_cons] using hb
  · intro _ _; simpa using he

end Go.Abs
namespace Go.Abs
open Go
variable {α : Type} [Inhabited α]
structure Cmp {β : Type} (ok : β → Prop) (le : β → β → Prop) (cmp : β → β → Option Int) : Prop where
  ans : ∀ x y, ok x → ok y → ∃ v, cmp x y = some v ∧ (v < 0 ↔ ¬ le y x)
  trans : ∀ x y z, ok x → ok y → ok z → le x y → le y z → le x z
  total : ∀ x y, ok x → ok y → le x y ∨ le y x

abbrev Srt {β : Type} (le : β → β → Prop) (l : List β) : Prop := l.Pairwise le

abbrev Oks {β : Type} (ok : β → Prop) (l : List β) : Prop := ∀ x ∈ l, ok x

section ins
variable {ok : α → Prop} {le : α → α → Prop} {cmp : α → α → Option Int}
end ins
end Go.Abs
namespace Go.Abs
open Go
variable {α : Type} [Inhabited α]
section sym
variable {ok : α → Prop} {le : α → α → Prop} {cmp : α → α → Option Int}
theorem Cmp.refl {β : Type} {ok : β → Prop} {le : β → β → Prop} {cmp : β → β → Option Int} (C : Cmp ok le cmp) {x : β} (h : ok x) : le x x := by rcases C.total x x h h with h | h <;> exact h

end sym
end Go.Abs
namespace Go.Abs
open Go
variable {α : Type} [Inhabited α] {ok : α → Prop} {le : α → α → Prop} {cmp : α → α → Option Int}
inductive JO {β : Type} (le : β → β → Prop) (n : Nat) : List β → Prop
  | last {l : List β} : l.length ≤ n → Srt le l → JO le n l
  | cons {x l : List β} : x.length = n → Srt le x → JO le n l → JO le n (x ++ l)

theorem JO.split {β : Type} {le : β → β → Prop} {n : Nat} {l : List β} (h : JO le n l) (hl : n < l.length) : ∃ x r, l = x ++ r ∧ x.length = n ∧ Srt le x ∧ JO le n r := by
  cases h with
  | last h' _ => omega
  | cons hx hs hr => exact ⟨_, _, rfl, hx, hs, hr⟩

theorem Oks.perm {β : Type} {ok : β → Prop} {l l' : List β} (h : Oks ok l) (hp : l'.Perm l) : Oks ok l' := fun x hx => h x (hp.mem_iff.1 hx)

end Go.Abs
namespace Go.Abs
open Go
structure aCE where
  Row : (List aE)
  Span : bJ
  deriving Inhabited, DecidableEq

structure aCH where
  Kind : Int
  Input : Int
  Edges : (List aL)
  At : Int
  deriving Inhabited, DecidableEq

structure aCF where
  row : (List aE)
  jumps : (List aB)
  deriving Inhabited, DecidableEq

structure aCx where
  Kind : Int
  Size : Int
  Hop : Int
  deriving Inhabited, DecidableEq

end Go.Abs
namespace Go.Abs
open Go
def MW (n : Int) : Bool := decide (n ≤ 1048576) && decide (-1048576 ≤ n)

theorem aA7 (n : Int) : xD n = some (MW n) := rfl

def GK (last : Int) (j : aB) : Bool := decide (j.At ≤ last) || decide (1125899906842624 ≤ j.At) || decide (j.Net = 0) || !MW j.Net

def chk (last : Int) : List aB → Bool
  | [] => true
  | j :: r => !GK last j && chk j.At r

def eY (f : List aB) : Bool := decide (f.length ≤ 1024) && chk (-2) f

theorem PU {f : List aB} {i : Nat} {a : aB} {last : Int} (ha : f[i]? = some a) (hl : f.length < 4611686018427387904) :
    lS f (f.length : Nat) last i = some (if GK last a then .inr (.inr false) else .inl (a.At, ((i + 1 : Nat) : Int))) := by
  obtain ⟨d1, d2, d3, d4⟩ := idx ha hl
  simp only [lS, d1, cond_true, aQ d2, d3, d4, aA7]
  unfold GK
  cases h : (decide (a.At ≤ last) || decide (1125899906842624 ≤ a.At) || decide (a.Net = 0)) <;> cases h2 : MW a.Net <;> simp [dG]

theorem NN : ∀ (f : List aB) (last : Int), mZ (fun last (j : aB) => some (if GK last j then .inr (.inr false) else .inl j.At)) (fun _ => (.inl () : Unit ⊕ Bool)) last f = some (if chk last f then .inl () else .inr false)
  | [], last => by simp [mZ, chk]
  | j :: r, last => by
    cases h : GK last j
    · rw [BS (s' := j.At) (by simp [h])]
      rw [NN r j.At]
      simp [chk, h]
    · rw [BX (x := .inr false) (by simp [h])]
      simp [chk, h]

theorem AM (f : List aB) : lW f = some (eY f) := by
  unfold lW eY
  by_cases hl : f.length ≤ 1024
  · have h1 : decide ((1024 : Int) < ((f.length : Nat) : Int)) = false := by simp; omega
    rw [h1, cond_false]
    unfold wU
    have key := NH (l := f) (body := fun s : Int × Int => lS f (f.length : Nat) s.1 s.2) (fun last i => (last, i)) _ _
      (fun i a s ha => by
        constructor
        · intro s' hs
          show lS f (f.length : Nat) s i = _
          rw [PU ha (by omega)]
          split at hs <;> simp_all
        · intro x hs
          show lS f (f.length : Nat) s i = _
          rw [PU ha (by omega)]
          split at hs <;> simp_all)
      (fun s => by show lS f (f.length : Nat) s (f.length : Nat) = _; simp only [lS, lY, cond_false]) (NN f (-2))
    rw [key]
    cases h : chk (-2) f <;> simp [tT, hl]
  · have h1 : decide ((1024 : Int) < ((f.length : Nat) : Int)) = true := by simp; omega
    rw [h1, cond_true]
    simp [hl]

theorem UU {last : Int} {j : aB} : GK last j = false ↔ last < j.At ∧ j.At < 1125899906842624 ∧ j.Net ≠ 0 ∧ j.Net ≤ 1048576 ∧ -1048576 ≤ j.Net := by
  simp [GK, MW]
  omega

def mF (last : Int) : List aB → Prop
  | [] => True
  | j :: r => (last < j.At ∧ j.At < 1125899906842624 ∧ j.Net ≠ 0 ∧ j.Net ≤ 1048576 ∧ -1048576 ≤ j.Net) ∧ mF j.At r

theorem SK : ∀ {f : List aB} {last : Int}, chk last f = true ↔ mF last f
  | [], last => by simp [chk, mF]
  | j :: r, last => by simp [chk, mF, UU, SK]

theorem mL {f : List aB} : eY f = true ↔ f.length ≤ 1024 ∧ mF (-2) f := by simp [eY, SK]

theorem mF.above : ∀ {f : List aB} {last : Int}, mF last f → ∀ j ∈ f, last < j.At ∧ j.At < 1125899906842624 ∧ j.Net ≠ 0 ∧ j.Net ≤ 1048576 ∧ -1048576 ≤ j.Net
  | [], _, _, j, hj => by simp at hj
  | a :: r, last, h, j, hj => by
    rcases List.mem_cons.1 hj with rfl | hj
    · exact h.1
    · have := h.2.above j hj
      have h1 := h.1.1
      exact ⟨by omega, this.2⟩

def val (f : List aB) (t : Int) : Int := (f.map fun j => if j.At ≤ t then j.Net else 0).sum

theorem AT (t : Int) : val [] t = 0 := rfl

theorem fD (j : aB) (r : List aB) (t : Int) : val (j :: r) t = (if j.At ≤ t then j.Net else 0) + val r t := by simp [val]

theorem BK (f g : List aB) (t : Int) : val (f ++ g) t = val f t + val g t := by simp [val]

theorem KS : ∀ {f : List aB} {b : Int} (t : Int), 0 ≤ b → (∀ j ∈ f, j.Net ≤ b ∧ -b ≤ j.Net) → val f t ≤ b * f.length ∧ -(b * f.length) ≤ val f t
  | [], b, t, _, _ => by simp [val]
  | j :: r, b, t, hb, h => by
    obtain ⟨h1, h2⟩ := KS t hb (fun k hk => h k (List.mem_cons_of_mem _ hk))
    have h3 := h j (List.mem_cons_self ..)
    rw [fD]
    simp only [List.length_cons, Int.natCast_add, Int.natCast_one, Int.mul_add, Int.mul_one]
    split <;> omega

theorem oT {f : List aB} {t : Int} (h : ∀ j ∈ f, t < j.At) : val f t = 0 := by
  induction f with
  | nil => rfl
  | cons j r ih =>
    rw [fD, ih (fun k hk => h k (List.mem_cons_of_mem _ hk))]
    have := h j (List.mem_cons_self ..)
    rw [if_neg (by omega)]; rfl

theorem TF {f : List aB} {i : Nat} {a : aB} {t v : Int} (ha : f[i]? = some a) (hl : f.length < 4611686018427387904) :
    mT t f (f.length : Nat) v i = some (if t < a.At then .inr v else .inl (IntKind.i64.wrap (v + a.Net), ((i + 1 : Nat) : Int))) := by
  obtain ⟨d1, d2, d3, d4⟩ := idx ha hl
  simp only [mT, d1, cond_true, aQ d2, d3, d4]
  by_cases h : t < a.At <;> simp [h]

theorem aBm {t : Int} (f : List aB) : ∀ (last v : Int), mF last f → v ≤ 1048576 * (2048 - f.length) → -(1048576 * (2048 - f.length)) ≤ v → f.length ≤ 1024 →
    mZ (fun v (j : aB) => some (if t < j.At then .inr v else .inl (IntKind.i64.wrap (v + j.Net)))) (fun v => (v : Int)) v f = some (v + val f t) := by
  induction f with
  | nil => intro last v _ _ _ _; simp [mZ, val]
  | cons j r ih =>
    intro last v h h1 h2 hl
    simp only [List.length_cons] at h1 h2 hl
    by_cases hj : t < j.At
    · rw [BX (x := v) (by simp [hj])]
      rw [oT (fun k hk => by
        rcases List.mem_cons.1 hk with rfl | hk
        · exact hj
        · have := (h.2.above k hk).1; omega)]
      simp
    · have hj1 := h.1
      have hw : IntKind.i64.wrap (v + j.Net) = v + j.Net := eH (by omega) (by omega)
      rw [BS (s' := v + j.Net) (by simp [hj, hw])]
      rw [ih j.At (v + j.Net) h.2 (by omega) (by omega) (by omega), fD, if_pos (by omega)]
      congr 1
      omega

theorem aCy (f : List aB) (t : Int) : xJ f t = some (if eY f then val f t else 0) := by
  unfold xJ
  rw [AM]
  simp only [Option.bind_some]
  cases h : eY f
  · simp
  · obtain ⟨hl, hr⟩ := mL.1 h
    simp only [Bool.not_true, cond_false, if_true]
    unfold xY
    have key := NH (l := f) (body := fun s : Int × Int => mT t f (f.length : Nat) s.1 s.2) (fun v i => (v, i)) _ _
      (fun i a s ha => by
        constructor
        · intro s' hs
          show mT t f (f.length : Nat) s i = _
          rw [TF ha (by omega)]
          split at hs <;> simp_all
        · intro x hs
          show mT t f (f.length : Nat) s i = _
          rw [TF ha (by omega)]
          split at hs <;> simp_all)
      (fun s => by show mT t f (f.length : Nat) s (f.length : Nat) = _; simp only [mT, lY, cond_false]) (aBm (t := t) f (-2) 0 hr (by omega) (by omega) hl)
    rw [key]
    simp [tB]

theorem aBd (f : List aB) : rH f = some (if eY f then (f, 0) else ([], 7)) := by
  unfold rH
  rw [AM]
  cases h : eY f <;> simp

end Go.Abs
namespace Go.Abs
open Go
section both
variable {op : Int → Int → Option Int} {f g r : List aB} {out : List aB} {a b was t : Int} {j : aB}
end both
def emit (p v was : Int) : List aB := if v = was then [] else [⟨p, v - was⟩]

def aAY (was : Int) : List (Int × Int) → List aB
  | [] => []
  | x :: r => emit x.1 x.2 was ++ aAY x.2 r

def merge (f g : List aB) (a b : Int) : List (Int × Int × Int) :=
  match f, g with
  | [], [] => []
  | j :: f, [] => (j.At, a + j.Net, b) :: merge f [] (a + j.Net) b
  | [], k :: g => (k.At, a, b + k.Net) :: merge [] g a (b + k.Net)
  | j :: f, k :: g =>
    if j.At < k.At then (j.At, a + j.Net, b) :: merge f (k :: g) (a + j.Net) b
    else if k.At < j.At then (k.At, a, b + k.Net) :: merge (j :: f) g a (b + k.Net)
    else (j.At, a + j.Net, b + k.Net) :: merge f g (a + j.Net) (b + k.Net)

termination_by f.length + g.length
end Go.Abs
namespace Go.Abs
open Go
def comb (OP : Int → Int → Int) (f g : List aB) : List aB := aAY 0 ((merge f g 0 0).map fun x => (x.1, OP x.2.1 x.2.2))

def told (f : List aB) : List aB × Int := if eY f then (f, 0) else ([], 7)

theorem ZN (f : List aB) : rH f = some (told f) := aBd f

def two (OP : Int → Int → Int) (f g : List aB) : List aB × Int := if eY f && eY g then told (comb OP f g) else ([], 2)

end Go.Abs
namespace Go.Abs
open Go
theorem mF.xP {l t : Int} {f : List aB} (h : mF l f) (ht : t ≤ l) : val f t = 0 := oT fun j hj => by have := (h.above j hj).1; omega

end Go.Abs
namespace Go.Abs
open Go
def pP (f : List aB) : Int := (f.map aB.Net).sum

theorem LQ (j : aB) (f : List aB) : pP (j :: f) = j.Net + pP f := by simp [pP]

def jM (t : Int) : List aB → List aB
  | [] => []
  | j :: r => if t ≤ j.At then [] else j :: jM t r

def aft (t : Int) : List aB → List aB
  | [] => []
  | j :: r => if t ≤ j.At then j :: r else aft t r

theorem wN (t : Int) : ∀ f : List aB, jM t f ++ aft t f = f
  | [] => rfl
  | j :: r => by
    unfold jM aft
    split
    · rfl
    · simp [wN t r]

theorem KB {t : Int} : ∀ {f : List aB}, ∀ j ∈ jM t f, j.At < t
  | [], j, h => by simp [jM] at h
  | k :: r, j, h => by
    unfold jM at h
    split at h
    · simp at h
    · rcases List.mem_cons.1 h with rfl | h
      · omega
      · exact KB j h

theorem OX {t l : Int} : ∀ {f : List aB}, mF l f → ∀ j ∈ aft t f, t ≤ j.At
  | [], _, j, h => by simp [aft] at h
  | k :: r, hr, j, h => by
    unfold aft at h
    split at h
    · rcases List.mem_cons.1 h with rfl | h
      · assumption
      · have := (hr.2.above j h).1; omega
    · exact OX hr.2 j h

theorem SO {f : List aB} {t : Int} (h : ∀ j ∈ f, j.At ≤ t) : val f t = pP f := by
  induction f with
  | nil => rfl
  | cons j r ih => rw [fD, LQ, if_pos (h j (List.mem_cons_self ..)), ih fun k hk => h k (List.mem_cons_of_mem _ hk)]

theorem OF (t : Int) : ∀ f : List aB, (jM t f).length ≤ f.length
  | [] => by simp [jM]
  | j :: r => by
    unfold jM
    split
    · simp
    · simpa using OF t r

theorem aAI {l t p : Int} {f : List aB} (hf : mF l f) (hp : p < t) : val f p = val (jM t f) p := by
  conv => lhs; rw [← wN t f]
  rw [BK, oT (f := aft t f) (fun j hj => by have := OX hf j hj; omega)]
  omega

theorem aBH {l t p : Int} {f : List aB} (hf : mF l f) (hp : t ≤ p) : val f p = pP (jM t f) + val (aft t f) p := by
  conv => lhs; rw [← wN t f]
  rw [BK, SO (fun j hj => by have := KB j hj; omega)]

theorem VH {l t : Int} {f : List aB} (hf : mF l f) : pP (jM t f) = val f (t - 1) := by
  rw [aAI hf (p := t - 1) (t := t) (by omega), SO (fun j hj => by have := KB j hj; omega)]

theorem ZQ {f : List aB} (hl : f.length ≤ 1024) : gX f = some f := by
  unfold gX
  exact aQ ⟨by omega, by omega⟩

end Go.Abs
namespace Go.Abs
open Go
theorem XQ {t : Int} (f : List aB) : ∀ (l v : Int) (k : Nat), mF l f → v ≤ 1048576 * (2048 - f.length) → -(1048576 * (2048 - f.length)) ≤ v → f.length ≤ 1024 →
    mZ (fun (s : Int × Nat) (j : aB) => some (if t ≤ j.At then .inr (s.1, ((s.2 : Nat) : Int)) else .inl (IntKind.i64.wrap (s.1 + j.Net), s.2 + 1))) (fun s => (s.1, ((s.2 : Nat) : Int))) (v, k) f = some (v + pP (jM t f), ((k + (jM t f).length : Nat) : Int)) := by
  induction f with
  | nil => intro l v k _ _ _ _; simp [mZ, jM, pP]
  | cons j r ih =>
    intro l v k h h1 h2 hl
    simp only [List.length_cons] at h1 h2 hl
    have hj1 := h.1
    by_cases hj : t ≤ j.At
    · rw [BX (x := (v, ((k : Nat) : Int))) (by simp [hj])]
      simp [jM, hj, pP]
    · have hw : IntKind.i64.wrap (v + j.Net) = v + j.Net := eH (by omega) (by omega)
      rw [BS (s' := (v + j.Net, k + 1)) (by simp [hj, hw])]
      rw [ih j.At (v + j.Net) (k + 1) h.2 (by omega) (by omega) (by omega)]
      have : jM t (j :: r) = j :: jM t r := by simp [jM, hj]
      rw [this, LQ, List.length_cons]
      congr 2
      · omega
      · congr 1; omega

def vS (t : Int) (f : List aB) : List aB := (if pP (jM t f) = 0 then [] else [⟨-1, pP (jM t f)⟩]) ++ aft t f

def rest (f : List aB) (t : Int) : List aB × Int :=
  if eY f then (if 1125899906842624 ≤ t then ([], 0) else if t ≤ -1 then (f, 0) else told (vS t f)) else ([], 2)

theorem VX (t : Int) (f : List aB) : List.drop (jM t f).length f = aft t f := by
  rw [show List.drop (jM t f).length f = List.drop (jM t f).length (jM t f ++ aft t f) by rw [wN]]
  exact List.drop_left

theorem aA4 (f : List aB) (t : Int) : uA f t = some (rest f t) := by
  unfold uA rest
  rw [AM]
  simp only [Option.bind_some]
  cases h : eY f
  · simp
  · obtain ⟨hl, hr⟩ := mL.1 h
    simp only [Bool.not_true, cond_false, if_true]
    by_cases ht : 1125899906842624 ≤ t
    · simp [ht]
    · rw [decide_eq_false ht, cond_false, if_neg ht]
      by_cases ht' : t ≤ -1
      · simp [ht', ZQ hl]
      · rw [decide_eq_false ht', cond_false, if_neg ht']
        unfold vE
        have key := YB (l := f) (body := fun s : Int × Int => lE f t s.1 s.2) (fun (s : Int × Nat) i => (s.1, i)) _ _ (fun i s => s.2 = i)
          (fun i a s hi ha => by
            obtain ⟨d1, d2, d3, d4⟩ := idx ha (by omega)
            have hb : lE f t s.1 i = some (if t ≤ a.At then .inr (s.1, ((s.2 : Nat) : Int)) else .inl (IntKind.i64.wrap (s.1 + a.Net), ((i + 1 : Nat) : Int))) := by
              simp only [lE, d1, Bool.true_and, d3, d4]
              rw [aQ (fun _ => d2), aQ d2, hi]
              by_cases h : t ≤ a.At
              · have : decide (a.At < t) = false := by simp; omega
                simp [h, this]
              · have : decide (a.At < t) = true := by simp; omega
                simp [h, this]
            by_cases hh : t ≤ a.At
            · refine ⟨fun s' hs => by simp [hh] at hs, fun x hs => ?_⟩
              simp [hh] at hs; subst hs
              show lE f t s.1 i = _
              rw [hb, if_pos hh]
            · refine ⟨fun s' hs => ?_, fun x hs => by simp [hh] at hs⟩
              simp [hh] at hs; subst hs
              refine ⟨by simp [hi], ?_⟩
              show lE f t s.1 i = _
              rw [hb, if_neg hh])
          (fun s hi => by
            show lE f t s.1 (f.length : Nat) = _
            simp only [lE, lY, Bool.false_and, cond_false]
            rw [aQ (fun h => by cases h), hi]) (s := (0, 0)) rfl (XQ (t := t) f (-2) 0 0 hr (by omega) (by omega) hl)
        rw [key]
        have hlen := OF t f
        have hal : (aft t f).length ≤ f.length := by
          have := congrArg List.length (wN t f)
          simp only [List.length_append] at this
          omega
        have hto : ∀ n : Nat, Int.toNat (n : Int) = n := fun n => Int.toNat_natCast n
        simp only [Option.bind_some, Nat.zero_add, Int.zero_add, sG, sS, vS, hto, VX, ZN]
        by_cases hv : pP (jM t f) = 0
        · simp only [hv, decide_true, Bool.not_true, cond_false, if_true, List.nil_append]
          rw [aQ ⟨by omega, by omega⟩, aQ (by simp only [List.length_nil]; omega)]
        · simp only [hv, decide_false, Bool.not_false, cond_true, if_false]
          rw [aQ (by simp), aQ ⟨by omega, by omega⟩, aQ (by simp only [List.length_cons, List.length_nil]; omega)]

end Go.Abs
namespace Go.Abs
open Go
def Up (last : Int) : List aB → Prop
  | [] => True
  | j :: r => (last < j.At ∧ j.At < 1125899906842624 ∧ j.Net ≠ 0) ∧ Up j.At r

theorem Up.above : ∀ {f : List aB} {last : Int}, Up last f → ∀ j ∈ f, last < j.At ∧ j.At < 1125899906842624 ∧ j.Net ≠ 0
  | [], _, _, j, hj => by simp at hj
  | a :: r, last, h, j, hj => by
    rcases List.mem_cons.1 hj with rfl | hj
    · exact h.1
    · have := h.2.above j hj
      have h1 := h.1.1
      exact ⟨by omega, this.2⟩

theorem Up.xP {l t : Int} {f : List aB} (h : Up l f) (ht : t ≤ l) : val f t = 0 := oT fun j hj => by have := (h.above j hj).1; omega

end Go.Abs
