/- What the law HopSettles stands on: the framework, the given functions as plain functions, their walks, and the plain laws; part 4. -/
import Derived.Test.YteecjdpicjpnfaaHopSettlesZ3
set_option linter.unusedSimpArgs false
set_option linter.unusedVariables false
namespace Go.Abs
open Go Go.RowKit Go.Proofs
theorem uE (lo0p : Nat) (aA : (List Int)) (a1 : Int) (b2 : Int) (r : List Int) (h0 : gL aA a1 b2 = some r) : mV Try.prog 80 lo0p 1 (List.map (eI) aA) (List.map (eI) r) [(.msl 1 lo0p 0 (List.length aA)), (eI a1), (eI b2)] (.tup []) := by
  intro H0 hl0
  refine dF Try.func80 ?_
  have hO := aK.rI hl0
  clear hl0
  obtain ⟨N0, hN0⟩ : ∃ n, n = List.length aA := ⟨_, rfl⟩
  have hN : List.length aA = N0 := hN0.symm
  unfold gL at h0
  refine aW aD 4 [2] [(6, (eI (wR (b2 - a1))))] ?_
  refine aW aD 2 [] [(15, (aC (decide ((8 : Int) ≤ (wR (b2 - a1))))))] ?_
  refine bO h0 (fun h0 => ?_) (fun h0 => ?_)
  · refine aN ?_
    refine aU aD 4 ?_
    refine bK 2 ?_
    refine jN 1 (cQ .u64 0) (by kernel_rfl) (by kernel_rfl) hO ?_
    intro lo2 H hO
    refine fS 1 lo2 1 0 (cQ .u64 0) (cQ .u64 (IntKind.u64.wrap (wR (b2 - a1)))) [(cQ .u64 0)] [(lo0p, 1, List.map (eI) aA), (lo2, 1, [(cQ .u64 (IntKind.u64.wrap (wR (b2 - a1))))])] hO rfl (by kernel_rfl) ?_
    intro H hO
    refine dJ ?_
    refine bT [15] [(7, (.lp lo2 0 0))] ?_
    refine aN ?_
    refine aU aD 3 ?_
    refine bK 1 ?_
    obtain ⟨x3, hx4, h0⟩ := aV h0
    refine dU (zY (wR (b2 - a1)) _ hx4) hO ?_
    intro H hO
    refine bA ?_
    refine bT [] [(8, (cQ .u64 x3))] ?_
    refine aN ?_
    refine aU aD 7 ?_
    obtain ⟨c6, h0⟩ := aZ h0
    refine sW [(4 : Int) ≠ 0] ⟨c6, trivial⟩ ?_
    refine bB [(0, (.msl 1 lo0p 0 (List.length aA))), (1, (eI a1)), (6, (eI (wR (b2 - a1)))), (7, (.lp lo2 0 0)), (8, (cQ .u64 x3)), (9, (eI (wR ((wR (a1 + (wR ((wR (Int.tdiv (wR (b2 - a1)) (4 : Int))) * (2 : Int))))) - (1 : Int)))))] ?_
    refine cB 0 ?_
    refine fH [(0, (.msl 1 lo0p 0 (List.length aA))), (1, (eI a1)), (6, (eI (wR (b2 - a1)))), (7, (.lp lo2 0 0)), (8, (cQ .u64 x3)), (9, (eI (wR ((wR (a1 + (wR ((wR (Int.tdiv (wR (b2 - a1)) (4 : Int))) * (2 : Int))))) - (1 : Int)))))] ?_
    refine fI (fun T H => ∃ aA : List Int, ∃ jS : Int, ∃ kZ : Int, ∃ iN : Int, ∃ idx9 : Int, Has T [(0, (.msl 1 lo0p 0 (List.length aA))), (1, (eI a1)), (6, (eI jS)), (7, (.lp lo2 0 0)), (8, (cQ .u64 iN)), (9, (eI idx9))] ∧ aK ⟨H0, [lo0p], []⟩ H [(lo0p, 1, List.map (eI) aA), (lo2, 1, [(cQ .u64 kZ)])] ∧ List.length aA = N0 ∧ iZ aA a1 jS kZ iN idx9 = some r) ?_ ⟨aA, wR (b2 - a1), IntKind.u64.wrap (wR (b2 - a1)), x3, wR ((wR (a1 + (wR ((wR (Int.tdiv (wR (b2 - a1)) (4 : Int))) * (2 : Int))))) - (1 : Int)), .eq (by kernel_rfl), hO, hN, h0⟩
    clear hO hN h0
    rintro T H ⟨aA, jS, kZ, iN, idx9, hT, hO, hN, h0⟩
    refine bH hT ?_
    clear hT
    unfold iZ at h0
    obtain ⟨rr0, hl0, h0⟩ := aV h0
    refine dM (by kernel_rfl) (fun (s : List Int × Int × Int) T H => Has T [(0, (.msl 1 lo0p 0 (List.length s.1))), (1, (eI a1)), (6, (eI jS)), (7, (.lp lo2 0 0)), (8, (cQ .u64 iN)), (9, (eI s.2.2))] ∧ aK ⟨H0, [lo0p], []⟩ H [(lo0p, 1, List.map (eI) s.1), (lo2, 1, [(cQ .u64 s.2.1)])] ∧ List.length s.1 = N0) hl0 ⟨.eq (by kernel_rfl), hO, hN⟩ ?_
    clear hO hN
    rintro k0 s out1 T H ⟨hT, hO, hN⟩ h1 ho0
    obtain ⟨aA, kZ, idx9⟩ := s
    replace h1 : cR a1 jS iN aA kZ idx9 = some out1 := h1
    try dsimp only at hT
    refine bH hT ?_
    clear hT
    unfold cR at h1
    refine aN ?_
    refine aN ?_
    refine aU aD 8 ?_
    obtain ⟨c7, h1⟩ := aZ h1
    refine sW [(4 : Int) ≠ 0] ⟨c7, trivial⟩ ?_
    refine bT [] [(33, (aC (decide (idx9 ≤ (wR ((wR (a1 + (wR ((wR (Int.tdiv jS (4 : Int))) * (2 : Int))))) + (1 : Int)))))))] ?_
    refine bO h1 (fun h1 => ?_) (fun h1 => ?_)
    · refine bQ ?_
      refine bB [(0, (.msl 1 lo0p 0 (List.length aA))), (1, (eI a1)), (6, (eI jS)), (7, (.lp lo2 0 0)), (8, (cQ .u64 iN)), (9, (eI idx9))] ?_
      refine aN ?_
      refine cB 1 ?_
      refine aN ?_
      refine aU aD 6 ?_
      obtain ⟨x9, hx10, h1⟩ := aV h1
      refine AS [(lo0p, 1, List.map (eI) aA)] [1, 0] (AV lo2 kZ _ hx10) hO ?_
      intro r11 L12 H hP13 hO
      obtain ⟨rfl, rfl⟩ := hP13
      replace hO : aK ⟨H0, [lo0p], []⟩ H [(lo2, 1, [(cQ .u64 x9.2)]), (lo0p, 1, List.map (eI) aA)] := hO
      refine bA ?_
      replace hO := hO.pick (L' := [(lo0p, 1, List.map (eI) aA), (lo2, 1, [(cQ .u64 x9.2)])]) [1, 0] (by decide) (by kernel_rfl)
      refine bT [] [(10, (eI (wR (bM .and .u64 x9.1 (IntKind.u64.wrap (iN - (1 : Int)))))))] ?_
      refine gX (fun T H => ∃ aA : List Int, ∃ kZ : Int, ∃ fF : Int, Has T [(0, (.msl 1 lo0p 0 (List.length aA))), (1, (eI a1)), (6, (eI jS)), (7, (.lp lo2 0 0)), (8, (cQ .u64 iN)), (9, (eI idx9)), (10, (eI fF))] ∧ aK ⟨H0, [lo0p], []⟩ H [(lo0p, 1, List.map (eI) aA), (lo2, 1, [(cQ .u64 kZ)])] ∧ List.length aA = N0 ∧ eS aA a1 jS kZ iN idx9 fF = some out1) ?_ ?_
      · clear hO hN h1
        rintro T H ⟨aA, kZ, fF, hT, hO, hN, h1⟩
        refine bH hT ?_
        clear hT
        unfold eS at h1
        refine fX (gC []) aD 20 ?_
        obtain ⟨c14, h1⟩ := aZ h1
        refine cD 11 [0 ≤ (wR (a1 + fF)) ∧ (wR (a1 + fF)) < (lN aA)] ⟨c14, trivial⟩ ?_
        refine gZ 0 lo0p 1 (0 + Int.toNat (wR (a1 + fF))) (eI (gD aA (wR (a1 + fF)))) (eI (gD aA (wR (a1 + fF)))) (List.map (eI) aA) hO (bV c14) ?_
        obtain ⟨c15, h1⟩ := aZ h1
        refine cD 15 [0 ≤ idx9 ∧ idx9 < (lN aA)] ⟨c15, trivial⟩ ?_
        refine gZ 0 lo0p 1 (0 + Int.toNat idx9) (eI (gD aA idx9)) (eI (gD aA idx9)) (List.map (eI) aA) hO (bV c15) ?_
        obtain ⟨c16, h1⟩ := aZ h1
        refine cD 17 [0 ≤ idx9 ∧ idx9 < (lN aA)] ⟨c16, trivial⟩ ?_
        refine kO 0 lo0p 1 (0 + Int.toNat idx9) (eI (gD aA idx9)) (eI (gD aA (wR (a1 + fF)))) (List.map (eI) aA) [(lo0p, 1, List.map (eI) (List.set aA (Int.toNat idx9) (gD aA (wR (a1 + fF))))), (lo2, 1, [(cQ .u64 kZ)])] hO (bV c16) (by simp only [List.set, iA]) ?_
        intro H hO
        replace hN : List.length (List.set aA (Int.toNat idx9) (gD aA (wR (a1 + fF)))) = N0 := by simpa using hN
        obtain ⟨c17, h1⟩ := aZ h1
        refine cD 19 [0 ≤ (wR (a1 + fF)) ∧ (wR (a1 + fF)) < (lN aA)] ⟨c17, trivial⟩ ?_
        refine kO 0 lo0p 1 (0 + Int.toNat (wR (a1 + fF))) (eI (gD (List.set aA (Int.toNat idx9) (gD aA (wR (a1 + fF)))) (wR (a1 + fF)))) (eI (gD aA idx9)) (List.map (eI) (List.set aA (Int.toNat idx9) (gD aA (wR (a1 + fF))))) [(lo0p, 1, List.map (eI) (List.set (List.set aA (Int.toNat idx9) (gD aA (wR (a1 + fF)))) (Int.toNat (wR (a1 + fF))) (gD aA idx9))), (lo2, 1, [(cQ .u64 kZ)])] hO (mJ c17 (by simp [])) (by simp only [List.set, iA]) ?_
        intro H hO
        replace hN : List.length (List.set (List.set aA (Int.toNat idx9) (gD aA (wR (a1 + fF)))) (Int.toNat (wR (a1 + fF))) (gD aA idx9)) = N0 := by simpa using hN
        refine mZ (by kernel_rfl) ?_
        refine eB (l := [(0, (.msl 1 lo0p 0 (List.length (List.set (List.set aA (Int.toNat idx9) (gD aA (wR (a1 + fF)))) (Int.toNat (wR (a1 + fF))) (gD aA idx9))))), (1, (eI a1)), (6, (eI jS)), (7, (.lp lo2 0 0)), (8, (cQ .u64 iN)), (9, (eI idx9))]) ⟨[(0, (.msl 1 lo0p 0 (List.length aA))), (1, (eI a1)), (6, (eI jS)), (7, (.lp lo2 0 0)), (8, (cQ .u64 iN)), (9, (eI idx9))], by kernel_rfl, rfl, ⟨aO.eq (by simp []), aO.refl _, aO.refl _, aO.refl _, aO.refl _, aO.refl _, trivial⟩⟩ ?_
        refine aG (aY (aH (?_)))
        refine aU aD 3 ?_
        refine bA ?_
        exact aG (aH (⟨rfl, _, (oI h1).symm, .eq (by kernel_rfl), hO, hN⟩))
      refine aW aD 3 [] [(43, (aC (decide (jS ≤ (wR (bM .and .u64 x9.1 (IntKind.u64.wrap (iN - (1 : Int)))))))))] ?_
      refine bO h1 (fun h1 => ?_) (fun h1 => ?_)
      · refine aU aD 4 ?_
        refine bA ?_
        exact aG (aH (⟨rfl, _, _, _, .eq (by kernel_rfl), hO, hN, h1⟩))
      refine bQ ?_
      exact aG (aH (⟨rfl, _, _, _, .eq (by kernel_rfl), hO, hN, h1⟩))
    refine iJ 0 ?_
    replace hO := hO.pick (L' := [(lo0p, 1, List.map (eI) aA)]) [0] (by decide) (by kernel_rfl)
    obtain rfl := oI h1
    obtain rfl : _ = rr0 := ho0
    replace h0 : some aA = some r := h0
    obtain rfl := oI h0
    exact aG (aX (aX (bX (wD (x := (.tup [])) (by kernel_rfl) (aO.refl _) ⟨rfl, hO.ext, hO.at 0 (by kernel_rfl), by first | rfl | (simp only [List.length_map]; exact hN.trans hN0)⟩))))
  refine bQ ?_
  obtain rfl := oI h0
  exact aG (wD (x := (.tup [])) (by kernel_rfl) (aO.refl _) ⟨rfl, hO.ext, hO.at 0 (by kernel_rfl), by first | rfl | (simp only [List.length_map]; exact hN.trans hN0)⟩)

theorem nK (lo0p : Nat) (aA : (List Int)) (a1 : Int) (b2 : Int) (lo3p : Nat) (qZ : Int) (r : ((Int × Int) × Int)) (h0 : fQ aA a1 b2 qZ = some r) : yH Try.prog 109 [(.msl 1 lo0p 0 (List.length aA)), (eI a1), (eI b2), (.lp lo3p 0 0)] [(lo0p, 1, List.map (eI) aA), (lo3p, 1, [(eI qZ)])] (fun x L => x = (.tup [(eI r.1.1), (eI r.1.2)]) ∧ L = [(lo0p, 1, List.map (eI) aA), (lo3p, 1, [(eI r.2)])]) := by
  intro F H0 hO
  obtain ⟨Fh, Fe, Fg⟩ := F
  refine dF Try.func109 ?_
  unfold fQ at h0
  refine aW aD 2 [] [] ?_
  refine aN ?_
  refine aN ?_
  refine fX (gC [18]) aD 9 ?_
  obtain ⟨c1, h0⟩ := aZ h0
  refine cD 3 [0 ≤ b2 ∧ b2 < (lN aA)] ⟨c1, trivial⟩ ?_
  refine gZ 0 lo0p 1 (0 + Int.toNat b2) (eI (gD aA b2)) (eI (gD aA b2)) (List.map (eI) aA) hO (bV c1) ?_
  obtain ⟨c2, h0⟩ := aZ h0
  refine cD 7 [0 ≤ a1 ∧ a1 < (lN aA)] ⟨c2, trivial⟩ ?_
  refine gZ 0 lo0p 1 (0 + Int.toNat a1) (eI (gD aA a1)) (eI (gD aA a1)) (List.map (eI) aA) hO (bV c2) ?_
  obtain ⟨x3, hx4, h0⟩ := aV h0
  refine yY (fL (gD aA b2) (gD aA a1) _ hx4) hO ?_
  intro H hO
  refine mZ (by kernel_rfl) ?_
  refine bT [] [(18, (aC x3))] ?_
  refine bO h0 (fun h0 => ?_) (fun h0 => ?_)
  · refine aN ?_
    refine aU aD 6 ?_
    refine bK 2 ?_
    refine lS 1 lo3p 1 0 (eI qZ) (eI qZ) [(eI qZ)] hO rfl ?_
    refine bK 5 ?_
    refine fS 1 lo3p 1 0 (eI qZ) (eI (wR (qZ + (1 : Int)))) [(eI qZ)] [(lo0p, 1, List.map (eI) aA), (lo3p, 1, [(eI (wR (qZ + (1 : Int))))])] hO rfl (by kernel_rfl) ?_
    intro H hO
    refine dJ ?_
    refine bT [18] [] ?_
    refine aW aD 4 [1, 2] [(8, (eI b2)), (9, (eI a1))] ?_
    refine bI ?_
    obtain rfl := oI h0
    exact aG (aT (EG hO ⟨rfl, rfl⟩))
  refine bQ ?_
  refine bB [(0, (.msl 1 lo0p 0 (List.length aA))), (1, (eI a1)), (2, (eI b2)), (3, (.lp lo3p 0 0))] ?_
  refine aW aD 4 [1, 2] [(8, (eI a1)), (9, (eI b2))] ?_
  refine bI ?_
  obtain rfl := oI h0
  exact aG (EG hO ⟨rfl, rfl⟩)

theorem rK (lo0p : Nat) (aA : (List Int)) (a1 : Int) (b2 : Int) (c3 : Int) (lo4p : Nat) (EY : Int) (r : (Int × Int)) (h0 : iG aA a1 b2 c3 EY = some r) : yH Try.prog 104 [(.msl 1 lo0p 0 (List.length aA)), (eI a1), (eI b2), (eI c3), (.lp lo4p 0 0)] [(lo0p, 1, List.map (eI) aA), (lo4p, 1, [(eI EY)])] (fun x L => x = (eI r.1) ∧ L = [(lo0p, 1, List.map (eI) aA), (lo4p, 1, [(eI r.2)])]) := by
  intro F H0 hO
  obtain ⟨Fh, Fe, Fg⟩ := F
  refine dF Try.func104 ?_
  unfold iG at h0
  refine aW aD 1 [] [] ?_
  refine aN ?_
  refine aU aD 10 ?_
  refine bK 4 ?_
  obtain ⟨x1, hx2, h0⟩ := aV h0
  refine AS [] [0, 1] (nK lo0p aA a1 b2 lo4p EY _ hx2) hO ?_
  intro r3 L4 H hP5 hO
  obtain ⟨rfl, rfl⟩ := hP5
  replace hO : aK ⟨Fh, Fe, Fg⟩ H [(lo0p, 1, List.map (eI) aA), (lo4p, 1, [(eI x1.2)])] := hO
  refine bA ?_
  refine bT [1, 2] [(1, (eI x1.1.1)), (2, (eI x1.1.2))] ?_
  refine aN ?_
  refine aU aD 10 ?_
  refine bK 4 ?_
  obtain ⟨x6, hx7, h0⟩ := aV h0
  refine AS [] [0, 1] (nK lo0p aA x1.1.2 c3 lo4p x1.2 _ hx7) hO ?_
  intro r8 L9 H hP10 hO
  obtain ⟨rfl, rfl⟩ := hP10
  replace hO : aK ⟨Fh, Fe, Fg⟩ H [(lo0p, 1, List.map (eI) aA), (lo4p, 1, [(eI x6.2)])] := hO
  refine bA ?_
  refine bT [2, 3] [(2, (eI x6.1.1))] ?_
  refine aN ?_
  refine aU aD 10 ?_
  refine bK 4 ?_
  obtain ⟨x11, hx12, h0⟩ := aV h0
  refine AS [] [0, 1] (nK lo0p aA x1.1.1 x6.1.1 lo4p x6.2 _ hx12) hO ?_
  intro r13 L14 H hP15 hO
  obtain ⟨rfl, rfl⟩ := hP15
  replace hO : aK ⟨Fh, Fe, Fg⟩ H [(lo0p, 1, List.map (eI) aA), (lo4p, 1, [(eI x11.2)])] := hO
  refine bA ?_
  refine bT [1, 2] [(2, (eI x11.1.2))] ?_
  refine cH aD 2 [(0, (.msl 1 lo0p 0 (List.length aA))), (4, (.lp lo4p 0 0)), (10, (eI x11.1.2))] ?_
  refine bI ?_
  obtain rfl := oI h0
  exact aG (EG hO ⟨rfl, rfl⟩)

theorem kW (lo0p : Nat) (aA : (List Int)) (a1 : Int) (lo2p : Nat) (DZ : Int) (r : (Int × Int)) (h0 : dR aA a1 DZ = some r) : yH Try.prog 103 [(.msl 1 lo0p 0 (List.length aA)), (eI a1), (.lp lo2p 0 0)] [(lo0p, 1, List.map (eI) aA), (lo2p, 1, [(eI DZ)])] (fun x L => x = (eI r.1) ∧ L = [(lo0p, 1, List.map (eI) aA), (lo2p, 1, [(eI r.2)])]) := by
  intro F H0 hO
  obtain ⟨Fh, Fe, Fg⟩ := F
  refine dF Try.func103 ?_
  unfold dR at h0
  refine aW aD 1 [] [] ?_
  refine aN ?_
  refine aU aD 9 ?_
  refine bK 7 ?_
  obtain ⟨x1, hx2, h0⟩ := aV h0
  refine AS [] [0, 1] (rK lo0p aA (wR (a1 - (1 : Int))) a1 (wR (a1 + (1 : Int))) lo2p DZ _ hx2) hO ?_
  intro r3 L4 H hP5 hO
  obtain ⟨rfl, rfl⟩ := hP5
  replace hO : aK ⟨Fh, Fe, Fg⟩ H [(lo0p, 1, List.map (eI) aA), (lo2p, 1, [(eI x1.2)])] := hO
  refine bA ?_
  refine bT [1] [(6, (eI x1.1))] ?_
  refine bI ?_
  obtain rfl := oI h0
  exact aG (EG hO ⟨rfl, rfl⟩)

theorem vD (lo0p : Nat) (aA : (List Int)) (a1 : Int) (b2 : Int) (r : (Int × Int)) (h0 : iB aA a1 b2 = some r) : yH Try.prog 81 [(.msl 1 lo0p 0 (List.length aA)), (eI a1), (eI b2)] [(lo0p, 1, List.map (eI) aA)] (fun x L => x = (.tup [(eI r.1), (eI r.2)]) ∧ L = [(lo0p, 1, List.map (eI) aA)]) := by
  intro F H0 hO
  obtain ⟨Fh, Fe, Fg⟩ := F
  refine dF Try.func81 ?_
  unfold iB at h0
  refine aW aD 2 [] [] ?_
  refine aW aD 4 [2] [(8, (eI (wR (b2 - a1))))] ?_
  refine aN ?_
  refine aU aD 1 ?_
  refine jN 1 (eI 0) (by kernel_rfl) (by kernel_rfl) hO ?_
  intro lo1 H hO
  refine dJ ?_
  refine bT [] [(9, (.lp lo1 0 0))] ?_
  refine aN ?_
  refine aU aD 6 ?_
  obtain ⟨c2, h0⟩ := aZ h0
  refine sW [(4 : Int) ≠ 0] ⟨c2, trivial⟩ ?_
  refine bT [] [(10, (eI (wR (a1 + (wR ((wR (Int.tdiv (wR (b2 - a1)) (4 : Int))) * (1 : Int)))))))] ?_
  refine aN ?_
  refine aU aD 6 ?_
  obtain ⟨c3, h0⟩ := aZ h0
  refine sW [(4 : Int) ≠ 0] ⟨c3, trivial⟩ ?_
  refine bB [(0, (.msl 1 lo0p 0 (List.length aA))), (1, (eI a1)), (8, (eI (wR (b2 - a1)))), (9, (.lp lo1 0 0)), (10, (eI (wR (a1 + (wR ((wR (Int.tdiv (wR (b2 - a1)) (4 : Int))) * (1 : Int))))))), (11, (eI (wR (a1 + (wR ((wR (Int.tdiv (wR (b2 - a1)) (4 : Int))) * (2 : Int)))))))] ?_
  refine aN ?_
  refine aU aD 6 ?_
  obtain ⟨c4, h0⟩ := aZ h0
  refine sW [(4 : Int) ≠ 0] ⟨c4, trivial⟩ ?_
  refine bT [1] [(12, (eI (wR (a1 + (wR ((wR (Int.tdiv (wR (b2 - a1)) (4 : Int))) * (3 : Int)))))))] ?_
  refine gX (fun T H => ∃ lY : Int, ∃ j11 : Int, Has T [(0, (.msl 1 lo0p 0 (List.length aA))), (9, (.lp lo1 0 0)), (11, (eI j11))] ∧ aK ⟨Fh, Fe, Fg⟩ H [(lo0p, 1, List.map (eI) aA), (lo1, 1, [(eI lY)])] ∧ eZ aA lY j11 = some r) ?_ ?_
  · clear hO h0
    rintro T H ⟨lY, j11, hT, hO, h0⟩
    refine bH hT ?_
    clear hT
    unfold eZ at h0
    refine aN ?_
    refine aU aD 1 ?_
    refine lS 1 lo1 1 0 (eI lY) (eI lY) [(eI lY)] hO rfl ?_
    refine dJ ?_
    replace hO := hO.pick (L' := [(lo0p, 1, List.map (eI) aA)]) [0] (by decide) (by kernel_rfl)
    refine bT [9] [(49, (eI lY))] ?_
    refine cB 0 ?_
    refine aW aD 2 [] [(51, (aC (decide (lY = (0 : Int)))))] ?_
    refine bO h0 (fun h0 => ?_) (fun h0 => ?_)
    · refine aW aD 3 [11, 49, 51] [(6, (eI j11)), (7, (eI (1 : Int)))] ?_
      refine bI ?_
      obtain rfl := oI h0
      exact aG (bF (EG hO ⟨rfl, rfl⟩))
    refine aW aD 2 [49, 51] [(54, (aC (decide (lY = (12 : Int)))))] ?_
    refine bO h0 (fun h0 => ?_) (fun h0 => ?_)
    · refine aW aD 3 [11, 54] [(6, (eI j11)), (7, (eI (2 : Int)))] ?_
      refine bI ?_
      obtain rfl := oI h0
      exact aG (bF (EG hO ⟨rfl, rfl⟩))
    refine aW aD 3 [11, 54] [(6, (eI j11)), (7, (eI (0 : Int)))] ?_
    refine bI ?_
    obtain rfl := oI h0
    exact aG (bF (EG hO ⟨rfl, rfl⟩))
  refine aW aD 2 [] [(32, (aC (decide ((8 : Int) ≤ (wR (b2 - a1))))))] ?_
  refine bO h0 (fun h0 => ?_) (fun h0 => ?_)
  · refine gX (fun T H => ∃ lY : Int, ∃ i10 : Int, ∃ j11 : Int, ∃ k12 : Int, Has T [(0, (.msl 1 lo0p 0 (List.length aA))), (9, (.lp lo1 0 0)), (10, (eI i10)), (11, (eI j11)), (12, (eI k12))] ∧ aK ⟨Fh, Fe, Fg⟩ H [(lo0p, 1, List.map (eI) aA), (lo1, 1, [(eI lY)])] ∧ fA aA lY i10 j11 k12 = some r) ?_ ?_
    · clear hO h0
      rintro T H ⟨lY, i10, j11, k12, hT, hO, h0⟩
      refine bH hT ?_
      clear hT
      unfold fA at h0
      refine aU aD 6 ?_
      refine bK 4 ?_
      obtain ⟨x8, hx9, h0⟩ := aV h0
      refine AS [] [0, 1] (rK lo0p aA i10 j11 k12 lo1 lY _ hx9) hO ?_
      intro r10 L11 H hP12 hO
      obtain ⟨rfl, rfl⟩ := hP12
      replace hO : aK ⟨Fh, Fe, Fg⟩ H [(lo0p, 1, List.map (eI) aA), (lo1, 1, [(eI x8.2)])] := hO
      refine bA ?_
      exact aG (aH (⟨rfl, _, _, .eq (by kernel_rfl), hO, h0⟩))
    refine aW aD 2 [8, 32] [(34, (aC (decide ((50 : Int) ≤ (wR (b2 - a1))))))] ?_
    refine bO h0 (fun h0 => ?_) (fun h0 => ?_)
    · refine aN ?_
      refine aU aD 4 ?_
      refine bK 2 ?_
      obtain ⟨x14, hx15, h0⟩ := aV h0
      refine AS [] [0, 1] (kW lo0p aA (wR (a1 + (wR ((wR (Int.tdiv (wR (b2 - a1)) (4 : Int))) * (1 : Int))))) lo1 0 _ hx15) hO ?_
      intro r16 L17 H hP18 hO
      obtain ⟨rfl, rfl⟩ := hP18
      replace hO : aK ⟨Fh, Fe, Fg⟩ H [(lo0p, 1, List.map (eI) aA), (lo1, 1, [(eI x14.2)])] := hO
      refine bA ?_
      refine bT [10, 34] [(10, (eI x14.1))] ?_
      refine aN ?_
      refine aU aD 4 ?_
      refine bK 2 ?_
      obtain ⟨x19, hx20, h0⟩ := aV h0
      refine AS [] [0, 1] (kW lo0p aA (wR (a1 + (wR ((wR (Int.tdiv (wR (b2 - a1)) (4 : Int))) * (2 : Int))))) lo1 x14.2 _ hx20) hO ?_
      intro r21 L22 H hP23 hO
      obtain ⟨rfl, rfl⟩ := hP23
      replace hO : aK ⟨Fh, Fe, Fg⟩ H [(lo0p, 1, List.map (eI) aA), (lo1, 1, [(eI x19.2)])] := hO
      refine bA ?_
      refine bB [(0, (.msl 1 lo0p 0 (List.length aA))), (9, (.lp lo1 0 0)), (10, (eI x14.1)), (11, (eI x19.1)), (12, (eI (wR (a1 + (wR ((wR (Int.tdiv (wR (b2 - a1)) (4 : Int))) * (3 : Int)))))))] ?_
      refine aU aD 4 ?_
      refine bK 2 ?_
      obtain ⟨x24, hx25, h0⟩ := aV h0
      refine AS [] [0, 1] (kW lo0p aA (wR (a1 + (wR ((wR (Int.tdiv (wR (b2 - a1)) (4 : Int))) * (3 : Int))))) lo1 x19.2 _ hx25) hO ?_
      intro r26 L27 H hP28 hO
      obtain ⟨rfl, rfl⟩ := hP28
      replace hO : aK ⟨Fh, Fe, Fg⟩ H [(lo0p, 1, List.map (eI) aA), (lo1, 1, [(eI x24.2)])] := hO
      refine bA ?_
      exact aG (aH (⟨rfl, _, _, _, _, .eq (by kernel_rfl), hO, h0⟩))
    refine bQ ?_
    exact aG (aH (⟨rfl, _, _, _, _, .eq (by kernel_rfl), hO, h0⟩))
  refine bQ ?_
  exact aG (aH (⟨rfl, _, _, .eq (by kernel_rfl), hO, h0⟩))

theorem uT (lo0p : Nat) (aA : (List Int)) (a1 : Int) (b2 : Int) (r : List Int) (h0 : gY aA a1 b2 = some r) : mV Try.prog 82 lo0p 1 (List.map (eI) aA) (List.map (eI) r) [(.msl 1 lo0p 0 (List.length aA)), (eI a1), (eI b2)] (.tup []) := by
  intro H0 hl0
  refine dF Try.func82 ?_
  have hO := aK.rI hl0
  clear hl0
  obtain ⟨N0, hN0⟩ : ∃ n, n = List.length aA := ⟨_, rfl⟩
  have hN : List.length aA = N0 := hN0.symm
  unfold gY at h0
  refine aW aD 2 [1] [(6, (eI a1))] ?_
  refine aW aD 3 [2] [(7, (eI (wR (b2 - (1 : Int)))))] ?_
  refine cB 0 ?_
  refine fH [(0, (.msl 1 lo0p 0 (List.length aA))), (6, (eI a1)), (7, (eI (wR (b2 - (1 : Int)))))] ?_
  refine fI (fun T H => ∃ aA : List Int, ∃ i6 : Int, ∃ j7 : Int, Has T [(0, (.msl 1 lo0p 0 (List.length aA))), (6, (eI i6)), (7, (eI j7))] ∧ aK ⟨H0, [lo0p], []⟩ H [(lo0p, 1, List.map (eI) aA)] ∧ List.length aA = N0 ∧ jG aA i6 j7 = some r) ?_ ⟨aA, a1, wR (b2 - (1 : Int)), .eq (by kernel_rfl), hO, hN, h0⟩
  clear hO hN h0
  rintro T H ⟨aA, i6, j7, hT, hO, hN, h0⟩
  refine bH hT ?_
  clear hT
  unfold jG at h0
  obtain ⟨rr0, hl0, h0⟩ := aV h0
  refine dM (by kernel_rfl) (fun (s : List Int × Int × Int) T H => Has T [(0, (.msl 1 lo0p 0 (List.length s.1))), (6, (eI s.2.1)), (7, (eI s.2.2))] ∧ aK ⟨H0, [lo0p], []⟩ H [(lo0p, 1, List.map (eI) s.1)] ∧ List.length s.1 = N0) hl0 ⟨.eq (by kernel_rfl), hO, hN⟩ ?_
  clear hO hN
  rintro k0 s out1 T H ⟨hT, hO, hN⟩ h1 ho0
  obtain ⟨aA, i6, j7⟩ := s
  replace h1 : dB aA i6 j7 = some out1 := h1
  try dsimp only at hT
  refine bH hT ?_
  clear hT
  unfold dB at h1
  refine aN ?_
  refine aW aD 3 [] [(13, (aC (decide (i6 < j7))))] ?_
  refine bO h1 (fun h1 => ?_) (fun h1 => ?_)
  · refine bQ ?_
    refine bB [(0, (.msl 1 lo0p 0 (List.length aA))), (6, (eI i6)), (7, (eI j7))] ?_
    refine cB 1 ?_
    refine aN ?_
    refine fX (gC []) aD 16 ?_
    obtain ⟨c2, h1⟩ := aZ h1
    refine cD 7 [0 ≤ j7 ∧ j7 < (lN aA)] ⟨c2, trivial⟩ ?_
    refine gZ 0 lo0p 1 (0 + Int.toNat j7) (eI (gD aA j7)) (eI (gD aA j7)) (List.map (eI) aA) hO (bV c2) ?_
    obtain ⟨c3, h1⟩ := aZ h1
    refine cD 11 [0 ≤ i6 ∧ i6 < (lN aA)] ⟨c3, trivial⟩ ?_
    refine gZ 0 lo0p 1 (0 + Int.toNat i6) (eI (gD aA i6)) (eI (gD aA i6)) (List.map (eI) aA) hO (bV c3) ?_
    obtain ⟨c4, h1⟩ := aZ h1
    refine cD 13 [0 ≤ i6 ∧ i6 < (lN aA)] ⟨c4, trivial⟩ ?_
    refine kO 0 lo0p 1 (0 + Int.toNat i6) (eI (gD aA i6)) (eI (gD aA j7)) (List.map (eI) aA) [(lo0p, 1, List.map (eI) (List.set aA (Int.toNat i6) (gD aA j7)))] hO (bV c4) (by simp only [List.set, iA]) ?_
    intro H hO
    replace hN : List.length (List.set aA (Int.toNat i6) (gD aA j7)) = N0 := by simpa using hN
    obtain ⟨c5, h1⟩ := aZ h1
    refine cD 15 [0 ≤ j7 ∧ j7 < (lN aA)] ⟨c5, trivial⟩ ?_
    refine kO 0 lo0p 1 (0 + Int.toNat j7) (eI (gD (List.set aA (Int.toNat i6) (gD aA j7)) j7)) (eI (gD aA i6)) (List.map (eI) (List.set aA (Int.toNat i6) (gD aA j7))) [(lo0p, 1, List.map (eI) (List.set (List.set aA (Int.toNat i6) (gD aA j7)) (Int.toNat j7) (gD aA i6)))] hO (mJ c5 (by simp [])) (by simp only [List.set, iA]) ?_
    intro H hO
    replace hN : List.length (List.set (List.set aA (Int.toNat i6) (gD aA j7)) (Int.toNat j7) (gD aA i6)) = N0 := by simpa using hN
    refine mZ (by kernel_rfl) ?_
    refine eB (l := [(0, (.msl 1 lo0p 0 (List.length (List.set (List.set aA (Int.toNat i6) (gD aA j7)) (Int.toNat j7) (gD aA i6))))), (6, (eI i6)), (7, (eI j7))]) ⟨[(0, (.msl 1 lo0p 0 (List.length aA))), (6, (eI i6)), (7, (eI j7))], by kernel_rfl, rfl, ⟨aO.eq (by simp []), aO.refl _, aO.refl _, trivial⟩⟩ ?_
    refine aG (aH (?_))
    refine aW aD 3 [6] [(6, (eI (wR (i6 + (1 : Int)))))] ?_
    refine aU aD 3 ?_
    refine bA ?_
    exact aG (aY (aH (⟨rfl, _, (oI h1).symm, .eq (by kernel_rfl), hO, hN⟩)))
  refine iJ 0 ?_
  obtain rfl := oI h1
  obtain rfl : _ = rr0 := ho0
  replace h0 : some aA = some r := h0
  obtain rfl := oI h0
  exact aG (aX (aX (bX (wD (x := (.tup [])) (by kernel_rfl) (aO.refl _) ⟨rfl, hO.ext, hO.at 0 (by kernel_rfl), by first | rfl | (simp only [List.length_map]; exact hN.trans hN0)⟩))))

theorem qR (lo0p : Nat) (aA : (List Int)) (a1 : Int) (b2 : Int) (r : (Bool × List Int)) (h0 : eH aA a1 b2 = some r) : mV Try.prog 83 lo0p 1 (List.map (eI) aA) (List.map (eI) r.2) [(.msl 1 lo0p 0 (List.length aA)), (eI a1), (eI b2)] (aC r.1) := by
  intro H0 hl0
  refine dF Try.func83 ?_
  have hO := aK.rI hl0
  clear hl0
  obtain ⟨N0, hN0⟩ : ∃ n, n = List.length aA := ⟨_, rfl⟩
  have hN : List.length aA = N0 := hN0.symm
  unfold eH at h0
  refine aW aD 1 [] [] ?_
  refine aW aD 3 [] [(7, (eI (wR (a1 + (1 : Int)))))] ?_
  refine gX (fun T H => ∃ aA : List Int, Has T [(0, (.msl 1 lo0p 0 (List.length aA)))] ∧ aK ⟨H0, [lo0p], []⟩ H [(lo0p, 1, List.map (eI) aA)] ∧ List.length aA = N0 ∧ eF aA = some r) ?_ ?_
  · clear hO hN h0
    rintro T H ⟨aA, hT, hO, hN, h0⟩
    refine bH hT ?_
    clear hT
    unfold eF at h0
    refine aW aD 1 [] [(6, (aC false))] ?_
    refine bI ?_
    obtain rfl := oI h0
    exact aG (kY (x := (aC false)) (by kernel_rfl) (aO.refl _) ⟨rfl, hO.ext, hO.at 0 (by kernel_rfl), by first | rfl | (simp only [List.length_map]; exact hN.trans hN0)⟩)
  refine aW aD 1 [] [(8, (eI (0 : Int)))] ?_
  refine cB 0 ?_
  refine fH [(0, (.msl 1 lo0p 0 (List.length aA))), (1, (eI a1)), (2, (eI b2)), (7, (eI (wR (a1 + (1 : Int))))), (8, (eI (0 : Int)))] ?_
  refine fI (fun T H => ∃ aA : List Int, ∃ i7 : Int, ∃ j8 : Int, Has T [(0, (.msl 1 lo0p 0 (List.length aA))), (1, (eI a1)), (2, (eI b2)), (7, (eI i7)), (8, (eI j8))] ∧ aK ⟨H0, [lo0p], []⟩ H [(lo0p, 1, List.map (eI) aA)] ∧ List.length aA = N0 ∧ fW aA a1 b2 i7 j8 = some r) ?_ ⟨aA, wR (a1 + (1 : Int)), (0 : Int), .eq (by kernel_rfl), hO, hN, h0⟩
  clear hO hN h0
  rintro T H ⟨aA, i7, j8, hT, hO, hN, h0⟩
  refine bH hT ?_
  clear hT
  unfold fW at h0
  obtain ⟨rr0, hl0, h0⟩ := aV h0
  refine dM (by kernel_rfl) (fun (s : List Int × Int × Int) T H => Has T [(0, (.msl 1 lo0p 0 (List.length s.1))), (1, (eI a1)), (2, (eI b2)), (7, (eI s.2.1)), (8, (eI s.2.2))] ∧ aK ⟨H0, [lo0p], []⟩ H [(lo0p, 1, List.map (eI) s.1)] ∧ List.length s.1 = N0) hl0 ⟨.eq (by kernel_rfl), hO, hN⟩ ?_
  clear hO hN
  rintro k0 s out1 T H ⟨hT, hO, hN⟩ h1 ho0
  obtain ⟨aA, i7, j8⟩ := s
  replace h1 : bS a1 b2 aA i7 j8 = some out1 := h1
  try dsimp only at hT
  refine bH hT ?_
  clear hT
  unfold bS at h1
  refine aN ?_
  refine aW aD 2 [] [(14, (aC (decide (j8 < (5 : Int)))))] ?_
  refine bO h1 (fun h1 => ?_) (fun h1 => ?_)
  · refine bQ ?_
    refine bB [(0, (.msl 1 lo0p 0 (List.length aA))), (1, (eI a1)), (2, (eI b2)), (7, (eI i7)), (8, (eI j8))] ?_
    refine gX (fun T H => ∃ aA : List Int, ∃ i7 : Int, Has T [(0, (.msl 1 lo0p 0 (List.length aA))), (1, (eI a1)), (2, (eI b2)), (7, (eI i7)), (8, (eI j8))] ∧ aK ⟨H0, [lo0p], []⟩ H [(lo0p, 1, List.map (eI) aA)] ∧ List.length aA = N0 ∧ dK aA a1 b2 i7 j8 = some out1) ?_ ?_
    · clear hO hN h1
      rintro T H ⟨aA, i7, hT, hO, hN, h1⟩
      refine bH hT ?_
      clear hT
      unfold dK at h1
      refine aU aD 3 ?_
      refine bA ?_
      exact aG (aH (⟨rfl, _, (oI h1).symm, .eq (by kernel_rfl), hO, hN⟩))
    refine cB 1 ?_
    refine gX (fun T H => ∃ aA : List Int, ∃ i7 : Int, Has T [(0, (.msl 1 lo0p 0 (List.length aA))), (1, (eI a1)), (2, (eI b2)), (7, (eI i7)), (8, (eI j8))] ∧ aK ⟨H0, [lo0p], []⟩ H [(lo0p, 1, List.map (eI) aA)] ∧ List.length aA = N0 ∧ eE aA a1 b2 i7 j8 = some out1) ?_ ?_
    · clear hO hN h1
      rintro T H ⟨aA, i7, hT, hO, hN, h1⟩
      refine bH hT ?_
      clear hT
      unfold eE at h1
      refine aN ?_
      refine aW aD 3 [] [(37, (aC (decide (i7 = b2))))] ?_
      refine bO h1 (fun h1 => ?_) (fun h1 => ?_)
      · refine aW aD 1 [1, 2, 7, 8, 37] [(6, (aC true))] ?_
        refine bI ?_
        obtain rfl := oI h1
        obtain rfl : _ = rr0 := ho0
        replace h0 : some (true, aA) = some r := h0
        obtain rfl := oI h0
        exact aG (aT (bF (aT (aT (bF (aT (kY (x := (aC true)) (by kernel_rfl) (aO.refl _) ⟨rfl, hO.ext, hO.at 0 (by kernel_rfl), by first | rfl | (simp only [List.length_map]; exact hN.trans hN0)⟩)))))))
      refine bQ ?_
      refine bB [(0, (.msl 1 lo0p 0 (List.length aA))), (1, (eI a1)), (2, (eI b2)), (7, (eI i7)), (8, (eI j8))] ?_
      refine aN ?_
      refine aW aD 4 [] [(41, (aC (decide ((wR (b2 - a1)) < (50 : Int)))))] ?_
      refine bO h1 (fun h1 => ?_) (fun h1 => ?_)
      · refine aW aD 1 [1, 2, 7, 8, 41] [(6, (aC false))] ?_
        refine bI ?_
        obtain rfl := oI h1
        obtain rfl : _ = rr0 := ho0
        replace h0 : some (false, aA) = some r := h0
        obtain rfl := oI h0
        exact aG (aT (bF (aT (aT (bF (aT (kY (x := (aC false)) (by kernel_rfl) (aO.refl _) ⟨rfl, hO.ext, hO.at 0 (by kernel_rfl), by first | rfl | (simp only [List.length_map]; exact hN.trans hN0)⟩)))))))
      refine bQ ?_
      refine bB [(0, (.msl 1 lo0p 0 (List.length aA))), (1, (eI a1)), (2, (eI b2)), (7, (eI i7)), (8, (eI j8))] ?_
      refine aN ?_
      refine fX (gC []) aD 18 ?_
      obtain ⟨c4, h1⟩ := aZ h1
      refine cD 9 [0 ≤ (wR (i7 - (1 : Int))) ∧ (wR (i7 - (1 : Int))) < (lN aA)] ⟨c4, trivial⟩ ?_
      refine gZ 0 lo0p 1 (0 + Int.toNat (wR (i7 - (1 : Int)))) (eI (gD aA (wR (i7 - (1 : Int))))) (eI (gD aA (wR (i7 - (1 : Int))))) (List.map (eI) aA) hO (bV c4) ?_
      obtain ⟨c5, h1⟩ := aZ h1
      refine cD 13 [0 ≤ i7 ∧ i7 < (lN aA)] ⟨c5, trivial⟩ ?_
      refine gZ 0 lo0p 1 (0 + Int.toNat i7) (eI (gD aA i7)) (eI (gD aA i7)) (List.map (eI) aA) hO (bV c5) ?_
      obtain ⟨c6, h1⟩ := aZ h1
      refine cD 15 [0 ≤ i7 ∧ i7 < (lN aA)] ⟨c6, trivial⟩ ?_
      refine kO 0 lo0p 1 (0 + Int.toNat i7) (eI (gD aA i7)) (eI (gD aA (wR (i7 - (1 : Int))))) (List.map (eI) aA) [(lo0p, 1, List.map (eI) (List.set aA (Int.toNat i7) (gD aA (wR (i7 - (1 : Int))))))] hO (bV c6) (by simp only [List.set, iA]) ?_
      intro H hO
      replace hN : List.length (List.set aA (Int.toNat i7) (gD aA (wR (i7 - (1 : Int))))) = N0 := by simpa using hN
      obtain ⟨c7, h1⟩ := aZ h1
      refine cD 17 [0 ≤ (wR (i7 - (1 : Int))) ∧ (wR (i7 - (1 : Int))) < (lN aA)] ⟨c7, trivial⟩ ?_
      refine kO 0 lo0p 1 (0 + Int.toNat (wR (i7 - (1 : Int)))) (eI (gD (List.set aA (Int.toNat i7) (gD aA (wR (i7 - (1 : Int))))) (wR (i7 - (1 : Int))))) (eI (gD aA i7)) (List.map (eI) (List.set aA (Int.toNat i7) (gD aA (wR (i7 - (1 : Int)))))) [(lo0p, 1, List.map (eI) (List.set (List.set aA (Int.toNat i7) (gD aA (wR (i7 - (1 : Int))))) (Int.toNat (wR (i7 - (1 : Int)))) (gD aA i7)))] hO (mJ c7 (by simp [])) (by simp only [List.set, iA]) ?_
      intro H hO
      replace hN : List.length (List.set (List.set aA (Int.toNat i7) (gD aA (wR (i7 - (1 : Int))))) (Int.toNat (wR (i7 - (1 : Int)))) (gD aA i7)) = N0 := by simpa using hN
      refine mZ (by kernel_rfl) ?_
      refine eB (l := [(0, (.msl 1 lo0p 0 (List.length (List.set (List.set aA (Int.toNat i7) (gD aA (wR (i7 - (1 : Int))))) (Int.toNat (wR (i7 - (1 : Int)))) (gD aA i7))))), (1, (eI a1)), (2, (eI b2)), (7, (eI i7)), (8, (eI j8))]) ⟨[(0, (.msl 1 lo0p 0 (List.length aA))), (1, (eI a1)), (2, (eI b2)), (7, (eI i7)), (8, (eI j8))], by kernel_rfl, rfl, ⟨aO.eq (by simp []), aO.refl _, aO.refl _, aO.refl _, aO.refl _, trivial⟩⟩ ?_
      refine aG (aH (?_))
      refine gX (fun T H => ∃ aA : List Int, Has T [(0, (.msl 1 lo0p 0 (List.length aA))), (1, (eI a1)), (2, (eI b2)), (7, (eI i7)), (8, (eI j8))] ∧ aK ⟨H0, [lo0p], []⟩ H [(lo0p, 1, List.map (eI) aA)] ∧ List.length aA = N0 ∧ cF aA a1 b2 i7 j8 = some out1) ?_ ?_
      · clear hO hN h1
        rintro T H ⟨aA, hT, hO, hN, h1⟩
        refine bH hT ?_
        clear hT
        unfold cF at h1
        refine aW aD 4 [] [(98, (aC (decide ((2 : Int) ≤ (wR (b2 - i7))))))] ?_
        refine bO h1 (fun h1 => ?_) (fun h1 => ?_)
        · refine aW aD 3 [98] [(10, (eI (wR (i7 + (1 : Int)))))] ?_
          refine cB 6 ?_
          refine fH [(0, (.msl 1 lo0p 0 (List.length aA))), (1, (eI a1)), (2, (eI b2)), (7, (eI i7)), (8, (eI j8)), (10, (eI (wR (i7 + (1 : Int)))))] ?_
          refine fI (fun T H => ∃ aA : List Int, ∃ j10 : Int, Has T [(0, (.msl 1 lo0p 0 (List.length aA))), (1, (eI a1)), (2, (eI b2)), (7, (eI i7)), (8, (eI j8)), (10, (eI j10))] ∧ aK ⟨H0, [lo0p], []⟩ H [(lo0p, 1, List.map (eI) aA)] ∧ List.length aA = N0 ∧ fV aA a1 b2 i7 j8 j10 = some out1) ?_ ⟨aA, wR (i7 + (1 : Int)), .eq (by kernel_rfl), hO, hN, h1⟩
          clear hO hN h1
          rintro T H ⟨aA, j10, hT, hO, hN, h1⟩
          refine bH hT ?_
          clear hT
          unfold fV at h1
          obtain ⟨rr1, hl1, h1⟩ := aV h1
          refine dM (by kernel_rfl) (fun (s : List Int × Int) T H => Has T [(0, (.msl 1 lo0p 0 (List.length s.1))), (1, (eI a1)), (2, (eI b2)), (7, (eI i7)), (8, (eI j8)), (10, (eI s.2))] ∧ aK ⟨H0, [lo0p], []⟩ H [(lo0p, 1, List.map (eI) s.1)] ∧ List.length s.1 = N0) hl1 ⟨.eq (by kernel_rfl), hO, hN⟩ ?_
          clear hO hN
          rintro k1 s out2 T H ⟨hT, hO, hN⟩ h2 ho1
          obtain ⟨aA, j10⟩ := s
          replace h2 : cM a1 b2 i7 j8 aA j10 = some out2 := h2
          try dsimp only at hT
          refine bH hT ?_
          clear hT
          unfold cM at h2
          refine aN ?_
          refine aW aD 3 [] [(103, (aC (decide (j10 < b2))))] ?_
          refine bO h2 (fun h2 => ?_) (fun h2 => ?_)
          · refine bQ ?_
            refine bB [(0, (.msl 1 lo0p 0 (List.length aA))), (1, (eI a1)), (2, (eI b2)), (7, (eI i7)), (8, (eI j8)), (10, (eI j10))] ?_
            refine aN ?_
            refine cB 7 ?_
            refine aN ?_
            refine aN ?_
            refine fX (gC [115]) aD 11 ?_
            obtain ⟨c10, h2⟩ := aZ h2
            refine cD 3 [0 ≤ j10 ∧ j10 < (lN aA)] ⟨c10, trivial⟩ ?_
            refine gZ 0 lo0p 1 (0 + Int.toNat j10) (eI (gD aA j10)) (eI (gD aA j10)) (List.map (eI) aA) hO (bV c10) ?_
            obtain ⟨c11, h2⟩ := aZ h2
            refine cD 8 [0 ≤ (wR (j10 - (1 : Int))) ∧ (wR (j10 - (1 : Int))) < (lN aA)] ⟨c11, trivial⟩ ?_
            refine gZ 0 lo0p 1 (0 + Int.toNat (wR (j10 - (1 : Int)))) (eI (gD aA (wR (j10 - (1 : Int))))) (eI (gD aA (wR (j10 - (1 : Int))))) (List.map (eI) aA) hO (bV c11) ?_
            obtain ⟨x12, hx13, h2⟩ := aV h2
            refine yY (fL (gD aA j10) (gD aA (wR (j10 - (1 : Int)))) _ hx13) hO ?_
            intro H hO
            refine jP ?_
            refine bT [] [(116, (aC (!x12)))] ?_
            refine bO h2 (fun h2 => ?_) (fun h2 => ?_)
            · refine iJ 6 ?_
              obtain rfl := oI h2
              obtain rfl : _ = rr1 := ho1
              replace h1 : dK aA a1 b2 i7 j8 = some out1 := h1
              exact aG (aX (pI (by kernel_rfl) (aX (aX (bX (aY (aH (⟨rfl, _, _, .eq (by kernel_rfl), hO, hN, h1⟩))))))))
            refine bQ ?_
            refine bB [(0, (.msl 1 lo0p 0 (List.length aA))), (1, (eI a1)), (2, (eI b2)), (7, (eI i7)), (8, (eI j8)), (10, (eI j10))] ?_
            refine fX (gC []) aD 18 ?_
            obtain ⟨c16, h2⟩ := aZ h2
            refine cD 9 [0 ≤ (wR (j10 - (1 : Int))) ∧ (wR (j10 - (1 : Int))) < (lN aA)] ⟨c16, trivial⟩ ?_
            refine gZ 0 lo0p 1 (0 + Int.toNat (wR (j10 - (1 : Int)))) (eI (gD aA (wR (j10 - (1 : Int))))) (eI (gD aA (wR (j10 - (1 : Int))))) (List.map (eI) aA) hO (bV c16) ?_
            obtain ⟨c17, h2⟩ := aZ h2
            refine cD 13 [0 ≤ j10 ∧ j10 < (lN aA)] ⟨c17, trivial⟩ ?_
            refine gZ 0 lo0p 1 (0 + Int.toNat j10) (eI (gD aA j10)) (eI (gD aA j10)) (List.map (eI) aA) hO (bV c17) ?_
            obtain ⟨c18, h2⟩ := aZ h2
            refine cD 15 [0 ≤ j10 ∧ j10 < (lN aA)] ⟨c18, trivial⟩ ?_
            refine kO 0 lo0p 1 (0 + Int.toNat j10) (eI (gD aA j10)) (eI (gD aA (wR (j10 - (1 : Int))))) (List.map (eI) aA) [(lo0p, 1, List.map (eI) (List.set aA (Int.toNat j10) (gD aA (wR (j10 - (1 : Int))))))] hO (bV c18) (by simp only [List.set, iA]) ?_
            intro H hO
            replace hN : List.length (List.set aA (Int.toNat j10) (gD aA (wR (j10 - (1 : Int))))) = N0 := by simpa using hN
            obtain ⟨c19, h2⟩ := aZ h2
            refine cD 17 [0 ≤ (wR (j10 - (1 : Int))) ∧ (wR (j10 - (1 : Int))) < (lN aA)] ⟨c19, trivial⟩ ?_
            refine kO 0 lo0p 1 (0 + Int.toNat (wR (j10 - (1 : Int)))) (eI (gD (List.set aA (Int.toNat j10) (gD aA (wR (j10 - (1 : Int))))) (wR (j10 - (1 : Int))))) (eI (gD aA j10)) (List.map (eI) (List.set aA (Int.toNat j10) (gD aA (wR (j10 - (1 : Int)))))) [(lo0p, 1, List.map (eI) (List.set (List.set aA (Int.toNat j10) (gD aA (wR (j10 - (1 : Int))))) (Int.toNat (wR (j10 - (1 : Int)))) (gD aA j10)))] hO (mJ c19 (by simp [])) (by simp only [List.set, iA]) ?_
            intro H hO
            replace hN : List.length (List.set (List.set aA (Int.toNat j10) (gD aA (wR (j10 - (1 : Int))))) (Int.toNat (wR (j10 - (1 : Int)))) (gD aA j10)) = N0 := by simpa using hN
            refine mZ (by kernel_rfl) ?_
            refine eB (l := [(0, (.msl 1 lo0p 0 (List.length (List.set (List.set aA (Int.toNat j10) (gD aA (wR (j10 - (1 : Int))))) (Int.toNat (wR (j10 - (1 : Int)))) (gD aA j10))))), (1, (eI a1)), (2, (eI b2)), (7, (eI i7)), (8, (eI j8)), (10, (eI j10))]) ⟨[(0, (.msl 1 lo0p 0 (List.length aA))), (1, (eI a1)), (2, (eI b2)), (7, (eI i7)), (8, (eI j8)), (10, (eI j10))], by kernel_rfl, rfl, ⟨aO.eq (by simp []), aO.refl _, aO.refl _, aO.refl _, aO.refl _, aO.refl _, trivial⟩⟩ ?_
            refine aG (aY (aH (?_)))
            refine aU aD 3 ?_
            refine bA ?_
            exact aG (aH (⟨rfl, _, (oI h2).symm, .eq (by kernel_rfl), hO, hN⟩))
          refine iJ 6 ?_
          obtain rfl := oI h2
          obtain rfl : _ = rr1 := ho1
          replace h1 : dK aA a1 b2 i7 j8 = some out1 := h1
          exact aG (aX (aX (bX (aY (aH (⟨rfl, _, _, .eq (by kernel_rfl), hO, hN, h1⟩))))))
        refine bQ ?_
        exact aG (aY (aH (⟨rfl, _, _, .eq (by kernel_rfl), hO, hN, h1⟩)))
      refine aW aD 4 [] [(61, (aC (decide ((2 : Int) ≤ (wR (i7 - a1))))))] ?_
      refine bO h1 (fun h1 => ?_) (fun h1 => ?_)
      · refine aW aD 3 [61] [(9, (eI (wR (i7 - (1 : Int)))))] ?_
        refine cB 4 ?_
        refine fH [(0, (.msl 1 lo0p 0 (List.length (List.set (List.set aA (Int.toNat i7) (gD aA (wR (i7 - (1 : Int))))) (Int.toNat (wR (i7 - (1 : Int)))) (gD aA i7))))), (1, (eI a1)), (2, (eI b2)), (7, (eI i7)), (8, (eI j8)), (9, (eI (wR (i7 - (1 : Int)))))] ?_
        refine fI (fun T H => ∃ aA : List Int, ∃ j9 : Int, Has T [(0, (.msl 1 lo0p 0 (List.length aA))), (1, (eI a1)), (2, (eI b2)), (7, (eI i7)), (8, (eI j8)), (9, (eI j9))] ∧ aK ⟨H0, [lo0p], []⟩ H [(lo0p, 1, List.map (eI) aA)] ∧ List.length aA = N0 ∧ fU aA a1 b2 i7 j8 j9 = some out1) ?_ ⟨List.set (List.set aA (Int.toNat i7) (gD aA (wR (i7 - (1 : Int))))) (Int.toNat (wR (i7 - (1 : Int)))) (gD aA i7), wR (i7 - (1 : Int)), .eq (by kernel_rfl), hO, hN, h1⟩
        clear hO hN h1
        rintro T H ⟨aA, j9, hT, hO, hN, h1⟩
        refine bH hT ?_
        clear hT
        unfold fU at h1
        obtain ⟨rr1, hl1, h1⟩ := aV h1
        refine dM (by kernel_rfl) (fun (s : List Int × Int) T H => Has T [(0, (.msl 1 lo0p 0 (List.length s.1))), (1, (eI a1)), (2, (eI b2)), (7, (eI i7)), (8, (eI j8)), (9, (eI s.2))] ∧ aK ⟨H0, [lo0p], []⟩ H [(lo0p, 1, List.map (eI) s.1)] ∧ List.length s.1 = N0) hl1 ⟨.eq (by kernel_rfl), hO, hN⟩ ?_
        clear hO hN
        rintro k1 s out2 T H ⟨hT, hO, hN⟩ h2 ho1
        obtain ⟨aA, j9⟩ := s
        replace h2 : cE a1 b2 i7 j8 aA j9 = some out2 := h2
        try dsimp only at hT
        refine bH hT ?_
        clear hT
        unfold cE at h2
        refine aN ?_
        refine aW aD 2 [] [(65, (aC (decide ((1 : Int) ≤ j9))))] ?_
        refine bO h2 (fun h2 => ?_) (fun h2 => ?_)
        · refine bQ ?_
          refine bB [(0, (.msl 1 lo0p 0 (List.length aA))), (1, (eI a1)), (2, (eI b2)), (7, (eI i7)), (8, (eI j8)), (9, (eI j9))] ?_
          refine aN ?_
          refine cB 5 ?_
          refine aN ?_
          refine aN ?_
          refine fX (gC [77]) aD 11 ?_
          obtain ⟨c22, h2⟩ := aZ h2
          refine cD 3 [0 ≤ j9 ∧ j9 < (lN aA)] ⟨c22, trivial⟩ ?_
          refine gZ 0 lo0p 1 (0 + Int.toNat j9) (eI (gD aA j9)) (eI (gD aA j9)) (List.map (eI) aA) hO (bV c22) ?_
          obtain ⟨c23, h2⟩ := aZ h2
          refine cD 8 [0 ≤ (wR (j9 - (1 : Int))) ∧ (wR (j9 - (1 : Int))) < (lN aA)] ⟨c23, trivial⟩ ?_
          refine gZ 0 lo0p 1 (0 + Int.toNat (wR (j9 - (1 : Int)))) (eI (gD aA (wR (j9 - (1 : Int))))) (eI (gD aA (wR (j9 - (1 : Int))))) (List.map (eI) aA) hO (bV c23) ?_
          obtain ⟨x24, hx25, h2⟩ := aV h2
          refine yY (fL (gD aA j9) (gD aA (wR (j9 - (1 : Int)))) _ hx25) hO ?_
          intro H hO
          refine jP ?_
          refine bT [] [(78, (aC (!x24)))] ?_
          refine bO h2 (fun h2 => ?_) (fun h2 => ?_)
          · refine iJ 4 ?_
            obtain rfl := oI h2
            obtain rfl : _ = rr1 := ho1
            replace h1 : cF aA a1 b2 i7 j8 = some out1 := h1
            exact aG (aX (pI (by kernel_rfl) (aX (aX (bX (aH (⟨rfl, _, .eq (by kernel_rfl), hO, hN, h1⟩)))))))
          refine bQ ?_
          refine bB [(0, (.msl 1 lo0p 0 (List.length aA))), (1, (eI a1)), (2, (eI b2)), (7, (eI i7)), (8, (eI j8)), (9, (eI j9))] ?_
          refine fX (gC []) aD 18 ?_
          obtain ⟨c28, h2⟩ := aZ h2
          refine cD 9 [0 ≤ (wR (j9 - (1 : Int))) ∧ (wR (j9 - (1 : Int))) < (lN aA)] ⟨c28, trivial⟩ ?_
          refine gZ 0 lo0p 1 (0 + Int.toNat (wR (j9 - (1 : Int)))) (eI (gD aA (wR (j9 - (1 : Int))))) (eI (gD aA (wR (j9 - (1 : Int))))) (List.map (eI) aA) hO (bV c28) ?_
          obtain ⟨c29, h2⟩ := aZ h2
          refine cD 13 [0 ≤ j9 ∧ j9 < (lN aA)] ⟨c29, trivial⟩ ?_
          refine gZ 0 lo0p 1 (0 + Int.toNat j9) (eI (gD aA j9)) (eI (gD aA j9)) (List.map (eI) aA) hO (bV c29) ?_
          obtain ⟨c30, h2⟩ := aZ h2
          refine cD 15 [0 ≤ j9 ∧ j9 < (lN aA)] ⟨c30, trivial⟩ ?_
          refine kO 0 lo0p 1 (0 + Int.toNat j9) (eI (gD aA j9)) (eI (gD aA (wR (j9 - (1 : Int))))) (List.map (eI) aA) [(lo0p, 1, List.map (eI) (List.set aA (Int.toNat j9) (gD aA (wR (j9 - (1 : Int))))))] hO (bV c30) (by simp only [List.set, iA]) ?_
          intro H hO
          replace hN : List.length (List.set aA (Int.toNat j9) (gD aA (wR (j9 - (1 : Int))))) = N0 := by simpa using hN
          obtain ⟨c31, h2⟩ := aZ h2
          refine cD 17 [0 ≤ (wR (j9 - (1 : Int))) ∧ (wR (j9 - (1 : Int))) < (lN aA)] ⟨c31, trivial⟩ ?_
          refine kO 0 lo0p 1 (0 + Int.toNat (wR (j9 - (1 : Int)))) (eI (gD (List.set aA (Int.toNat j9) (gD aA (wR (j9 - (1 : Int))))) (wR (j9 - (1 : Int))))) (eI (gD aA j9)) (List.map (eI) (List.set aA (Int.toNat j9) (gD aA (wR (j9 - (1 : Int)))))) [(lo0p, 1, List.map (eI) (List.set (List.set aA (Int.toNat j9) (gD aA (wR (j9 - (1 : Int))))) (Int.toNat (wR (j9 - (1 : Int)))) (gD aA j9)))] hO (mJ c31 (by simp [])) (by simp only [List.set, iA]) ?_
          intro H hO
          replace hN : List.length (List.set (List.set aA (Int.toNat j9) (gD aA (wR (j9 - (1 : Int))))) (Int.toNat (wR (j9 - (1 : Int)))) (gD aA j9)) = N0 := by simpa using hN
          refine mZ (by kernel_rfl) ?_
          refine eB (l := [(0, (.msl 1 lo0p 0 (List.length (List.set (List.set aA (Int.toNat j9) (gD aA (wR (j9 - (1 : Int))))) (Int.toNat (wR (j9 - (1 : Int)))) (gD aA j9))))), (1, (eI a1)), (2, (eI b2)), (7, (eI i7)), (8, (eI j8)), (9, (eI j9))]) ⟨[(0, (.msl 1 lo0p 0 (List.length aA))), (1, (eI a1)), (2, (eI b2)), (7, (eI i7)), (8, (eI j8)), (9, (eI j9))], by kernel_rfl, rfl, ⟨aO.eq (by simp []), aO.refl _, aO.refl _, aO.refl _, aO.refl _, aO.refl _, trivial⟩⟩ ?_
          refine aG (aY (aH (?_)))
          refine aU aD 3 ?_
          refine bA ?_
          exact aG (aH (⟨rfl, _, (oI h2).symm, .eq (by kernel_rfl), hO, hN⟩))
        refine iJ 4 ?_
        obtain rfl := oI h2
        obtain rfl : _ = rr1 := ho1
        replace h1 : cF aA a1 b2 i7 j8 = some out1 := h1
        exact aG (aX (aX (bX (aH (⟨rfl, _, .eq (by kernel_rfl), hO, hN, h1⟩)))))
      refine bQ ?_
      exact aG (aH (⟨rfl, _, .eq (by kernel_rfl), hO, hN, h1⟩))
    refine cB 2 ?_
    refine fH [(0, (.msl 1 lo0p 0 (List.length aA))), (1, (eI a1)), (2, (eI b2)), (7, (eI i7)), (8, (eI j8))] ?_
    refine fI (fun T H => ∃ aA : List Int, ∃ i7 : Int, Has T [(0, (.msl 1 lo0p 0 (List.length aA))), (1, (eI a1)), (2, (eI b2)), (7, (eI i7)), (8, (eI j8))] ∧ aK ⟨H0, [lo0p], []⟩ H [(lo0p, 1, List.map (eI) aA)] ∧ List.length aA = N0 ∧ cT aA a1 b2 i7 j8 = some out1) ?_ ⟨aA, i7, .eq (by kernel_rfl), hO, hN, h1⟩
    clear hO hN h1
    rintro T H ⟨aA, i7, hT, hO, hN, h1⟩
    refine bH hT ?_
    clear hT
    unfold cT at h1
    obtain ⟨rr1, hl1, h1⟩ := aV h1
    refine dM (by kernel_rfl) (fun (s : List Int × Int) T H => Has T [(0, (.msl 1 lo0p 0 (List.length s.1))), (1, (eI a1)), (2, (eI b2)), (7, (eI s.2)), (8, (eI j8))] ∧ aK ⟨H0, [lo0p], []⟩ H [(lo0p, 1, List.map (eI) s.1)] ∧ List.length s.1 = N0) hl1 ⟨.eq (by kernel_rfl), hO, hN⟩ ?_
    clear hO hN
    rintro k1 s out2 T H ⟨hT, hO, hN⟩ h2 ho1
    obtain ⟨aA, i7⟩ := s
    replace h2 : cL a1 b2 j8 aA i7 = some out2 := h2
    try dsimp only at hT
    refine bH hT ?_
    clear hT
    unfold cL at h2
    refine aN ?_
    refine aN ?_
    obtain ⟨c32, h2⟩ := aZ h2
    obtain ⟨c33, h2⟩ := aZ h2
    obtain ⟨x34, hx35, h2⟩ := aV h2
    refine fX (gC []) aD 16 ?_
    refine oK (K := fun T H => Has (lift T) [(0, (.msl 1 lo0p 0 (List.length aA))), (1, (eI a1)), (2, (eI b2)), (7, (eI i7)), (8, (eI j8)), (32, (aC ((decide (i7 < b2)) && (!x34))))] ∧ aK ⟨H0, [lo0p], []⟩ H [(lo0p, 1, List.map (eI) aA)]) ?_ ?_
    · refine lT 4 ?_
      refine mP (t := 20) (e := decide (i7 < b2)) (by kernel_rfl) (fun hg36 => ?_) (fun hg36 => ?_)
      · refine cD 7 [0 ≤ i7 ∧ i7 < (lN aA)] ⟨(c32 hg36), trivial⟩ ?_
        refine jJ 0 lo0p 1 (0 + Int.toNat i7) (eI (gD aA i7)) (eI (gD aA i7)) (List.map (eI) aA) (by kernel_rfl) (by kernel_rfl) (by kernel_rfl) hO (by kernel_rfl) (bV (c32 hg36)) ?_
        refine cD 12 [0 ≤ (wR (i7 - (1 : Int))) ∧ (wR (i7 - (1 : Int))) < (lN aA)] ⟨(c33 hg36), trivial⟩ ?_
        refine jJ 0 lo0p 1 (0 + Int.toNat (wR (i7 - (1 : Int)))) (eI (gD aA (wR (i7 - (1 : Int))))) (eI (gD aA (wR (i7 - (1 : Int))))) (List.map (eI) aA) (by kernel_rfl) (by kernel_rfl) (by kernel_rfl) hO (by kernel_rfl) (bV (c33 hg36)) ?_
        refine nD 84 [(eI (gD aA i7)), (eI (gD aA (wR (i7 - (1 : Int)))))] (aC x34) (by kernel_rfl) (by kernel_rfl) (fL (gD aA i7) (gD aA (wR (i7 - (1 : Int)))) _ (iW hx35 hg36)) hO ?_
        intro H hO
        refine jP ?_
        exact ⟨⟨[(0, (.msl 1 lo0p 0 (List.length aA))), (1, (eI a1)), (2, (eI b2)), (7, (eI i7)), (8, (eI j8)), (32, (aC (!x34)))], by kernel_rfl, rfl, ⟨aO.refl _, aO.refl _, aO.refl _, aO.refl _, aO.refl _, aO.eq (congrArg aC (nF hg36 rfl).symm), trivial⟩⟩, hO⟩
      refine jP ?_
      exact ⟨⟨[(0, (.msl 1 lo0p 0 (List.length aA))), (1, (eI a1)), (2, (eI b2)), (7, (eI i7)), (8, (eI j8)), (32, (aC false))], by kernel_rfl, rfl, ⟨aO.refl _, aO.refl _, aO.refl _, aO.refl _, aO.refl _, aO.eq (congrArg aC (nF hg36 rfl).symm), trivial⟩⟩, hO⟩
    · rintro T H ⟨hT, hO⟩
      refine eB hT ?_
      clear hT
      refine aG (aH ?_)
      refine bO h2 (fun h2 => ?_) (fun h2 => ?_)
      · refine bQ ?_
        refine bB [(0, (.msl 1 lo0p 0 (List.length aA))), (1, (eI a1)), (2, (eI b2)), (7, (eI i7)), (8, (eI j8))] ?_
        refine cB 3 ?_
        refine aU aD 3 ?_
        refine bA ?_
        exact aG (aY (aH (⟨rfl, _, (oI h2).symm, .eq (by kernel_rfl), hO, hN⟩)))
      refine iJ 2 ?_
      obtain rfl := oI h2
      obtain rfl : _ = rr1 := ho1
      replace h1 : eE aA a1 b2 i7 j8 = some out1 := h1
      exact aG (aX (aX (bX (aH (⟨rfl, _, _, .eq (by kernel_rfl), hO, hN, h1⟩)))))
  refine iJ 0 ?_
  obtain rfl := oI h1
  obtain rfl : _ = rr0 := ho0
  replace h0 : eF aA = some r := h0
  exact aG (aX (aX (bX (aH (⟨rfl, _, .eq (by kernel_rfl), hO, hN, h0⟩)))))

end Go.Abs
namespace Go.Abs
open Go Go.RowKit Go.Proofs
theorem tR (lo0p : Nat) (aA : (List Int)) (a1 : Int) (b2 : Int) (cG : Int) (r : (Int × List Int)) (h0 : eR aA a1 b2 cG = some r) : mV Try.prog 85 lo0p 1 (List.map (eI) aA) (List.map (eI) r.2) [(.msl 1 lo0p 0 (List.length aA)), (eI a1), (eI b2), (eI cG)] (eI r.1) := by
  intro H0 hl0
  refine dF Try.func85 ?_
  have hO := aK.rI hl0
  clear hl0
  obtain ⟨N0, hN0⟩ : ∃ n, n = List.length aA := ⟨_, rfl⟩
  have hN : List.length aA = N0 := hN0.symm
  unfold eR at h0
  refine aW aD 1 [] [] ?_
  refine aN ?_
  refine fX (gC []) aD 16 ?_
  obtain ⟨c1, h0⟩ := aZ h0
  refine cD 7 [0 ≤ cG ∧ cG < (lN aA)] ⟨c1, trivial⟩ ?_
  refine gZ 0 lo0p 1 (0 + Int.toNat cG) (eI (gD aA cG)) (eI (gD aA cG)) (List.map (eI) aA) hO (bV c1) ?_
  obtain ⟨c2, h0⟩ := aZ h0
  refine cD 11 [0 ≤ a1 ∧ a1 < (lN aA)] ⟨c2, trivial⟩ ?_
  refine gZ 0 lo0p 1 (0 + Int.toNat a1) (eI (gD aA a1)) (eI (gD aA a1)) (List.map (eI) aA) hO (bV c2) ?_
  obtain ⟨c3, h0⟩ := aZ h0
  refine cD 13 [0 ≤ a1 ∧ a1 < (lN aA)] ⟨c3, trivial⟩ ?_
  refine kO 0 lo0p 1 (0 + Int.toNat a1) (eI (gD aA a1)) (eI (gD aA cG)) (List.map (eI) aA) [(lo0p, 1, List.map (eI) (List.set aA (Int.toNat a1) (gD aA cG)))] hO (bV c3) (by simp only [List.set, iA]) ?_
  intro H hO
  replace hN : List.length (List.set aA (Int.toNat a1) (gD aA cG)) = N0 := by simpa using hN
  obtain ⟨c4, h0⟩ := aZ h0
  refine cD 15 [0 ≤ cG ∧ cG < (lN aA)] ⟨c4, trivial⟩ ?_
  refine kO 0 lo0p 1 (0 + Int.toNat cG) (eI (gD (List.set aA (Int.toNat a1) (gD aA cG)) cG)) (eI (gD aA a1)) (List.map (eI) (List.set aA (Int.toNat a1) (gD aA cG))) [(lo0p, 1, List.map (eI) (List.set (List.set aA (Int.toNat a1) (gD aA cG)) (Int.toNat cG) (gD aA a1)))] hO (mJ c4 (by simp [])) (by simp only [List.set, iA]) ?_
  intro H hO
  replace hN : List.length (List.set (List.set aA (Int.toNat a1) (gD aA cG)) (Int.toNat cG) (gD aA a1)) = N0 := by simpa using hN
  refine mZ (by kernel_rfl) ?_
  refine eB (l := [(0, (.msl 1 lo0p 0 (List.length (List.set (List.set aA (Int.toNat a1) (gD aA cG)) (Int.toNat cG) (gD aA a1))))), (1, (eI a1)), (2, (eI b2))]) ⟨[(0, (.msl 1 lo0p 0 (List.length aA))), (1, (eI a1)), (2, (eI b2))], by kernel_rfl, rfl, ⟨aO.eq (by simp []), aO.refl _, aO.refl _, trivial⟩⟩ ?_
  refine aG (aH (?_))
  refine aW aD 6 [2] [(9, (eI (wR (a1 + (1 : Int))))), (10, (eI (wR (b2 - (1 : Int)))))] ?_
  refine gX (fun T H => ∃ aA : List Int, ∃ i9 : Int, Has T [(0, (.msl 1 lo0p 0 (List.length aA))), (9, (eI i9))] ∧ aK ⟨H0, [lo0p], []⟩ H [(lo0p, 1, List.map (eI) aA)] ∧ List.length aA = N0 ∧ iT aA i9 = some r) ?_ ?_
  · clear hO hN h0
    rintro T H ⟨aA, i9, hT, hO, hN, h0⟩
    refine bH hT ?_
    clear hT
    unfold iT at h0
    refine aW aD 2 [9] [(8, (eI i9))] ?_
    refine bI ?_
    obtain rfl := oI h0
    exact aG (kY (x := (eI i9)) (by kernel_rfl) (aO.refl _) ⟨rfl, hO.ext, hO.at 0 (by kernel_rfl), by first | rfl | (simp only [List.length_map]; exact hN.trans hN0)⟩)
  refine cB 0 ?_
  refine fH [(0, (.msl 1 lo0p 0 (List.length (List.set (List.set aA (Int.toNat a1) (gD aA cG)) (Int.toNat cG) (gD aA a1))))), (1, (eI a1)), (9, (eI (wR (a1 + (1 : Int))))), (10, (eI (wR (b2 - (1 : Int)))))] ?_
  refine fI (fun T H => ∃ aA : List Int, ∃ i9 : Int, ∃ j10 : Int, Has T [(0, (.msl 1 lo0p 0 (List.length aA))), (1, (eI a1)), (9, (eI i9)), (10, (eI j10))] ∧ aK ⟨H0, [lo0p], []⟩ H [(lo0p, 1, List.map (eI) aA)] ∧ List.length aA = N0 ∧ iV aA a1 i9 j10 = some r) ?_ ⟨List.set (List.set aA (Int.toNat a1) (gD aA cG)) (Int.toNat cG) (gD aA a1), wR (a1 + (1 : Int)), wR (b2 - (1 : Int)), .eq (by kernel_rfl), hO, hN, h0⟩
  clear hO hN h0
  rintro T H ⟨aA, i9, j10, hT, hO, hN, h0⟩
  refine bH hT ?_
  clear hT
  unfold iV at h0
  obtain ⟨rr0, hl0, h0⟩ := aV h0
  refine dM (by kernel_rfl) (fun (s : List Int × Int × Int) T H => Has T [(0, (.msl 1 lo0p 0 (List.length s.1))), (1, (eI a1)), (9, (eI s.2.1)), (10, (eI s.2.2))] ∧ aK ⟨H0, [lo0p], []⟩ H [(lo0p, 1, List.map (eI) s.1)] ∧ List.length s.1 = N0) hl0 ⟨.eq (by kernel_rfl), hO, hN⟩ ?_
  clear hO hN
  rintro k0 s out1 T H ⟨hT, hO, hN⟩ h1 ho0
  obtain ⟨aA, i9, j10⟩ := s
  replace h1 : cO a1 aA i9 j10 = some out1 := h1
  try dsimp only at hT
  refine bH hT ?_
  clear hT
  unfold cO at h1
  refine cB 1 ?_
  refine gX (fun T H => ∃ aA : List Int, ∃ i9 : Int, Has T [(0, (.msl 1 lo0p 0 (List.length aA))), (1, (eI a1)), (9, (eI i9)), (10, (eI j10))] ∧ aK ⟨H0, [lo0p], []⟩ H [(lo0p, 1, List.map (eI) aA)] ∧ List.length aA = N0 ∧ fP aA a1 i9 j10 = some out1) ?_ ?_
  · clear hO hN h1
    rintro T H ⟨aA, i9, hT, hO, hN, h1⟩
    refine bH hT ?_
    clear hT
    unfold fP at h1
    refine gX (fun T H => ∃ aA : List Int, ∃ j10 : Int, Has T [(0, (.msl 1 lo0p 0 (List.length aA))), (1, (eI a1)), (9, (eI i9)), (10, (eI j10))] ∧ aK ⟨H0, [lo0p], []⟩ H [(lo0p, 1, List.map (eI) aA)] ∧ List.length aA = N0 ∧ dP aA a1 i9 j10 = some out1) ?_ ?_
    · clear hO hN h1
      rintro T H ⟨aA, j10, hT, hO, hN, h1⟩
      refine bH hT ?_
      clear hT
      unfold dP at h1
      refine aN ?_
      refine aW aD 3 [] [(64, (aC (decide (j10 < i9))))] ?_
      refine bO h1 (fun h1 => ?_) (fun h1 => ?_)
      · refine iJ 0 ?_
        obtain rfl := oI h1
        obtain rfl : _ = rr0 := ho0
        replace h0 : iT aA i9 = some r := h0
        exact aG (aX (pI (by kernel_rfl) (aX (bX (aH (⟨rfl, _, _, .eq (by kernel_rfl), hO, hN, h0⟩))))))
      refine bQ ?_
      refine bB [(0, (.msl 1 lo0p 0 (List.length aA))), (1, (eI a1)), (9, (eI i9)), (10, (eI j10))] ?_
      refine aN ?_
      refine fX (gC []) aD 16 ?_
      obtain ⟨c6, h1⟩ := aZ h1
      refine cD 7 [0 ≤ j10 ∧ j10 < (lN aA)] ⟨c6, trivial⟩ ?_
      refine gZ 0 lo0p 1 (0 + Int.toNat j10) (eI (gD aA j10)) (eI (gD aA j10)) (List.map (eI) aA) hO (bV c6) ?_
      obtain ⟨c7, h1⟩ := aZ h1
      refine cD 11 [0 ≤ i9 ∧ i9 < (lN aA)] ⟨c7, trivial⟩ ?_
      refine gZ 0 lo0p 1 (0 + Int.toNat i9) (eI (gD aA i9)) (eI (gD aA i9)) (List.map (eI) aA) hO (bV c7) ?_
      obtain ⟨c8, h1⟩ := aZ h1
      refine cD 13 [0 ≤ i9 ∧ i9 < (lN aA)] ⟨c8, trivial⟩ ?_
      refine kO 0 lo0p 1 (0 + Int.toNat i9) (eI (gD aA i9)) (eI (gD aA j10)) (List.map (eI) aA) [(lo0p, 1, List.map (eI) (List.set aA (Int.toNat i9) (gD aA j10)))] hO (bV c8) (by simp only [List.set, iA]) ?_
      intro H hO
      replace hN : List.length (List.set aA (Int.toNat i9) (gD aA j10)) = N0 := by simpa using hN
      obtain ⟨c9, h1⟩ := aZ h1
      refine cD 15 [0 ≤ j10 ∧ j10 < (lN aA)] ⟨c9, trivial⟩ ?_
      refine kO 0 lo0p 1 (0 + Int.toNat j10) (eI (gD (List.set aA (Int.toNat i9) (gD aA j10)) j10)) (eI (gD aA i9)) (List.map (eI) (List.set aA (Int.toNat i9) (gD aA j10))) [(lo0p, 1, List.map (eI) (List.set (List.set aA (Int.toNat i9) (gD aA j10)) (Int.toNat j10) (gD aA i9)))] hO (mJ c9 (by simp [])) (by simp only [List.set, iA]) ?_
      intro H hO
      replace hN : List.length (List.set (List.set aA (Int.toNat i9) (gD aA j10)) (Int.toNat j10) (gD aA i9)) = N0 := by simpa using hN
      refine mZ (by kernel_rfl) ?_
      refine eB (l := [(0, (.msl 1 lo0p 0 (List.length (List.set (List.set aA (Int.toNat i9) (gD aA j10)) (Int.toNat j10) (gD aA i9))))), (1, (eI a1)), (9, (eI i9)), (10, (eI j10))]) ⟨[(0, (.msl 1 lo0p 0 (List.length aA))), (1, (eI a1)), (9, (eI i9)), (10, (eI j10))], by kernel_rfl, rfl, ⟨aO.eq (by simp []), aO.refl _, aO.refl _, aO.refl _, trivial⟩⟩ ?_
      refine aG (aH (?_))
      refine aW aD 3 [9] [(9, (eI (wR (i9 + (1 : Int)))))] ?_
      refine aU aD 3 ?_
      refine bA ?_
      exact aG (aY (aH (⟨rfl, _, (oI h1).symm, .eq (by kernel_rfl), hO, hN⟩)))
    refine cB 4 ?_
    refine fH [(0, (.msl 1 lo0p 0 (List.length aA))), (1, (eI a1)), (9, (eI i9)), (10, (eI j10))] ?_
    refine fI (fun T H => ∃ aA : List Int, ∃ j10 : Int, Has T [(0, (.msl 1 lo0p 0 (List.length aA))), (1, (eI a1)), (9, (eI i9)), (10, (eI j10))] ∧ aK ⟨H0, [lo0p], []⟩ H [(lo0p, 1, List.map (eI) aA)] ∧ List.length aA = N0 ∧ iR aA a1 i9 j10 = some out1) ?_ ⟨aA, j10, .eq (by kernel_rfl), hO, hN, h1⟩
    clear hO hN h1
    rintro T H ⟨aA, j10, hT, hO, hN, h1⟩
    refine bH hT ?_
    clear hT
    unfold iR at h1
    obtain ⟨rr1, hl1, h1⟩ := aV h1
    refine dM (by kernel_rfl) (fun (s : List Int × Int) T H => Has T [(0, (.msl 1 lo0p 0 (List.length s.1))), (1, (eI a1)), (9, (eI i9)), (10, (eI s.2))] ∧ aK ⟨H0, [lo0p], []⟩ H [(lo0p, 1, List.map (eI) s.1)] ∧ List.length s.1 = N0) hl1 ⟨.eq (by kernel_rfl), hO, hN⟩ ?_
    clear hO hN
    rintro k1 s out2 T H ⟨hT, hO, hN⟩ h2 ho1
    obtain ⟨aA, j10⟩ := s
    replace h2 : dN a1 i9 aA j10 = some out2 := h2
    try dsimp only at hT
    refine bH hT ?_
    clear hT
    unfold dN at h2
    refine aN ?_
    refine aN ?_
    obtain ⟨c10, h2⟩ := aZ h2
    obtain ⟨c11, h2⟩ := aZ h2
    obtain ⟨x12, hx13, h2⟩ := aV h2
    refine fX (gC []) aD 14 ?_
    refine oK (K := fun T H => Has (lift T) [(0, (.msl 1 lo0p 0 (List.length aA))), (1, (eI a1)), (9, (eI i9)), (10, (eI j10)), (59, (aC ((decide (i9 ≤ j10)) && x12)))] ∧ aK ⟨H0, [lo0p], []⟩ H [(lo0p, 1, List.map (eI) aA)]) ?_ ?_
    · refine lT 4 ?_
      refine mP (t := 49) (e := decide (i9 ≤ j10)) (by kernel_rfl) (fun hg14 => ?_) (fun hg14 => ?_)
      · refine cD 7 [0 ≤ a1 ∧ a1 < (lN aA)] ⟨(c10 hg14), trivial⟩ ?_
        refine jJ 0 lo0p 1 (0 + Int.toNat a1) (eI (gD aA a1)) (eI (gD aA a1)) (List.map (eI) aA) (by kernel_rfl) (by kernel_rfl) (by kernel_rfl) hO (by kernel_rfl) (bV (c10 hg14)) ?_
        refine cD 11 [0 ≤ j10 ∧ j10 < (lN aA)] ⟨(c11 hg14), trivial⟩ ?_
        refine jJ 0 lo0p 1 (0 + Int.toNat j10) (eI (gD aA j10)) (eI (gD aA j10)) (List.map (eI) aA) (by kernel_rfl) (by kernel_rfl) (by kernel_rfl) hO (by kernel_rfl) (bV (c11 hg14)) ?_
        refine nD 84 [(eI (gD aA a1)), (eI (gD aA j10))] (aC x12) (by kernel_rfl) (by kernel_rfl) (fL (gD aA a1) (gD aA j10) _ (iW hx13 hg14)) hO ?_
        intro H hO
        refine jP ?_
        exact ⟨⟨[(0, (.msl 1 lo0p 0 (List.length aA))), (1, (eI a1)), (9, (eI i9)), (10, (eI j10)), (59, (aC x12))], by kernel_rfl, rfl, ⟨aO.refl _, aO.refl _, aO.refl _, aO.refl _, aO.eq (congrArg aC (nF hg14 rfl).symm), trivial⟩⟩, hO⟩
      refine jP ?_
      exact ⟨⟨[(0, (.msl 1 lo0p 0 (List.length aA))), (1, (eI a1)), (9, (eI i9)), (10, (eI j10)), (59, (aC false))], by kernel_rfl, rfl, ⟨aO.refl _, aO.refl _, aO.refl _, aO.refl _, aO.eq (congrArg aC (nF hg14 rfl).symm), trivial⟩⟩, hO⟩
    · rintro T H ⟨hT, hO⟩
      refine eB hT ?_
      clear hT
      refine aG (aH ?_)
      refine bO h2 (fun h2 => ?_) (fun h2 => ?_)
      · refine bQ ?_
        refine bB [(0, (.msl 1 lo0p 0 (List.length aA))), (1, (eI a1)), (9, (eI i9)), (10, (eI j10))] ?_
        refine cB 5 ?_
        refine aU aD 3 ?_
        refine bA ?_
        exact aG (aY (aH (⟨rfl, _, (oI h2).symm, .eq (by kernel_rfl), hO, hN⟩)))
      refine iJ 4 ?_
      obtain rfl := oI h2
      obtain rfl : _ = rr1 := ho1
      replace h1 : dP aA a1 i9 j10 = some out1 := h1
      exact aG (aX (aX (bX (aH (⟨rfl, _, _, .eq (by kernel_rfl), hO, hN, h1⟩)))))
  refine cB 2 ?_
  refine fH [(0, (.msl 1 lo0p 0 (List.length aA))), (1, (eI a1)), (9, (eI i9)), (10, (eI j10))] ?_
  refine fI (fun T H => ∃ aA : List Int, ∃ i9 : Int, Has T [(0, (.msl 1 lo0p 0 (List.length aA))), (1, (eI a1)), (9, (eI i9)), (10, (eI j10))] ∧ aK ⟨H0, [lo0p], []⟩ H [(lo0p, 1, List.map (eI) aA)] ∧ List.length aA = N0 ∧ iU aA a1 i9 j10 = some out1) ?_ ⟨aA, i9, .eq (by kernel_rfl), hO, hN, h1⟩
  clear hO hN h1
  rintro T H ⟨aA, i9, hT, hO, hN, h1⟩
  refine bH hT ?_
  clear hT
  unfold iU at h1
  obtain ⟨rr1, hl1, h1⟩ := aV h1
  refine dM (by kernel_rfl) (fun (s : List Int × Int) T H => Has T [(0, (.msl 1 lo0p 0 (List.length s.1))), (1, (eI a1)), (9, (eI s.2)), (10, (eI j10))] ∧ aK ⟨H0, [lo0p], []⟩ H [(lo0p, 1, List.map (eI) s.1)] ∧ List.length s.1 = N0) hl1 ⟨.eq (by kernel_rfl), hO, hN⟩ ?_
  clear hO hN
  rintro k1 s out2 T H ⟨hT, hO, hN⟩ h2 ho1
  obtain ⟨aA, i9⟩ := s
  replace h2 : dL a1 j10 aA i9 = some out2 := h2
  try dsimp only at hT
  refine bH hT ?_
  clear hT
  unfold dL at h2
  refine aN ?_
  refine aN ?_
  obtain ⟨c16, h2⟩ := aZ h2
  obtain ⟨c17, h2⟩ := aZ h2
  obtain ⟨x18, hx19, h2⟩ := aV h2
  refine fX (gC []) aD 15 ?_
  refine oK (K := fun T H => Has (lift T) [(0, (.msl 1 lo0p 0 (List.length aA))), (1, (eI a1)), (9, (eI i9)), (10, (eI j10)), (43, (aC ((decide (i9 ≤ j10)) && (!x18))))] ∧ aK ⟨H0, [lo0p], []⟩ H [(lo0p, 1, List.map (eI) aA)]) ?_ ?_
  · refine lT 4 ?_
    refine mP (t := 32) (e := decide (i9 ≤ j10)) (by kernel_rfl) (fun hg20 => ?_) (fun hg20 => ?_)
    · refine cD 7 [0 ≤ a1 ∧ a1 < (lN aA)] ⟨(c16 hg20), trivial⟩ ?_
      refine jJ 0 lo0p 1 (0 + Int.toNat a1) (eI (gD aA a1)) (eI (gD aA a1)) (List.map (eI) aA) (by kernel_rfl) (by kernel_rfl) (by kernel_rfl) hO (by kernel_rfl) (bV (c16 hg20)) ?_
      refine cD 11 [0 ≤ i9 ∧ i9 < (lN aA)] ⟨(c17 hg20), trivial⟩ ?_
      refine jJ 0 lo0p 1 (0 + Int.toNat i9) (eI (gD aA i9)) (eI (gD aA i9)) (List.map (eI) aA) (by kernel_rfl) (by kernel_rfl) (by kernel_rfl) hO (by kernel_rfl) (bV (c17 hg20)) ?_
      refine nD 84 [(eI (gD aA a1)), (eI (gD aA i9))] (aC x18) (by kernel_rfl) (by kernel_rfl) (fL (gD aA a1) (gD aA i9) _ (iW hx19 hg20)) hO ?_
      intro H hO
      refine jP ?_
      exact ⟨⟨[(0, (.msl 1 lo0p 0 (List.length aA))), (1, (eI a1)), (9, (eI i9)), (10, (eI j10)), (43, (aC (!x18)))], by kernel_rfl, rfl, ⟨aO.refl _, aO.refl _, aO.refl _, aO.refl _, aO.eq (congrArg aC (nF hg20 rfl).symm), trivial⟩⟩, hO⟩
    refine jP ?_
    exact ⟨⟨[(0, (.msl 1 lo0p 0 (List.length aA))), (1, (eI a1)), (9, (eI i9)), (10, (eI j10)), (43, (aC false))], by kernel_rfl, rfl, ⟨aO.refl _, aO.refl _, aO.refl _, aO.refl _, aO.eq (congrArg aC (nF hg20 rfl).symm), trivial⟩⟩, hO⟩
  · rintro T H ⟨hT, hO⟩
    refine eB hT ?_
    clear hT
    refine aG (aH ?_)
    refine bO h2 (fun h2 => ?_) (fun h2 => ?_)
    · refine bQ ?_
      refine bB [(0, (.msl 1 lo0p 0 (List.length aA))), (1, (eI a1)), (9, (eI i9)), (10, (eI j10))] ?_
      refine cB 3 ?_
      refine aU aD 3 ?_
      refine bA ?_
      exact aG (aY (aH (⟨rfl, _, (oI h2).symm, .eq (by kernel_rfl), hO, hN⟩)))
    refine iJ 2 ?_
    obtain rfl := oI h2
    obtain rfl : _ = rr1 := ho1
    replace h1 : fP aA a1 i9 j10 = some out1 := h1
    exact aG (aX (aX (bX (aH (⟨rfl, _, _, .eq (by kernel_rfl), hO, hN, h1⟩)))))

theorem wE (lo0p : Nat) (aA : (List Int)) (a1 : Int) (b2 : Int) (cG : Int) (r : ((Int × Bool) × List Int)) (h0 : gF aA a1 b2 cG = some r) : mV Try.prog 86 lo0p 1 (List.map (eI) aA) (List.map (eI) r.2) [(.msl 1 lo0p 0 (List.length aA)), (eI a1), (eI b2), (eI cG)] (.tup [(eI r.1.1), (aC r.1.2)]) := by
  intro H0 hl0
  refine dF Try.func86 ?_
  have hO := aK.rI hl0
  clear hl0
  obtain ⟨N0, hN0⟩ : ∃ n, n = List.length aA := ⟨_, rfl⟩
  have hN : List.length aA = N0 := hN0.symm
  unfold gF at h0
  refine aW aD 2 [] [] ?_
  refine aN ?_
  refine fX (gC []) aD 16 ?_
  obtain ⟨c1, h0⟩ := aZ h0
  refine cD 7 [0 ≤ cG ∧ cG < (lN aA)] ⟨c1, trivial⟩ ?_
  refine gZ 0 lo0p 1 (0 + Int.toNat cG) (eI (gD aA cG)) (eI (gD aA cG)) (List.map (eI) aA) hO (bV c1) ?_
  obtain ⟨c2, h0⟩ := aZ h0
  refine cD 11 [0 ≤ a1 ∧ a1 < (lN aA)] ⟨c2, trivial⟩ ?_
  refine gZ 0 lo0p 1 (0 + Int.toNat a1) (eI (gD aA a1)) (eI (gD aA a1)) (List.map (eI) aA) hO (bV c2) ?_
  obtain ⟨c3, h0⟩ := aZ h0
  refine cD 13 [0 ≤ a1 ∧ a1 < (lN aA)] ⟨c3, trivial⟩ ?_
  refine kO 0 lo0p 1 (0 + Int.toNat a1) (eI (gD aA a1)) (eI (gD aA cG)) (List.map (eI) aA) [(lo0p, 1, List.map (eI) (List.set aA (Int.toNat a1) (gD aA cG)))] hO (bV c3) (by simp only [List.set, iA]) ?_
  intro H hO
  replace hN : List.length (List.set aA (Int.toNat a1) (gD aA cG)) = N0 := by simpa using hN
  obtain ⟨c4, h0⟩ := aZ h0
  refine cD 15 [0 ≤ cG ∧ cG < (lN aA)] ⟨c4, trivial⟩ ?_
  refine kO 0 lo0p 1 (0 + Int.toNat cG) (eI (gD (List.set aA (Int.toNat a1) (gD aA cG)) cG)) (eI (gD aA a1)) (List.map (eI) (List.set aA (Int.toNat a1) (gD aA cG))) [(lo0p, 1, List.map (eI) (List.set (List.set aA (Int.toNat a1) (gD aA cG)) (Int.toNat cG) (gD aA a1)))] hO (mJ c4 (by simp [])) (by simp only [List.set, iA]) ?_
  intro H hO
  replace hN : List.length (List.set (List.set aA (Int.toNat a1) (gD aA cG)) (Int.toNat cG) (gD aA a1)) = N0 := by simpa using hN
  refine mZ (by kernel_rfl) ?_
  refine eB (l := [(0, (.msl 1 lo0p 0 (List.length (List.set (List.set aA (Int.toNat a1) (gD aA cG)) (Int.toNat cG) (gD aA a1))))), (1, (eI a1)), (2, (eI b2))]) ⟨[(0, (.msl 1 lo0p 0 (List.length aA))), (1, (eI a1)), (2, (eI b2))], by kernel_rfl, rfl, ⟨aO.eq (by simp []), aO.refl _, aO.refl _, trivial⟩⟩ ?_
  refine aG (aH (?_))
  refine aW aD 6 [2] [(10, (eI (wR (a1 + (1 : Int))))), (11, (eI (wR (b2 - (1 : Int)))))] ?_
  refine gX (fun T H => ∃ aA : List Int, ∃ i10 : Int, ∃ j11 : Int, Has T [(0, (.msl 1 lo0p 0 (List.length aA))), (1, (eI a1)), (10, (eI i10)), (11, (eI j11))] ∧ aK ⟨H0, [lo0p], []⟩ H [(lo0p, 1, List.map (eI) aA)] ∧ List.length aA = N0 ∧ iK aA a1 i10 j11 = some r) ?_ ?_
  · clear hO hN h0
    rintro T H ⟨aA, i10, j11, hT, hO, hN, h0⟩
    refine bH hT ?_
    clear hT
    unfold iK at h0
    refine gX (fun T H => ∃ aA : List Int, ∃ j11 : Int, Has T [(0, (.msl 1 lo0p 0 (List.length aA))), (1, (eI a1)), (10, (eI i10)), (11, (eI j11))] ∧ aK ⟨H0, [lo0p], []⟩ H [(lo0p, 1, List.map (eI) aA)] ∧ List.length aA = N0 ∧ eG aA a1 i10 j11 = some r) ?_ ?_
    · clear hO hN h0
      rintro T H ⟨aA, j11, hT, hO, hN, h0⟩
      refine bH hT ?_
      clear hT
      unfold eG at h0
      refine aN ?_
      refine aW aD 3 [] [(65, (aC (decide (j11 < i10))))] ?_
      refine bO h0 (fun h0 => ?_) (fun h0 => ?_)
      · refine aN ?_
        refine fX (gC []) aD 16 ?_
        obtain ⟨c6, h0⟩ := aZ h0
        refine cD 7 [0 ≤ a1 ∧ a1 < (lN aA)] ⟨c6, trivial⟩ ?_
        refine gZ 0 lo0p 1 (0 + Int.toNat a1) (eI (gD aA a1)) (eI (gD aA a1)) (List.map (eI) aA) hO (bV c6) ?_
        obtain ⟨c7, h0⟩ := aZ h0
        refine cD 11 [0 ≤ j11 ∧ j11 < (lN aA)] ⟨c7, trivial⟩ ?_
        refine gZ 0 lo0p 1 (0 + Int.toNat j11) (eI (gD aA j11)) (eI (gD aA j11)) (List.map (eI) aA) hO (bV c7) ?_
        obtain ⟨c8, h0⟩ := aZ h0
        refine cD 13 [0 ≤ j11 ∧ j11 < (lN aA)] ⟨c8, trivial⟩ ?_
        refine kO 0 lo0p 1 (0 + Int.toNat j11) (eI (gD aA j11)) (eI (gD aA a1)) (List.map (eI) aA) [(lo0p, 1, List.map (eI) (List.set aA (Int.toNat j11) (gD aA a1)))] hO (bV c8) (by simp only [List.set, iA]) ?_
        intro H hO
        replace hN : List.length (List.set aA (Int.toNat j11) (gD aA a1)) = N0 := by simpa using hN
        obtain ⟨c9, h0⟩ := aZ h0
        refine cD 15 [0 ≤ a1 ∧ a1 < (lN aA)] ⟨c9, trivial⟩ ?_
        refine kO 0 lo0p 1 (0 + Int.toNat a1) (eI (gD (List.set aA (Int.toNat j11) (gD aA a1)) a1)) (eI (gD aA j11)) (List.map (eI) (List.set aA (Int.toNat j11) (gD aA a1))) [(lo0p, 1, List.map (eI) (List.set (List.set aA (Int.toNat j11) (gD aA a1)) (Int.toNat a1) (gD aA j11)))] hO (mJ c9 (by simp [])) (by simp only [List.set, iA]) ?_
        intro H hO
        replace hN : List.length (List.set (List.set aA (Int.toNat j11) (gD aA a1)) (Int.toNat a1) (gD aA j11)) = N0 := by simpa using hN
        refine mZ (by kernel_rfl) ?_
        refine eB (l := [(0, (.msl 1 lo0p 0 (List.length (List.set (List.set aA (Int.toNat j11) (gD aA a1)) (Int.toNat a1) (gD aA j11))))), (11, (eI j11))]) ⟨[(0, (.msl 1 lo0p 0 (List.length aA))), (11, (eI j11))], by kernel_rfl, rfl, ⟨aO.eq (by simp []), aO.refl _, trivial⟩⟩ ?_
        refine aG (aH (?_))
        refine aW aD 3 [11] [(8, (eI j11)), (9, (aC true))] ?_
        refine bI ?_
        obtain rfl := oI h0
        exact aG (aT (kY (x := (.tup [(eI j11), (aC true)])) (by kernel_rfl) (aO.refl _) ⟨rfl, hO.ext, hO.at 0 (by kernel_rfl), by simp only [List.length_map]; exact hN.trans hN0⟩))
      refine bQ ?_
      refine bB [(0, (.msl 1 lo0p 0 (List.length aA))), (1, (eI a1)), (10, (eI i10)), (11, (eI j11))] ?_
      refine aN ?_
      refine fX (gC []) aD 16 ?_
      obtain ⟨c10, h0⟩ := aZ h0
      refine cD 7 [0 ≤ j11 ∧ j11 < (lN aA)] ⟨c10, trivial⟩ ?_
      refine gZ 0 lo0p 1 (0 + Int.toNat j11) (eI (gD aA j11)) (eI (gD aA j11)) (List.map (eI) aA) hO (bV c10) ?_
      obtain ⟨c11, h0⟩ := aZ h0
      refine cD 11 [0 ≤ i10 ∧ i10 < (lN aA)] ⟨c11, trivial⟩ ?_
      refine gZ 0 lo0p 1 (0 + Int.toNat i10) (eI (gD aA i10)) (eI (gD aA i10)) (List.map (eI) aA) hO (bV c11) ?_
      obtain ⟨c12, h0⟩ := aZ h0
      refine cD 13 [0 ≤ i10 ∧ i10 < (lN aA)] ⟨c12, trivial⟩ ?_
      refine kO 0 lo0p 1 (0 + Int.toNat i10) (eI (gD aA i10)) (eI (gD aA j11)) (List.map (eI) aA) [(lo0p, 1, List.map (eI) (List.set aA (Int.toNat i10) (gD aA j11)))] hO (bV c12) (by simp only [List.set, iA]) ?_
      intro H hO
      replace hN : List.length (List.set aA (Int.toNat i10) (gD aA j11)) = N0 := by simpa using hN
      obtain ⟨c13, h0⟩ := aZ h0
      refine cD 15 [0 ≤ j11 ∧ j11 < (lN aA)] ⟨c13, trivial⟩ ?_
      refine kO 0 lo0p 1 (0 + Int.toNat j11) (eI (gD (List.set aA (Int.toNat i10) (gD aA j11)) j11)) (eI (gD aA i10)) (List.map (eI) (List.set aA (Int.toNat i10) (gD aA j11))) [(lo0p, 1, List.map (eI) (List.set (List.set aA (Int.toNat i10) (gD aA j11)) (Int.toNat j11) (gD aA i10)))] hO (mJ c13 (by simp [])) (by simp only [List.set, iA]) ?_
      intro H hO
      replace hN : List.length (List.set (List.set aA (Int.toNat i10) (gD aA j11)) (Int.toNat j11) (gD aA i10)) = N0 := by simpa using hN
      refine mZ (by kernel_rfl) ?_
      refine eB (l := [(0, (.msl 1 lo0p 0 (List.length (List.set (List.set aA (Int.toNat i10) (gD aA j11)) (Int.toNat j11) (gD aA i10))))), (1, (eI a1)), (10, (eI i10)), (11, (eI j11))]) ⟨[(0, (.msl 1 lo0p 0 (List.length aA))), (1, (eI a1)), (10, (eI i10)), (11, (eI j11))], by kernel_rfl, rfl, ⟨aO.eq (by simp []), aO.refl _, aO.refl _, aO.refl _, trivial⟩⟩ ?_
      refine aG (aH (?_))
      refine aW aD 3 [10] [(10, (eI (wR (i10 + (1 : Int)))))] ?_
      refine aW aD 3 [11] [(11, (eI (wR (j11 - (1 : Int)))))] ?_
      refine gX (fun T H => ∃ aA : List Int, ∃ j11 : Int, Has T [(0, (.msl 1 lo0p 0 (List.length aA))), (1, (eI a1)), (11, (eI j11))] ∧ aK ⟨H0, [lo0p], []⟩ H [(lo0p, 1, List.map (eI) aA)] ∧ List.length aA = N0 ∧ iI aA a1 j11 = some r) ?_ ?_
      · clear hO hN h0
        rintro T H ⟨aA, j11, hT, hO, hN, h0⟩
        refine bH hT ?_
        clear hT
        unfold iI at h0
        refine aN ?_
        refine fX (gC []) aD 16 ?_
        obtain ⟨c14, h0⟩ := aZ h0
        refine cD 7 [0 ≤ a1 ∧ a1 < (lN aA)] ⟨c14, trivial⟩ ?_
        refine gZ 0 lo0p 1 (0 + Int.toNat a1) (eI (gD aA a1)) (eI (gD aA a1)) (List.map (eI) aA) hO (bV c14) ?_
        obtain ⟨c15, h0⟩ := aZ h0
        refine cD 11 [0 ≤ j11 ∧ j11 < (lN aA)] ⟨c15, trivial⟩ ?_
        refine gZ 0 lo0p 1 (0 + Int.toNat j11) (eI (gD aA j11)) (eI (gD aA j11)) (List.map (eI) aA) hO (bV c15) ?_
        obtain ⟨c16, h0⟩ := aZ h0
        refine cD 13 [0 ≤ j11 ∧ j11 < (lN aA)] ⟨c16, trivial⟩ ?_
        refine kO 0 lo0p 1 (0 + Int.toNat j11) (eI (gD aA j11)) (eI (gD aA a1)) (List.map (eI) aA) [(lo0p, 1, List.map (eI) (List.set aA (Int.toNat j11) (gD aA a1)))] hO (bV c16) (by simp only [List.set, iA]) ?_
        intro H hO
        replace hN : List.length (List.set aA (Int.toNat j11) (gD aA a1)) = N0 := by simpa using hN
        obtain ⟨c17, h0⟩ := aZ h0
        refine cD 15 [0 ≤ a1 ∧ a1 < (lN aA)] ⟨c17, trivial⟩ ?_
        refine kO 0 lo0p 1 (0 + Int.toNat a1) (eI (gD (List.set aA (Int.toNat j11) (gD aA a1)) a1)) (eI (gD aA j11)) (List.map (eI) (List.set aA (Int.toNat j11) (gD aA a1))) [(lo0p, 1, List.map (eI) (List.set (List.set aA (Int.toNat j11) (gD aA a1)) (Int.toNat a1) (gD aA j11)))] hO (mJ c17 (by simp [])) (by simp only [List.set, iA]) ?_
        intro H hO
        replace hN : List.length (List.set (List.set aA (Int.toNat j11) (gD aA a1)) (Int.toNat a1) (gD aA j11)) = N0 := by simpa using hN
        refine mZ (by kernel_rfl) ?_
        refine eB (l := [(0, (.msl 1 lo0p 0 (List.length (List.set (List.set aA (Int.toNat j11) (gD aA a1)) (Int.toNat a1) (gD aA j11))))), (11, (eI j11))]) ⟨[(0, (.msl 1 lo0p 0 (List.length aA))), (11, (eI j11))], by kernel_rfl, rfl, ⟨aO.eq (by simp []), aO.refl _, trivial⟩⟩ ?_
        refine aG (aH (?_))
        refine aW aD 3 [11] [(8, (eI j11)), (9, (aC false))] ?_
        refine bI ?_
        obtain rfl := oI h0
        exact aG (kY (x := (.tup [(eI j11), (aC false)])) (by kernel_rfl) (aO.refl _) ⟨rfl, hO.ext, hO.at 0 (by kernel_rfl), by simp only [List.length_map]; exact hN.trans hN0⟩)
      refine cB 4 ?_
      refine fH [(0, (.msl 1 lo0p 0 (List.length (List.set (List.set aA (Int.toNat i10) (gD aA j11)) (Int.toNat j11) (gD aA i10))))), (1, (eI a1)), (10, (eI (wR (i10 + (1 : Int))))), (11, (eI (wR (j11 - (1 : Int)))))] ?_
      refine fI (fun T H => ∃ aA : List Int, ∃ i10 : Int, ∃ j11 : Int, Has T [(0, (.msl 1 lo0p 0 (List.length aA))), (1, (eI a1)), (10, (eI i10)), (11, (eI j11))] ∧ aK ⟨H0, [lo0p], []⟩ H [(lo0p, 1, List.map (eI) aA)] ∧ List.length aA = N0 ∧ jY aA a1 i10 j11 = some r) ?_ ⟨List.set (List.set aA (Int.toNat i10) (gD aA j11)) (Int.toNat j11) (gD aA i10), wR (i10 + (1 : Int)), wR (j11 - (1 : Int)), .eq (by kernel_rfl), hO, hN, h0⟩
      clear hO hN h0
      rintro T H ⟨aA, i10, j11, hT, hO, hN, h0⟩
      refine bH hT ?_
      clear hT
      unfold jY at h0
      obtain ⟨rr0, hl0, h0⟩ := aV h0
      refine dM (by kernel_rfl) (fun (s : List Int × Int × Int) T H => Has T [(0, (.msl 1 lo0p 0 (List.length s.1))), (1, (eI a1)), (10, (eI s.2.1)), (11, (eI s.2.2))] ∧ aK ⟨H0, [lo0p], []⟩ H [(lo0p, 1, List.map (eI) s.1)] ∧ List.length s.1 = N0) hl0 ⟨.eq (by kernel_rfl), hO, hN⟩ ?_
      clear hO hN
      rintro k0 s out1 T H ⟨hT, hO, hN⟩ h1 ho0
      obtain ⟨aA, i10, j11⟩ := s
      replace h1 : dA a1 aA i10 j11 = some out1 := h1
      try dsimp only at hT
      refine bH hT ?_
      clear hT
      unfold dA at h1
      refine cB 5 ?_
      refine gX (fun T H => ∃ aA : List Int, ∃ i10 : Int, Has T [(0, (.msl 1 lo0p 0 (List.length aA))), (1, (eI a1)), (10, (eI i10)), (11, (eI j11))] ∧ aK ⟨H0, [lo0p], []⟩ H [(lo0p, 1, List.map (eI) aA)] ∧ List.length aA = N0 ∧ iM aA a1 i10 j11 = some out1) ?_ ?_
      · clear hO hN h1
        rintro T H ⟨aA, i10, hT, hO, hN, h1⟩
        refine bH hT ?_
        clear hT
        unfold iM at h1
        refine gX (fun T H => ∃ aA : List Int, ∃ j11 : Int, Has T [(0, (.msl 1 lo0p 0 (List.length aA))), (1, (eI a1)), (10, (eI i10)), (11, (eI j11))] ∧ aK ⟨H0, [lo0p], []⟩ H [(lo0p, 1, List.map (eI) aA)] ∧ List.length aA = N0 ∧ eO aA a1 i10 j11 = some out1) ?_ ?_
        · clear hO hN h1
          rintro T H ⟨aA, j11, hT, hO, hN, h1⟩
          refine bH hT ?_
          clear hT
          unfold eO at h1
          refine aN ?_
          refine aW aD 3 [] [(134, (aC (decide (j11 < i10))))] ?_
          refine bO h1 (fun h1 => ?_) (fun h1 => ?_)
          · refine iJ 4 ?_
            obtain rfl := oI h1
            obtain rfl : _ = rr0 := ho0
            replace h0 : iI aA a1 j11 = some r := h0
            exact aG (aX (pI (by kernel_rfl) (aX (bX (aH (⟨rfl, _, _, .eq (by kernel_rfl), hO, hN, h0⟩))))))
          refine bQ ?_
          refine bB [(0, (.msl 1 lo0p 0 (List.length aA))), (1, (eI a1)), (10, (eI i10)), (11, (eI j11))] ?_
          refine aN ?_
          refine fX (gC []) aD 16 ?_
          obtain ⟨c19, h1⟩ := aZ h1
          refine cD 7 [0 ≤ j11 ∧ j11 < (lN aA)] ⟨c19, trivial⟩ ?_
          refine gZ 0 lo0p 1 (0 + Int.toNat j11) (eI (gD aA j11)) (eI (gD aA j11)) (List.map (eI) aA) hO (bV c19) ?_
          obtain ⟨c20, h1⟩ := aZ h1
          refine cD 11 [0 ≤ i10 ∧ i10 < (lN aA)] ⟨c20, trivial⟩ ?_
          refine gZ 0 lo0p 1 (0 + Int.toNat i10) (eI (gD aA i10)) (eI (gD aA i10)) (List.map (eI) aA) hO (bV c20) ?_
          obtain ⟨c21, h1⟩ := aZ h1
          refine cD 13 [0 ≤ i10 ∧ i10 < (lN aA)] ⟨c21, trivial⟩ ?_
          refine kO 0 lo0p 1 (0 + Int.toNat i10) (eI (gD aA i10)) (eI (gD aA j11)) (List.map (eI) aA) [(lo0p, 1, List.map (eI) (List.set aA (Int.toNat i10) (gD aA j11)))] hO (bV c21) (by simp only [List.set, iA]) ?_
          intro H hO
          replace hN : List.length (List.set aA (Int.toNat i10) (gD aA j11)) = N0 := by simpa using hN
          obtain ⟨c22, h1⟩ := aZ h1
          refine cD 15 [0 ≤ j11 ∧ j11 < (lN aA)] ⟨c22, trivial⟩ ?_
          refine kO 0 lo0p 1 (0 + Int.toNat j11) (eI (gD (List.set aA (Int.toNat i10) (gD aA j11)) j11)) (eI (gD aA i10)) (List.map (eI) (List.set aA (Int.toNat i10) (gD aA j11))) [(lo0p, 1, List.map (eI) (List.set (List.set aA (Int.toNat i10) (gD aA j11)) (Int.toNat j11) (gD aA i10)))] hO (mJ c22 (by simp [])) (by simp only [List.set, iA]) ?_
          intro H hO
          replace hN : List.length (List.set (List.set aA (Int.toNat i10) (gD aA j11)) (Int.toNat j11) (gD aA i10)) = N0 := by simpa using hN
          refine mZ (by kernel_rfl) ?_
          refine eB (l := [(0, (.msl 1 lo0p 0 (List.length (List.set (List.set aA (Int.toNat i10) (gD aA j11)) (Int.toNat j11) (gD aA i10))))), (1, (eI a1)), (10, (eI i10)), (11, (eI j11))]) ⟨[(0, (.msl 1 lo0p 0 (List.length aA))), (1, (eI a1)), (10, (eI i10)), (11, (eI j11))], by kernel_rfl, rfl, ⟨aO.eq (by simp []), aO.refl _, aO.refl _, aO.refl _, trivial⟩⟩ ?_
          refine aG (aH (?_))
          refine aW aD 3 [10] [(10, (eI (wR (i10 + (1 : Int)))))] ?_
          refine aU aD 3 ?_
          refine bA ?_
          exact aG (aY (aH (⟨rfl, _, (oI h1).symm, .eq (by kernel_rfl), hO, hN⟩)))
        refine cB 8 ?_
        refine fH [(0, (.msl 1 lo0p 0 (List.length aA))), (1, (eI a1)), (10, (eI i10)), (11, (eI j11))] ?_
        refine fI (fun T H => ∃ aA : List Int, ∃ j11 : Int, Has T [(0, (.msl 1 lo0p 0 (List.length aA))), (1, (eI a1)), (10, (eI i10)), (11, (eI j11))] ∧ aK ⟨H0, [lo0p], []⟩ H [(lo0p, 1, List.map (eI) aA)] ∧ List.length aA = N0 ∧ jW aA a1 i10 j11 = some out1) ?_ ⟨aA, j11, .eq (by kernel_rfl), hO, hN, h1⟩
        clear hO hN h1
        rintro T H ⟨aA, j11, hT, hO, hN, h1⟩
        refine bH hT ?_
        clear hT
        unfold jW at h1
        obtain ⟨rr1, hl1, h1⟩ := aV h1
        refine dM (by kernel_rfl) (fun (s : List Int × Int) T H => Has T [(0, (.msl 1 lo0p 0 (List.length s.1))), (1, (eI a1)), (10, (eI i10)), (11, (eI s.2))] ∧ aK ⟨H0, [lo0p], []⟩ H [(lo0p, 1, List.map (eI) s.1)] ∧ List.length s.1 = N0) hl1 ⟨.eq (by kernel_rfl), hO, hN⟩ ?_
        clear hO hN
        rintro k1 s out2 T H ⟨hT, hO, hN⟩ h2 ho1
        obtain ⟨aA, j11⟩ := s
        replace h2 : eN a1 i10 aA j11 = some out2 := h2
        try dsimp only at hT
        refine bH hT ?_
        clear hT
        unfold eN at h2
        refine aN ?_
        refine aN ?_
        obtain ⟨c23, h2⟩ := aZ h2
        obtain ⟨c24, h2⟩ := aZ h2
        obtain ⟨x25, hx26, h2⟩ := aV h2
        refine fX (gC []) aD 15 ?_
        refine oK (K := fun T H => Has (lift T) [(0, (.msl 1 lo0p 0 (List.length aA))), (1, (eI a1)), (10, (eI i10)), (11, (eI j11)), (129, (aC ((decide (i10 ≤ j11)) && (!x25))))] ∧ aK ⟨H0, [lo0p], []⟩ H [(lo0p, 1, List.map (eI) aA)]) ?_ ?_
        · refine lT 4 ?_
          refine mP (t := 118) (e := decide (i10 ≤ j11)) (by kernel_rfl) (fun hg27 => ?_) (fun hg27 => ?_)
          · refine cD 7 [0 ≤ j11 ∧ j11 < (lN aA)] ⟨(c23 hg27), trivial⟩ ?_
            refine jJ 0 lo0p 1 (0 + Int.toNat j11) (eI (gD aA j11)) (eI (gD aA j11)) (List.map (eI) aA) (by kernel_rfl) (by kernel_rfl) (by kernel_rfl) hO (by kernel_rfl) (bV (c23 hg27)) ?_
            refine cD 11 [0 ≤ a1 ∧ a1 < (lN aA)] ⟨(c24 hg27), trivial⟩ ?_
            refine jJ 0 lo0p 1 (0 + Int.toNat a1) (eI (gD aA a1)) (eI (gD aA a1)) (List.map (eI) aA) (by kernel_rfl) (by kernel_rfl) (by kernel_rfl) hO (by kernel_rfl) (bV (c24 hg27)) ?_
            refine nD 84 [(eI (gD aA j11)), (eI (gD aA a1))] (aC x25) (by kernel_rfl) (by kernel_rfl) (fL (gD aA j11) (gD aA a1) _ (iW hx26 hg27)) hO ?_
            intro H hO
            refine jP ?_
            exact ⟨⟨[(0, (.msl 1 lo0p 0 (List.length aA))), (1, (eI a1)), (10, (eI i10)), (11, (eI j11)), (129, (aC (!x25)))], by kernel_rfl, rfl, ⟨aO.refl _, aO.refl _, aO.refl _, aO.refl _, aO.eq (congrArg aC (nF hg27 rfl).symm), trivial⟩⟩, hO⟩
          refine jP ?_
          exact ⟨⟨[(0, (.msl 1 lo0p 0 (List.length aA))), (1, (eI a1)), (10, (eI i10)), (11, (eI j11)), (129, (aC false))], by kernel_rfl, rfl, ⟨aO.refl _, aO.refl _, aO.refl _, aO.refl _, aO.eq (congrArg aC (nF hg27 rfl).symm), trivial⟩⟩, hO⟩
        · rintro T H ⟨hT, hO⟩
          refine eB hT ?_
          clear hT
          refine aG (aH ?_)
          refine bO h2 (fun h2 => ?_) (fun h2 => ?_)
          · refine bQ ?_
            refine bB [(0, (.msl 1 lo0p 0 (List.length aA))), (1, (eI a1)), (10, (eI i10)), (11, (eI j11))] ?_
            refine cB 9 ?_
            refine aU aD 3 ?_
            refine bA ?_
            exact aG (aY (aH (⟨rfl, _, (oI h2).symm, .eq (by kernel_rfl), hO, hN⟩)))
          refine iJ 8 ?_
          obtain rfl := oI h2
          obtain rfl : _ = rr1 := ho1
          replace h1 : eO aA a1 i10 j11 = some out1 := h1
          exact aG (aX (aX (bX (aH (⟨rfl, _, _, .eq (by kernel_rfl), hO, hN, h1⟩)))))
      refine cB 6 ?_
      refine fH [(0, (.msl 1 lo0p 0 (List.length aA))), (1, (eI a1)), (10, (eI i10)), (11, (eI j11))] ?_
      refine fI (fun T H => ∃ aA : List Int, ∃ i10 : Int, Has T [(0, (.msl 1 lo0p 0 (List.length aA))), (1, (eI a1)), (10, (eI i10)), (11, (eI j11))] ∧ aK ⟨H0, [lo0p], []⟩ H [(lo0p, 1, List.map (eI) aA)] ∧ List.length aA = N0 ∧ jU aA a1 i10 j11 = some out1) ?_ ⟨aA, i10, .eq (by kernel_rfl), hO, hN, h1⟩
      clear hO hN h1
      rintro T H ⟨aA, i10, hT, hO, hN, h1⟩
      refine bH hT ?_
      clear hT
      unfold jU at h1
      obtain ⟨rr1, hl1, h1⟩ := aV h1
      refine dM (by kernel_rfl) (fun (s : List Int × Int) T H => Has T [(0, (.msl 1 lo0p 0 (List.length s.1))), (1, (eI a1)), (10, (eI s.2)), (11, (eI j11))] ∧ aK ⟨H0, [lo0p], []⟩ H [(lo0p, 1, List.map (eI) s.1)] ∧ List.length s.1 = N0) hl1 ⟨.eq (by kernel_rfl), hO, hN⟩ ?_
      clear hO hN
      rintro k1 s out2 T H ⟨hT, hO, hN⟩ h2 ho1
      obtain ⟨aA, i10⟩ := s
      replace h2 : eM a1 j11 aA i10 = some out2 := h2
      try dsimp only at hT
      refine bH hT ?_
      clear hT
      unfold eM at h2
      refine aN ?_
      refine aN ?_
      obtain ⟨c29, h2⟩ := aZ h2
      obtain ⟨c30, h2⟩ := aZ h2
      obtain ⟨x31, hx32, h2⟩ := aV h2
      refine fX (gC []) aD 14 ?_
      refine oK (K := fun T H => Has (lift T) [(0, (.msl 1 lo0p 0 (List.length aA))), (1, (eI a1)), (10, (eI i10)), (11, (eI j11)), (112, (aC ((decide (i10 ≤ j11)) && x31)))] ∧ aK ⟨H0, [lo0p], []⟩ H [(lo0p, 1, List.map (eI) aA)]) ?_ ?_
      · refine lT 4 ?_
        refine mP (t := 102) (e := decide (i10 ≤ j11)) (by kernel_rfl) (fun hg33 => ?_) (fun hg33 => ?_)
        · refine cD 7 [0 ≤ i10 ∧ i10 < (lN aA)] ⟨(c29 hg33), trivial⟩ ?_
          refine jJ 0 lo0p 1 (0 + Int.toNat i10) (eI (gD aA i10)) (eI (gD aA i10)) (List.map (eI) aA) (by kernel_rfl) (by kernel_rfl) (by kernel_rfl) hO (by kernel_rfl) (bV (c29 hg33)) ?_
          refine cD 11 [0 ≤ a1 ∧ a1 < (lN aA)] ⟨(c30 hg33), trivial⟩ ?_
          refine jJ 0 lo0p 1 (0 + Int.toNat a1) (eI (gD aA a1)) (eI (gD aA a1)) (List.map (eI) aA) (by kernel_rfl) (by kernel_rfl) (by kernel_rfl) hO (by kernel_rfl) (bV (c30 hg33)) ?_
          refine nD 84 [(eI (gD aA i10)), (eI (gD aA a1))] (aC x31) (by kernel_rfl) (by kernel_rfl) (fL (gD aA i10) (gD aA a1) _ (iW hx32 hg33)) hO ?_
          intro H hO
          refine jP ?_
          exact ⟨⟨[(0, (.msl 1 lo0p 0 (List.length aA))), (1, (eI a1)), (10, (eI i10)), (11, (eI j11)), (112, (aC x31))], by kernel_rfl, rfl, ⟨aO.refl _, aO.refl _, aO.refl _, aO.refl _, aO.eq (congrArg aC (nF hg33 rfl).symm), trivial⟩⟩, hO⟩
        refine jP ?_
        exact ⟨⟨[(0, (.msl 1 lo0p 0 (List.length aA))), (1, (eI a1)), (10, (eI i10)), (11, (eI j11)), (112, (aC false))], by kernel_rfl, rfl, ⟨aO.refl _, aO.refl _, aO.refl _, aO.refl _, aO.eq (congrArg aC (nF hg33 rfl).symm), trivial⟩⟩, hO⟩
      · rintro T H ⟨hT, hO⟩
        refine eB hT ?_
        clear hT
        refine aG (aH ?_)
        refine bO h2 (fun h2 => ?_) (fun h2 => ?_)
        · refine bQ ?_
          refine bB [(0, (.msl 1 lo0p 0 (List.length aA))), (1, (eI a1)), (10, (eI i10)), (11, (eI j11))] ?_
          refine cB 7 ?_
          refine aU aD 3 ?_
          refine bA ?_
          exact aG (aY (aH (⟨rfl, _, (oI h2).symm, .eq (by kernel_rfl), hO, hN⟩)))
        refine iJ 6 ?_
        obtain rfl := oI h2
        obtain rfl : _ = rr1 := ho1
        replace h1 : iM aA a1 i10 j11 = some out1 := h1
        exact aG (aX (aX (bX (aH (⟨rfl, _, _, .eq (by kernel_rfl), hO, hN, h1⟩)))))
    refine cB 2 ?_
    refine fH [(0, (.msl 1 lo0p 0 (List.length aA))), (1, (eI a1)), (10, (eI i10)), (11, (eI j11))] ?_
    refine fI (fun T H => ∃ aA : List Int, ∃ j11 : Int, Has T [(0, (.msl 1 lo0p 0 (List.length aA))), (1, (eI a1)), (10, (eI i10)), (11, (eI j11))] ∧ aK ⟨H0, [lo0p], []⟩ H [(lo0p, 1, List.map (eI) aA)] ∧ List.length aA = N0 ∧ jX aA a1 i10 j11 = some r) ?_ ⟨aA, j11, .eq (by kernel_rfl), hO, hN, h0⟩
    clear hO hN h0
    rintro T H ⟨aA, j11, hT, hO, hN, h0⟩
    refine bH hT ?_
    clear hT
    unfold jX at h0
    obtain ⟨rr0, hl0, h0⟩ := aV h0
    refine dM (by kernel_rfl) (fun (s : List Int × Int) T H => Has T [(0, (.msl 1 lo0p 0 (List.length s.1))), (1, (eI a1)), (10, (eI i10)), (11, (eI s.2))] ∧ aK ⟨H0, [lo0p], []⟩ H [(lo0p, 1, List.map (eI) s.1)] ∧ List.length s.1 = N0) hl0 ⟨.eq (by kernel_rfl), hO, hN⟩ ?_
    clear hO hN
    rintro k0 s out1 T H ⟨hT, hO, hN⟩ h1 ho0
    obtain ⟨aA, j11⟩ := s
    replace h1 : eJ a1 i10 aA j11 = some out1 := h1
    try dsimp only at hT
    refine bH hT ?_
    clear hT
    unfold eJ at h1
    refine aN ?_
    refine aN ?_
    obtain ⟨c35, h1⟩ := aZ h1
    obtain ⟨c36, h1⟩ := aZ h1
    obtain ⟨x37, hx38, h1⟩ := aV h1
    refine fX (gC []) aD 15 ?_
    refine oK (K := fun T H => Has (lift T) [(0, (.msl 1 lo0p 0 (List.length aA))), (1, (eI a1)), (10, (eI i10)), (11, (eI j11)), (60, (aC ((decide (i10 ≤ j11)) && (!x37))))] ∧ aK ⟨H0, [lo0p], []⟩ H [(lo0p, 1, List.map (eI) aA)]) ?_ ?_
    · refine lT 4 ?_
      refine mP (t := 49) (e := decide (i10 ≤ j11)) (by kernel_rfl) (fun hg39 => ?_) (fun hg39 => ?_)
      · refine cD 7 [0 ≤ j11 ∧ j11 < (lN aA)] ⟨(c35 hg39), trivial⟩ ?_
        refine jJ 0 lo0p 1 (0 + Int.toNat j11) (eI (gD aA j11)) (eI (gD aA j11)) (List.map (eI) aA) (by kernel_rfl) (by kernel_rfl) (by kernel_rfl) hO (by kernel_rfl) (bV (c35 hg39)) ?_
        refine cD 11 [0 ≤ a1 ∧ a1 < (lN aA)] ⟨(c36 hg39), trivial⟩ ?_
        refine jJ 0 lo0p 1 (0 + Int.toNat a1) (eI (gD aA a1)) (eI (gD aA a1)) (List.map (eI) aA) (by kernel_rfl) (by kernel_rfl) (by kernel_rfl) hO (by kernel_rfl) (bV (c36 hg39)) ?_
        refine nD 84 [(eI (gD aA j11)), (eI (gD aA a1))] (aC x37) (by kernel_rfl) (by kernel_rfl) (fL (gD aA j11) (gD aA a1) _ (iW hx38 hg39)) hO ?_
        intro H hO
        refine jP ?_
        exact ⟨⟨[(0, (.msl 1 lo0p 0 (List.length aA))), (1, (eI a1)), (10, (eI i10)), (11, (eI j11)), (60, (aC (!x37)))], by kernel_rfl, rfl, ⟨aO.refl _, aO.refl _, aO.refl _, aO.refl _, aO.eq (congrArg aC (nF hg39 rfl).symm), trivial⟩⟩, hO⟩
      refine jP ?_
      exact ⟨⟨[(0, (.msl 1 lo0p 0 (List.length aA))), (1, (eI a1)), (10, (eI i10)), (11, (eI j11)), (60, (aC false))], by kernel_rfl, rfl, ⟨aO.refl _, aO.refl _, aO.refl _, aO.refl _, aO.eq (congrArg aC (nF hg39 rfl).symm), trivial⟩⟩, hO⟩
    · rintro T H ⟨hT, hO⟩
      refine eB hT ?_
      clear hT
      refine aG (aH ?_)
      refine bO h1 (fun h1 => ?_) (fun h1 => ?_)
      · refine bQ ?_
        refine bB [(0, (.msl 1 lo0p 0 (List.length aA))), (1, (eI a1)), (10, (eI i10)), (11, (eI j11))] ?_
        refine cB 3 ?_
        refine aU aD 3 ?_
        refine bA ?_
        exact aG (aY (aH (⟨rfl, _, (oI h1).symm, .eq (by kernel_rfl), hO, hN⟩)))
      refine iJ 2 ?_
      obtain rfl := oI h1
      obtain rfl : _ = rr0 := ho0
      replace h0 : eG aA a1 i10 j11 = some r := h0
      exact aG (aX (aX (bX (aH (⟨rfl, _, _, .eq (by kernel_rfl), hO, hN, h0⟩)))))
  refine cB 0 ?_
  refine fH [(0, (.msl 1 lo0p 0 (List.length (List.set (List.set aA (Int.toNat a1) (gD aA cG)) (Int.toNat cG) (gD aA a1))))), (1, (eI a1)), (10, (eI (wR (a1 + (1 : Int))))), (11, (eI (wR (b2 - (1 : Int)))))] ?_
  refine fI (fun T H => ∃ aA : List Int, ∃ i10 : Int, ∃ j11 : Int, Has T [(0, (.msl 1 lo0p 0 (List.length aA))), (1, (eI a1)), (10, (eI i10)), (11, (eI j11))] ∧ aK ⟨H0, [lo0p], []⟩ H [(lo0p, 1, List.map (eI) aA)] ∧ List.length aA = N0 ∧ fG aA a1 i10 j11 = some r) ?_ ⟨List.set (List.set aA (Int.toNat a1) (gD aA cG)) (Int.toNat cG) (gD aA a1), wR (a1 + (1 : Int)), wR (b2 - (1 : Int)), .eq (by kernel_rfl), hO, hN, h0⟩
  clear hO hN h0
  rintro T H ⟨aA, i10, j11, hT, hO, hN, h0⟩
  refine bH hT ?_
  clear hT
  unfold fG at h0
  obtain ⟨rr0, hl0, h0⟩ := aV h0
  refine dM (by kernel_rfl) (fun (s : List Int × Int) T H => Has T [(0, (.msl 1 lo0p 0 (List.length s.1))), (1, (eI a1)), (10, (eI s.2)), (11, (eI j11))] ∧ aK ⟨H0, [lo0p], []⟩ H [(lo0p, 1, List.map (eI) s.1)] ∧ List.length s.1 = N0) hl0 ⟨.eq (by kernel_rfl), hO, hN⟩ ?_
  clear hO hN
  rintro k0 s out1 T H ⟨hT, hO, hN⟩ h1 ho0
  obtain ⟨aA, i10⟩ := s
  replace h1 : eD a1 j11 aA i10 = some out1 := h1
  try dsimp only at hT
  refine bH hT ?_
  clear hT
  unfold eD at h1
  refine aN ?_
  refine aN ?_
  obtain ⟨c41, h1⟩ := aZ h1
  obtain ⟨c42, h1⟩ := aZ h1
  obtain ⟨x43, hx44, h1⟩ := aV h1
  refine fX (gC []) aD 14 ?_
  refine oK (K := fun T H => Has (lift T) [(0, (.msl 1 lo0p 0 (List.length aA))), (1, (eI a1)), (10, (eI i10)), (11, (eI j11)), (43, (aC ((decide (i10 ≤ j11)) && x43)))] ∧ aK ⟨H0, [lo0p], []⟩ H [(lo0p, 1, List.map (eI) aA)]) ?_ ?_
  · refine lT 4 ?_
    refine mP (t := 33) (e := decide (i10 ≤ j11)) (by kernel_rfl) (fun hg45 => ?_) (fun hg45 => ?_)
    · refine cD 7 [0 ≤ i10 ∧ i10 < (lN aA)] ⟨(c41 hg45), trivial⟩ ?_
      refine jJ 0 lo0p 1 (0 + Int.toNat i10) (eI (gD aA i10)) (eI (gD aA i10)) (List.map (eI) aA) (by kernel_rfl) (by kernel_rfl) (by kernel_rfl) hO (by kernel_rfl) (bV (c41 hg45)) ?_
      refine cD 11 [0 ≤ a1 ∧ a1 < (lN aA)] ⟨(c42 hg45), trivial⟩ ?_
      refine jJ 0 lo0p 1 (0 + Int.toNat a1) (eI (gD aA a1)) (eI (gD aA a1)) (List.map (eI) aA) (by kernel_rfl) (by kernel_rfl) (by kernel_rfl) hO (by kernel_rfl) (bV (c42 hg45)) ?_
      refine nD 84 [(eI (gD aA i10)), (eI (gD aA a1))] (aC x43) (by kernel_rfl) (by kernel_rfl) (fL (gD aA i10) (gD aA a1) _ (iW hx44 hg45)) hO ?_
      intro H hO
      refine jP ?_
      exact ⟨⟨[(0, (.msl 1 lo0p 0 (List.length aA))), (1, (eI a1)), (10, (eI i10)), (11, (eI j11)), (43, (aC x43))], by kernel_rfl, rfl, ⟨aO.refl _, aO.refl _, aO.refl _, aO.refl _, aO.eq (congrArg aC (nF hg45 rfl).symm), trivial⟩⟩, hO⟩
    refine jP ?_
    exact ⟨⟨[(0, (.msl 1 lo0p 0 (List.length aA))), (1, (eI a1)), (10, (eI i10)), (11, (eI j11)), (43, (aC false))], by kernel_rfl, rfl, ⟨aO.refl _, aO.refl _, aO.refl _, aO.refl _, aO.eq (congrArg aC (nF hg45 rfl).symm), trivial⟩⟩, hO⟩
  · rintro T H ⟨hT, hO⟩
    refine eB hT ?_
    clear hT
    refine aG (aH ?_)
    refine bO h1 (fun h1 => ?_) (fun h1 => ?_)
    · refine bQ ?_
      refine bB [(0, (.msl 1 lo0p 0 (List.length aA))), (1, (eI a1)), (10, (eI i10)), (11, (eI j11))] ?_
      refine cB 1 ?_
      refine aU aD 3 ?_
      refine bA ?_
      exact aG (aY (aH (⟨rfl, _, (oI h1).symm, .eq (by kernel_rfl), hO, hN⟩)))
    refine iJ 0 ?_
    obtain rfl := oI h1
    obtain rfl : _ = rr0 := ho0
    replace h0 : iK aA a1 i10 j11 = some r := h0
    exact aG (aX (aX (bX (aH (⟨rfl, _, _, _, .eq (by kernel_rfl), hO, hN, h0⟩)))))

theorem uS  (rec : (List Int) → Int → Int → Int → Option (List Int)) (ih : ∀ (lo0p : Nat) (aA : (List Int)) (a1 : Int) (b2 : Int) (bU : Int) (r : List Int), rec aA a1 b2 bU = some r → mV Try.prog 61 lo0p 1 (List.map (eI) aA) (List.map (eI) r) [(.msl 1 lo0p 0 (List.length aA)), (eI a1), (eI b2), (eI bU)] (.tup [])) (lo0p : Nat) (aA : (List Int)) (a1 : Int) (b2 : Int) (bU : Int) (r : List Int) (h0 : fK rec aA a1 b2 bU = some r) : mV Try.prog 61 lo0p 1 (List.map (eI) aA) (List.map (eI) r) [(.msl 1 lo0p 0 (List.length aA)), (eI a1), (eI b2), (eI bU)] (.tup []) := by
  intro H0 hl0
  refine dF Try.func61 ?_
  have hO := aK.rI hl0
  clear hl0
  obtain ⟨N0, hN0⟩ : ∃ n, n = List.length aA := ⟨_, rfl⟩
  have hN : List.length aA = N0 := hN0.symm
  unfold fK at h0
  refine aW aD 1 [] [(8, (aC true))] ?_
  refine aW aD 1 [] [(9, (aC true))] ?_
  refine cB 0 ?_
  refine fH [(0, (.msl 1 lo0p 0 (List.length aA))), (1, (eI a1)), (2, (eI b2)), (3, (eI bU)), (8, (aC true)), (9, (aC true))] ?_
  refine fI (fun T H => ∃ aA : List Int, ∃ a1 : Int, ∃ b2 : Int, ∃ bU : Int, ∃ bR : Bool, ∃ bL : Bool, Has T [(0, (.msl 1 lo0p 0 (List.length aA))), (1, (eI a1)), (2, (eI b2)), (3, (eI bU)), (8, (aC bR)), (9, (aC bL))] ∧ aK ⟨H0, [lo0p], []⟩ H [(lo0p, 1, List.map (eI) aA)] ∧ List.length aA = N0 ∧ kN rec aA a1 b2 bU bR bL = some r) ?_ ⟨aA, a1, b2, bU, true, true, .eq (by kernel_rfl), hO, hN, h0⟩
  clear hO hN h0
  rintro T H ⟨aA, a1, b2, bU, bR, bL, hT, hO, hN, h0⟩
  refine bH hT ?_
  clear hT
  unfold kN at h0
  obtain ⟨rr0, hl0, h0⟩ := aV h0
  refine dM (by kernel_rfl) (fun (s : List Int × Int × Int × Int × Bool × Bool) T H => Has T [(0, (.msl 1 lo0p 0 (List.length s.1))), (1, (eI s.2.1)), (2, (eI s.2.2.1)), (3, (eI s.2.2.2.1)), (8, (aC s.2.2.2.2.1)), (9, (aC s.2.2.2.2.2))] ∧ aK ⟨H0, [lo0p], []⟩ H [(lo0p, 1, List.map (eI) s.1)] ∧ List.length s.1 = N0) hl0 ⟨.eq (by kernel_rfl), hO, hN⟩ ?_
  clear hO hN
  rintro k0 s out1 T H ⟨hT, hO, hN⟩ h1 ho0
  obtain ⟨aA, a1, b2, bU, bR, bL⟩ := s
  replace h1 : dZ rec aA a1 b2 bU bR bL = some out1 := h1
  try dsimp only at hT
  refine bH hT ?_
  clear hT
  unfold dZ at h1
  refine cB 1 ?_
  refine aW aD 4 [] [(10, (eI (wR (b2 - a1))))] ?_
  refine aN ?_
  refine aW aD 2 [] [(23, (aC (decide ((wR (b2 - a1)) ≤ (12 : Int)))))] ?_
  refine bO h1 (fun h1 => ?_) (fun h1 => ?_)
  · refine aN ?_
    refine aU aD 4 ?_
    refine bK 3 ?_
    obtain ⟨x2, hx3, h1⟩ := aV h1
    refine wS [(lo0p, 1, List.map (eI) x2)] 0 (uA lo0p aA a1 b2 _ hx3) hO ?_
    intro H hO hl4
    simp only [List.length_map] at hl4
    replace hN := hl4.trans hN
    refine dJ ?_
    refine eB (l := [(0, (.msl 1 lo0p 0 (List.length x2)))]) ⟨[(0, (.msl 1 lo0p 0 (List.length aA)))], by kernel_rfl, rfl, ⟨aO.eq (by simp [hl4]), trivial⟩⟩ ?_
    refine aG (aH (?_))
    refine bI ?_
    obtain rfl := oI h1
    obtain rfl : _ = rr0 := ho0
    replace h0 : some x2 = some r := h0
    obtain rfl := oI h0
    exact aG (aT (bF (aT (bF (kY (x := (.tup [])) (by kernel_rfl) (aO.refl _) ⟨rfl, hO.ext, hO.at 0 (by kernel_rfl), by simp only [List.length_map]; exact hN.trans hN0⟩)))))
  refine bQ ?_
  refine bB [(0, (.msl 1 lo0p 0 (List.length aA))), (1, (eI a1)), (2, (eI b2)), (3, (eI bU)), (8, (aC bR)), (9, (aC bL)), (10, (eI (wR (b2 - a1))))] ?_
  refine aN ?_
  refine aW aD 2 [] [(29, (aC (decide (bU = (0 : Int)))))] ?_
  refine bO h1 (fun h1 => ?_) (fun h1 => ?_)
  · refine aN ?_
    refine aU aD 4 ?_
    refine bK 3 ?_
    obtain ⟨x6, hx7, h1⟩ := aV h1
    refine wS [(lo0p, 1, List.map (eI) x6)] 0 (wU lo0p aA a1 b2 _ hx7) hO ?_
    intro H hO hl8
    simp only [List.length_map] at hl8
    replace hN := hl8.trans hN
    refine dJ ?_
    refine eB (l := [(0, (.msl 1 lo0p 0 (List.length x6)))]) ⟨[(0, (.msl 1 lo0p 0 (List.length aA)))], by kernel_rfl, rfl, ⟨aO.eq (by simp [hl8]), trivial⟩⟩ ?_
    refine aG (aH (?_))
    refine bI ?_
    obtain rfl := oI h1
    obtain rfl : _ = rr0 := ho0
    replace h0 : some x6 = some r := h0
    obtain rfl := oI h0
    exact aG (aT (bF (aT (bF (kY (x := (.tup [])) (by kernel_rfl) (aO.refl _) ⟨rfl, hO.ext, hO.at 0 (by kernel_rfl), by simp only [List.length_map]; exact hN.trans hN0⟩)))))
  refine bQ ?_
  refine bB [(0, (.msl 1 lo0p 0 (List.length aA))), (1, (eI a1)), (2, (eI b2)), (3, (eI bU)), (8, (aC bR)), (9, (aC bL)), (10, (eI (wR (b2 - a1))))] ?_
  refine gX (fun T H => ∃ aA : List Int, ∃ bU : Int, ∃ dS : Int, Has T [(0, (.msl 1 lo0p 0 (List.length aA))), (1, (eI a1)), (2, (eI b2)), (3, (eI bU)), (8, (aC bR)), (9, (aC bL)), (10, (eI dS))] ∧ aK ⟨H0, [lo0p], []⟩ H [(lo0p, 1, List.map (eI) aA)] ∧ List.length aA = N0 ∧ gU rec aA a1 b2 bU bR bL dS = some out1) ?_ ?_
  · clear hO hN h1
    rintro T H ⟨aA, bU, dS, hT, hO, hN, h1⟩
    refine bH hT ?_
    clear hT
    unfold gU at h1
    refine aN ?_
    refine aU aD 9 ?_
    refine bK 3 ?_
    obtain ⟨x9, hx10, h1⟩ := aV h1
    refine AS [] [0] (vD lo0p aA a1 b2 _ hx10) hO ?_
    intro r11 L12 H hP13 hO
    obtain ⟨rfl, rfl⟩ := hP13
    replace hO : aK ⟨H0, [lo0p], []⟩ H [(lo0p, 1, List.map (eI) aA)] := hO
    refine bA ?_
    refine bT [] [(11, (eI x9.1)), (12, (eI x9.2))] ?_
    refine gX (fun T H => ∃ aA : List Int, ∃ fO : Int, ∃ BF : Int, Has T [(0, (.msl 1 lo0p 0 (List.length aA))), (1, (eI a1)), (2, (eI b2)), (3, (eI bU)), (8, (aC bR)), (9, (aC bL)), (10, (eI dS)), (11, (eI fO)), (12, (eI BF))] ∧ aK ⟨H0, [lo0p], []⟩ H [(lo0p, 1, List.map (eI) aA)] ∧ List.length aA = N0 ∧ gS rec aA a1 b2 bU bR bL dS fO BF = some out1) ?_ ?_
    · clear hO hN h1
      rintro T H ⟨aA, fO, BF, hT, hO, hN, h1⟩
      refine bH hT ?_
      clear hT
      unfold gS at h1
      refine gX (fun T H => ∃ aA : List Int, Has T [(0, (.msl 1 lo0p 0 (List.length aA))), (1, (eI a1)), (2, (eI b2)), (3, (eI bU)), (8, (aC bR)), (9, (aC bL)), (10, (eI dS)), (11, (eI fO))] ∧ aK ⟨H0, [lo0p], []⟩ H [(lo0p, 1, List.map (eI) aA)] ∧ List.length aA = N0 ∧ gQ rec aA a1 b2 bU bR bL dS fO = some out1) ?_ ?_
      · clear hO hN h1
        rintro T H ⟨aA, hT, hO, hN, h1⟩
        refine bH hT ?_
        clear hT
        unfold gQ at h1
        refine aN ?_
        refine aN ?_
        obtain ⟨c14, h1⟩ := aZ h1
        obtain ⟨c15, h1⟩ := aZ h1
        obtain ⟨x16, hx17, h1⟩ := aV h1
        refine fX (gC []) aD 15 ?_
        refine oK (K := fun T H => Has (lift T) [(0, (.msl 1 lo0p 0 (List.length aA))), (1, (eI a1)), (2, (eI b2)), (3, (eI bU)), (8, (aC bR)), (9, (aC bL)), (10, (eI dS)), (11, (eI fO)), (87, (aC ((decide ((0 : Int) < a1)) && (!x16))))] ∧ aK ⟨H0, [lo0p], []⟩ H [(lo0p, 1, List.map (eI) aA)]) ?_ ?_
        · refine lT 3 ?_
          refine mP (t := 75) (e := decide ((0 : Int) < a1)) (by kernel_rfl) (fun hg18 => ?_) (fun hg18 => ?_)
          · refine cD 7 [0 ≤ (wR (a1 - (1 : Int))) ∧ (wR (a1 - (1 : Int))) < (lN aA)] ⟨(c14 hg18), trivial⟩ ?_
            refine jJ 0 lo0p 1 (0 + Int.toNat (wR (a1 - (1 : Int)))) (eI (gD aA (wR (a1 - (1 : Int))))) (eI (gD aA (wR (a1 - (1 : Int))))) (List.map (eI) aA) (by kernel_rfl) (by kernel_rfl) (by kernel_rfl) hO (by kernel_rfl) (bV (c14 hg18)) ?_
            refine cD 11 [0 ≤ fO ∧ fO < (lN aA)] ⟨(c15 hg18), trivial⟩ ?_
            refine jJ 0 lo0p 1 (0 + Int.toNat fO) (eI (gD aA fO)) (eI (gD aA fO)) (List.map (eI) aA) (by kernel_rfl) (by kernel_rfl) (by kernel_rfl) hO (by kernel_rfl) (bV (c15 hg18)) ?_
            refine nD 84 [(eI (gD aA (wR (a1 - (1 : Int))))), (eI (gD aA fO))] (aC x16) (by kernel_rfl) (by kernel_rfl) (fL (gD aA (wR (a1 - (1 : Int)))) (gD aA fO) _ (iW hx17 hg18)) hO ?_
            intro H hO
            refine jP ?_
            exact ⟨⟨[(0, (.msl 1 lo0p 0 (List.length aA))), (1, (eI a1)), (2, (eI b2)), (3, (eI bU)), (8, (aC bR)), (9, (aC bL)), (10, (eI dS)), (11, (eI fO)), (87, (aC (!x16)))], by kernel_rfl, rfl, ⟨aO.refl _, aO.refl _, aO.refl _, aO.refl _, aO.refl _, aO.refl _, aO.refl _, aO.refl _, aO.eq (congrArg aC (nF hg18 rfl).symm), trivial⟩⟩, hO⟩
          refine jP ?_
          exact ⟨⟨[(0, (.msl 1 lo0p 0 (List.length aA))), (1, (eI a1)), (2, (eI b2)), (3, (eI bU)), (8, (aC bR)), (9, (aC bL)), (10, (eI dS)), (11, (eI fO)), (87, (aC false))], by kernel_rfl, rfl, ⟨aO.refl _, aO.refl _, aO.refl _, aO.refl _, aO.refl _, aO.refl _, aO.refl _, aO.refl _, aO.eq (congrArg aC (nF hg18 rfl).symm), trivial⟩⟩, hO⟩
        · rintro T H ⟨hT, hO⟩
          refine eB hT ?_
          clear hT
          refine aG (aH ?_)
          refine bO h1 (fun h1 => ?_) (fun h1 => ?_)
          · refine aN ?_
            refine aU aD 6 ?_
            refine bK 4 ?_
            obtain ⟨x20, hx21, h1⟩ := aV h1
            refine wS [(lo0p, 1, List.map (eI) x20.2)] 0 (tR lo0p aA a1 b2 fO _ hx21) hO ?_
            intro H hO hl22
            simp only [List.length_map] at hl22
            replace hN := hl22.trans hN
            refine bA ?_
            refine eB (l := [(0, (.msl 1 lo0p 0 (List.length x20.2))), (2, (eI b2)), (3, (eI bU)), (8, (aC bR)), (9, (aC bL)), (13, (eI x20.1))]) ⟨[(0, (.msl 1 lo0p 0 (List.length aA))), (2, (eI b2)), (3, (eI bU)), (8, (aC bR)), (9, (aC bL)), (13, (eI x20.1))], by kernel_rfl, rfl, ⟨aO.eq (by simp [hl22]), aO.refl _, aO.refl _, aO.refl _, aO.refl _, aO.refl _, trivial⟩⟩ ?_
            refine aG (aH (?_))
            refine aW aD 2 [13] [(1, (eI x20.1))] ?_
            refine iJ 1 ?_
            exact aG (aX (bX (aH (⟨rfl, _, (oI h1).symm, .eq (by kernel_rfl), hO, hN⟩))))
          refine bQ ?_
          refine bB [(0, (.msl 1 lo0p 0 (List.length aA))), (1, (eI a1)), (2, (eI b2)), (3, (eI bU)), (10, (eI dS)), (11, (eI fO))] ?_
          refine aN ?_
          refine aU aD 10 ?_
          refine bK 4 ?_
          obtain ⟨x23, hx24, h1⟩ := aV h1
          refine wS [(lo0p, 1, List.map (eI) x23.2)] 0 (wE lo0p aA a1 b2 fO _ hx24) hO ?_
          intro H hO hl25
          simp only [List.length_map] at hl25
          replace hN := hl25.trans hN
          refine bA ?_
          refine eB (l := [(0, (.msl 1 lo0p 0 (List.length x23.2))), (1, (eI a1)), (2, (eI b2)), (3, (eI bU)), (10, (eI dS)), (14, (eI x23.1.1)), (15, (aC x23.1.2))]) ⟨[(0, (.msl 1 lo0p 0 (List.length aA))), (1, (eI a1)), (2, (eI b2)), (3, (eI bU)), (10, (eI dS)), (14, (eI x23.1.1)), (15, (aC x23.1.2))], by kernel_rfl, rfl, ⟨aO.eq (by simp [hl25]), aO.refl _, aO.refl _, aO.refl _, aO.refl _, aO.refl _, aO.refl _, trivial⟩⟩ ?_
          refine aG (aH (?_))
          refine aW aD 2 [15] [(9, (aC x23.1.2))] ?_
          refine aW aD 8 [] [(16, (eI (wR (x23.1.1 - a1)))), (17, (eI (wR (b2 - x23.1.1))))] ?_
          refine aN ?_
          refine aU aD 3 ?_
          obtain ⟨c26, h1⟩ := aZ h1
          refine sW [(8 : Int) ≠ 0] ⟨c26, trivial⟩ ?_
          refine bT [10] [(18, (eI (wR (Int.tdiv dS (8 : Int)))))] ?_
          refine aW aD 3 [] [(113, (aC (decide ((wR (x23.1.1 - a1)) < (wR (b2 - x23.1.1))))))] ?_
          refine bO h1 (fun h1 => ?_) (fun h1 => ?_)
          · refine cH aD 4 [(0, (.msl 1 lo0p 0 (List.length x23.2))), (1, (eI a1)), (2, (eI b2)), (3, (eI bU)), (8, (aC (decide ((wR (Int.tdiv dS (8 : Int))) ≤ (wR (x23.1.1 - a1)))))), (9, (aC x23.1.2)), (14, (eI x23.1.1))] ?_
            refine aN ?_
            refine aU aD 5 ?_
            refine bK 4 ?_
            obtain ⟨x28, hx29, h1⟩ := aV h1
            refine wS [(lo0p, 1, List.map (eI) x28)] 0 (ih lo0p x23.2 a1 x23.1.1 bU _ hx29) hO ?_
            intro H hO hl30
            simp only [List.length_map] at hl30
            replace hN := hl30.trans hN
            refine dJ ?_
            refine eB (l := [(0, (.msl 1 lo0p 0 (List.length x28))), (2, (eI b2)), (3, (eI bU)), (8, (aC (decide ((wR (Int.tdiv dS (8 : Int))) ≤ (wR (x23.1.1 - a1)))))), (9, (aC x23.1.2)), (14, (eI x23.1.1))]) ⟨[(0, (.msl 1 lo0p 0 (List.length x23.2))), (2, (eI b2)), (3, (eI bU)), (8, (aC (decide ((wR (Int.tdiv dS (8 : Int))) ≤ (wR (x23.1.1 - a1)))))), (9, (aC x23.1.2)), (14, (eI x23.1.1))], by kernel_rfl, rfl, ⟨aO.eq (by simp [hl30]), aO.refl _, aO.refl _, aO.refl _, aO.refl _, aO.refl _, trivial⟩⟩ ?_
            refine aG (aH (?_))
            refine aU aD 3 ?_
            refine bA ?_
            exact aG (aY (aH (⟨rfl, _, (oI h1).symm, .eq (by kernel_rfl), hO, hN⟩)))
          refine cH aD 4 [(0, (.msl 1 lo0p 0 (List.length x23.2))), (1, (eI a1)), (2, (eI b2)), (3, (eI bU)), (8, (aC (decide ((wR (Int.tdiv dS (8 : Int))) ≤ (wR (b2 - x23.1.1)))))), (9, (aC x23.1.2)), (14, (eI x23.1.1))] ?_
          refine aN ?_
          refine aU aD 6 ?_
          refine bK 5 ?_
          obtain ⟨x31, hx32, h1⟩ := aV h1
          refine wS [(lo0p, 1, List.map (eI) x31)] 0 (ih lo0p x23.2 (wR (x23.1.1 + (1 : Int))) b2 bU _ hx32) hO ?_
          intro H hO hl33
          simp only [List.length_map] at hl33
          replace hN := hl33.trans hN
          refine dJ ?_
          refine eB (l := [(0, (.msl 1 lo0p 0 (List.length x31))), (1, (eI a1)), (3, (eI bU)), (8, (aC (decide ((wR (Int.tdiv dS (8 : Int))) ≤ (wR (b2 - x23.1.1)))))), (9, (aC x23.1.2)), (14, (eI x23.1.1))]) ⟨[(0, (.msl 1 lo0p 0 (List.length x23.2))), (1, (eI a1)), (3, (eI bU)), (8, (aC (decide ((wR (Int.tdiv dS (8 : Int))) ≤ (wR (b2 - x23.1.1)))))), (9, (aC x23.1.2)), (14, (eI x23.1.1))], by kernel_rfl, rfl, ⟨aO.eq (by simp [hl33]), aO.refl _, aO.refl _, aO.refl _, aO.refl _, aO.refl _, trivial⟩⟩ ?_
          refine aG (aH (?_))
          refine aU aD 2 ?_
          refine bA ?_
          exact aG (aY (aH (⟨rfl, _, (oI h1).symm, .eq (by kernel_rfl), hO, hN⟩)))
      refine aW aD 8 [12] [(68, (aC ((bR && bL) && (decide (BF = (1 : Int))))))] ?_
      refine bO h1 (fun h1 => ?_) (fun h1 => ?_)
      · refine aN ?_
        refine aU aD 4 ?_
        refine bK 3 ?_
        obtain ⟨x35, hx36, h1⟩ := aV h1
        refine wS [(lo0p, 1, List.map (eI) x35.2)] 0 (qR lo0p aA a1 b2 _ hx36) hO ?_
        intro H hO hl37
        simp only [List.length_map] at hl37
        replace hN := hl37.trans hN
        refine dJ ?_
        refine eB (l := [(0, (.msl 1 lo0p 0 (List.length x35.2))), (1, (eI a1)), (2, (eI b2)), (3, (eI bU)), (8, (aC bR)), (9, (aC bL)), (10, (eI dS)), (11, (eI fO)), (72, (aC x35.1))]) ⟨[(0, (.msl 1 lo0p 0 (List.length aA))), (1, (eI a1)), (2, (eI b2)), (3, (eI bU)), (8, (aC bR)), (9, (aC bL)), (10, (eI dS)), (11, (eI fO)), (72, (aC x35.1))], by kernel_rfl, rfl, ⟨aO.eq (by simp [hl37]), aO.refl _, aO.refl _, aO.refl _, aO.refl _, aO.refl _, aO.refl _, aO.refl _, aO.refl _, trivial⟩⟩ ?_
        refine aG (aH (?_))
        refine bO h1 (fun h1 => ?_) (fun h1 => ?_)
        · refine bI ?_
          obtain rfl := oI h1
          obtain rfl : _ = rr0 := ho0
          replace h0 : some x35.2 = some r := h0
          obtain rfl := oI h0
          exact aG (aT (bF (aT (bF (kY (x := (.tup [])) (by kernel_rfl) (aO.refl _) ⟨rfl, hO.ext, hO.at 0 (by kernel_rfl), by simp only [List.length_map]; exact hN.trans hN0⟩)))))
        refine bQ ?_
        exact aG (aH (⟨rfl, _, .eq (by kernel_rfl), hO, hN, h1⟩))
      refine bQ ?_
      exact aG (aH (⟨rfl, _, .eq (by kernel_rfl), hO, hN, h1⟩))
    refine aW aD 2 [] [(50, (aC (decide (x9.2 = (2 : Int)))))] ?_
    refine bO h1 (fun h1 => ?_) (fun h1 => ?_)
    · refine aN ?_
      refine aU aD 4 ?_
      refine bK 3 ?_
      obtain ⟨x40, hx41, h1⟩ := aV h1
      refine wS [(lo0p, 1, List.map (eI) x40)] 0 (uT lo0p aA a1 b2 _ hx41) hO ?_
      intro H hO hl42
      simp only [List.length_map] at hl42
      replace hN := hl42.trans hN
      refine dJ ?_
      refine eB (l := [(0, (.msl 1 lo0p 0 (List.length x40))), (1, (eI a1)), (2, (eI b2)), (3, (eI bU)), (8, (aC bR)), (9, (aC bL)), (10, (eI dS)), (11, (eI x9.1))]) ⟨[(0, (.msl 1 lo0p 0 (List.length aA))), (1, (eI a1)), (2, (eI b2)), (3, (eI bU)), (8, (aC bR)), (9, (aC bL)), (10, (eI dS)), (11, (eI x9.1))], by kernel_rfl, rfl, ⟨aO.eq (by simp [hl42]), aO.refl _, aO.refl _, aO.refl _, aO.refl _, aO.refl _, aO.refl _, aO.refl _, trivial⟩⟩ ?_
      refine aG (aH (?_))
      refine aW aD 7 [11] [(11, (eI (wR ((wR (b2 - (1 : Int))) - (wR (x9.1 - a1))))))] ?_
      refine aU aD 1 ?_
      refine bA ?_
      exact aG (aH (⟨rfl, _, _, _, .eq (by kernel_rfl), hO, hN, h1⟩))
    refine bQ ?_
    exact aG (aH (⟨rfl, _, _, _, .eq (by kernel_rfl), hO, hN, h1⟩))
  refine aW aD 2 [] [(35, (aC (!bR)))] ?_
  refine bO h1 (fun h1 => ?_) (fun h1 => ?_)
  · refine aN ?_
    refine aU aD 4 ?_
    refine bK 3 ?_
    obtain ⟨x44, hx45, h1⟩ := aV h1
    refine wS [(lo0p, 1, List.map (eI) x44)] 0 (uE lo0p aA a1 b2 _ hx45) hO ?_
    intro H hO hl46
    simp only [List.length_map] at hl46
    replace hN := hl46.trans hN
    refine dJ ?_
    refine eB (l := [(0, (.msl 1 lo0p 0 (List.length x44))), (1, (eI a1)), (2, (eI b2)), (3, (eI bU)), (8, (aC bR)), (9, (aC bL)), (10, (eI (wR (b2 - a1))))]) ⟨[(0, (.msl 1 lo0p 0 (List.length aA))), (1, (eI a1)), (2, (eI b2)), (3, (eI bU)), (8, (aC bR)), (9, (aC bL)), (10, (eI (wR (b2 - a1))))], by kernel_rfl, rfl, ⟨aO.eq (by simp [hl46]), aO.refl _, aO.refl _, aO.refl _, aO.refl _, aO.refl _, aO.refl _, trivial⟩⟩ ?_
    refine aG (aH (?_))
    refine aU aD 3 ?_
    refine bA ?_
    exact aG (aH (⟨rfl, _, _, _, .eq (by kernel_rfl), hO, hN, h1⟩))
  refine bQ ?_
  exact aG (aH (⟨rfl, _, _, _, .eq (by kernel_rfl), hO, hN, h1⟩))

theorem oX  : ∀ (k : Nat) (lo0p : Nat) (aA : (List Int)) (a1 : Int) (b2 : Int) (bU : Int) (r : List Int), cX k aA a1 b2 bU = some r → mV Try.prog 61 lo0p 1 (List.map (eI) aA) (List.map (eI) r) [(.msl 1 lo0p 0 (List.length aA)), (eI a1), (eI b2), (eI bU)] (.tup [])
  | 0, _, _, _, _, _, _, h => by cases h
  | k + 1, lo0p, aA, a1, b2, bU, r, h => uS  _ (oX  k) lo0p aA a1 b2 bU r h

theorem xP (lo0p : Nat) (aA : (List Int)) (a1 : Int) (b2 : Int) (bU : Int) (r : List Int) (h0 : jI aA a1 b2 bU = some r) : mV Try.prog 61 lo0p 1 (List.map (eI) aA) (List.map (eI) r) [(.msl 1 lo0p 0 (List.length aA)), (eI a1), (eI b2), (eI bU)] (.tup []) := by
  obtain ⟨k, hk⟩ := LS h0
  exact oX  k lo0p aA a1 b2 bU r hk

theorem BG (lo0p : Nat) (x0 : (List Int)) (r : List Int) (h0 : kD x0 = some r) : mV Try.prog 34 lo0p 1 (List.map (eI) x0) (List.map (eI) r) [(.msl 1 lo0p 0 (List.length x0))] (.tup []) := by
  intro H0 hl0
  refine dF Try.func34 ?_
  have hO := aK.rI hl0
  clear hl0
  obtain ⟨N0, hN0⟩ : ∃ n, n = List.length x0 := ⟨_, rfl⟩
  have hN : List.length x0 = N0 := hN0.symm
  unfold kD at h0
  refine aW aD 3 [] [(2, (eI (lN x0)))] ?_
  refine aU aD 6 ?_
  refine bK 4 ?_
  obtain ⟨x1, hx2, h0⟩ := aV h0
  refine dU (AE (IntKind.u64.wrap (lN x0)) _ hx2) hO ?_
  intro H hO
  obtain ⟨x4, hx5, h0⟩ := aV h0
  refine wS [(lo0p, 1, List.map (eI) x4)] 0 (xP lo0p x0 (0 : Int) (lN x0) x1 _ hx5) hO ?_
  intro H hO hl6
  simp only [List.length_map] at hl6
  replace hN := hl6.trans hN
  refine dJ ?_
  refine eB (l := [(0, (.msl 1 lo0p 0 (List.length x4)))]) ⟨[(0, (.msl 1 lo0p 0 (List.length x0)))], by kernel_rfl, rfl, ⟨aO.eq (by simp [hl6]), trivial⟩⟩ ?_
  obtain rfl := oI h0
  exact aG (wD (x := (.tup [])) (by kernel_rfl) (aO.refl _) ⟨rfl, hO.ext, hO.at 0 (by kernel_rfl), by simp only [List.length_map]; exact hN.trans hN0⟩)

theorem RT (f0 : (List aB)) (r : (List aB)) (h0 : xI f0 = some r) : dG Try.prog 57 [(eL aF f0)] (.fn (.func 75) [] [(.rp (eL aF r))]) := by
  intro H0
  refine dF Try.func57 ?_
  have hO := aK.start H0
  unfold xI at h0
  refine aN ?_
  refine aU aD 2 ?_
  refine gK 1 (eL aF f0) (by kernel_rfl) (by kernel_rfl) ?_
  refine bA ?_
  refine bB [(1, (.rp (eL aF f0)))] ?_
  refine cH aD 2 [(2, (.fn (.func 75) [] [(.rp (eL aF f0))]))] ?_
  refine bI ?_
  obtain rfl := oI h0
  exact aG (kY (x := (.fn (.func 75) [] [(.rp (eL aF f0))])) (by kernel_rfl) (aO.refl _) ⟨rfl, hO.out⟩)

theorem IB {σ : Type} (I : σ → Gs → Prop) (yield0_b : Nat) (cJ : σ → bJ → Option (σ × Bool)) (yield0_h : ∀ st a0 st2 r, cJ st a0 = some (st2, r) → yI Try.prog (yv yield0_b) I st [(bW a0)] st2 (aC r)) (t1 : (List aB)) (sg0 : σ) (r : σ) (h0 : pF cJ t1 sg0 = some r) : uJ Try.prog 75 I sg0 [(yv yield0_b), (.rp (eL aF t1))] r (.tup []) := by
  intro H0 G0 hI hg
  refine dF Try.func75 ?_
  obtain ⟨G, hO, hI⟩ : ∃ G, aK ⟨H0, List.map (fun p : Nat × cS => p.1) G0, G⟩ H0 [] ∧ I sg0 G := ⟨G0, aK.BJ hg, hI⟩
  clear hg
  unfold pF at h0
  refine aW aD 2 [] [(3, (eI (0 : Int))), (4, (eI (0 : Int)))] ?_
  refine gX (fun T H => ∃ sg : σ, ∃ n3 : Int, ∃ jQ : Int, ∃ G : Gs, Has T [(0, (yv yield0_b)), (3, (eI n3)), (4, (eI jQ))] ∧ aK ⟨H0, List.map (fun p : Nat × cS => p.1) G0, G⟩ H [] ∧ I sg G ∧ mM cJ sg n3 jQ = some r) ?_ ?_
  · clear hO hI h0
    rintro T H ⟨sg, n3, jQ, G, hT, hO, hI, h0⟩
    refine bH hT ?_
    clear hT
    unfold mM at h0
    refine aW aD 2 [3] [(34, (aC (decide ((0 : Int) < n3))))] ?_
    refine bO h0 (fun h0 => ?_) (fun h0 => ?_)
    · refine aU aD 4 ?_
      refine bK 3 ?_
      obtain ⟨x2, hx3, h0⟩ := aV h0
      refine FJ (I := I) (yv yield0_b) [(bW (bJ.mk jQ (1125899906842624 : Int)))] (aC x2.2) (by kernel_rfl) (by kernel_rfl) (yield0_h _ (bJ.mk jQ (1125899906842624 : Int)) x2.1 x2.2 hx3) hO hI ?_
      intro G H hO hI
      refine dJ ?_
      obtain rfl := oI h0
      exact aG (wD (x := (.tup [])) (by kernel_rfl) (aO.refl _) ⟨rfl, G, hI, hO.wH⟩)
    refine bQ ?_
    obtain rfl := oI h0
    exact aG (wD (x := (.tup [])) (by kernel_rfl) (aO.refl _) ⟨rfl, G, hI, hO.wH⟩)
  refine aW aD 3 [1] [(7, (eL aF t1)), (8, (eI (lN t1))), (9, (eI (0 : Int)))] ?_
  refine cB 0 ?_
  refine fH [(0, (yv yield0_b)), (3, (eI (0 : Int))), (4, (eI (0 : Int))), (7, (eL aF t1)), (8, (eI (lN t1))), (9, (eI (0 : Int)))] ?_
  refine fI (fun T H => ∃ sg : σ, ∃ n3 : Int, ∃ jQ : Int, ∃ t7 : (List aB), ∃ t8 : Int, ∃ t9 : Int, ∃ G : Gs, Has T [(0, (yv yield0_b)), (3, (eI n3)), (4, (eI jQ)), (7, (eL aF t7)), (8, (eI t8)), (9, (eI t9))] ∧ aK ⟨H0, List.map (fun p : Nat × cS => p.1) G0, G⟩ H [] ∧ I sg G ∧ qV cJ sg n3 jQ t7 t8 t9 = some r) ?_ ⟨sg0, (0 : Int), (0 : Int), t1, (lN t1), (0 : Int), G, .eq (by kernel_rfl), hO, hI, h0⟩
  clear hO hI h0
  rintro T H ⟨sg, n3, jQ, t7, t8, t9, G, hT, hO, hI, h0⟩
  refine bH hT ?_
  clear hT
  unfold qV at h0
  obtain ⟨rr0, hl0, h0⟩ := aV h0
  refine dM (by kernel_rfl) (fun (s : σ × Int × Int × Int) T H => ∃ G : Gs, Has T [(0, (yv yield0_b)), (3, (eI s.2.1)), (4, (eI s.2.2.1)), (7, (eL aF t7)), (8, (eI t8)), (9, (eI s.2.2.2))] ∧ aK ⟨H0, List.map (fun p : Nat × cS => p.1) G0, G⟩ H [] ∧ I s.1 G) hl0 ⟨G, .eq (by kernel_rfl), hO, hI⟩ ?_
  clear hO hI
  rintro k0 s out1 T H ⟨G, hT, hO, hI⟩ h1 ho0
  obtain ⟨sg, n3, jQ, t9⟩ := s
  replace h1 : fR cJ t7 t8 sg n3 jQ t9 = some out1 := h1
  try dsimp only at hT
  refine bH hT ?_
  clear hT
  unfold fR at h1
  refine aW aD 1 [] [(10, (aC (decide (t9 < t8))))] ?_
  refine aN ?_
  refine bO h1 (fun h1 => ?_) (fun h1 => ?_)
  · refine bQ ?_
    refine bB [(0, (yv yield0_b)), (3, (eI n3)), (4, (eI jQ)), (7, (eL aF t7)), (8, (eI t8)), (9, (eI t9))] ?_
    refine aN ?_
    refine cB 1 ?_
    refine aN ?_
    refine aU aD 4 ?_
    obtain ⟨c5, h1⟩ := aZ h1
    refine xX 2 [0 ≤ t9 ∧ t9 < (lN t7)] ⟨c5, trivial⟩ ?_
    refine jN 2 (aF (aB.mk 0 0)) (by kernel_rfl) (by kernel_rfl) hO ?_
    intro lo6 H hO
    refine fS 0 lo6 2 0 (aF (aB.mk 0 0)) (aF (gD t7 t9)) [(aF (aB.mk 0 0))] [(lo6, 2, [(aF (gD t7 t9))])] hO rfl (by kernel_rfl) ?_
    intro H hO
    refine dJ ?_
    refine bT [] [(6, (.lp lo6 0 0))] ?_
    refine gX (fun T H => ∃ sg : σ, ∃ jQ : Int, ∃ j6 : aB, ∃ G : Gs, Has T [(0, (yv yield0_b)), (3, (eI n3)), (4, (eI jQ)), (6, (.lp lo6 0 0)), (7, (eL aF t7)), (8, (eI t8)), (9, (eI t9))] ∧ aK ⟨H0, List.map (fun p : Nat × cS => p.1) G0, G⟩ H [(lo6, 2, [(aF j6)])] ∧ I sg G ∧ lM cJ sg n3 jQ j6 t7 t8 t9 = some out1) ?_ ?_
    · clear hO hI h1
      rintro T H ⟨sg, jQ, j6, G, hT, hO, hI, h1⟩
      refine bH hT ?_
      clear hT
      unfold lM at h1
      refine aN ?_
      refine aU aD 5 ?_
      refine bK 2 ?_
      refine lS 0 lo6 2 0 (aF j6) (eI j6.Net) [(aF j6)] hO rfl ?_
      refine bA ?_
      refine bT [3] [(3, (eI (wR (n3 + j6.Net))))] ?_
      refine aN ?_
      refine aU aD 11 ?_
      refine bK 6 ?_
      refine vB [(23, true)] 0 lo6 2 0 (aF j6) (eI j6.At) [(aF j6)] (by kernel_rfl) (by kernel_rfl) hO (by kernel_rfl) (decide ((wR (n3 + j6.Net)) = (0 : Int))) (by kernel_rfl) (fun hb7 => rfl) ?_
      refine bK 8 ?_
      obtain ⟨⟨x10, x11⟩, hx9, h1⟩ := aV h1
      replace hx9 := aBn hx9
      refine ZT (I := I) [(23, true)] (decide ((wR (n3 + j6.Net)) = (0 : Int))) (yv yield0_b) [(bW (bJ.mk jQ j6.At))] (aC x11) ⟨fun hb => yield0_h _ (bJ.mk jQ j6.At) x10 x11 (hx9.1 hb), hx9.2⟩ hO hI ?_
      intro G H hO hI
      refine bA ?_
      replace hO := hO.pick (L' := []) [] (by decide) (by kernel_rfl)
      refine bT [6] [(31, (aC ((decide ((wR (n3 + j6.Net)) = (0 : Int))) && (!x11))))] ?_
      refine bO h1 (fun h1 => ?_) (fun h1 => ?_)
      · refine bI ?_
        obtain rfl := oI h1
        obtain rfl : _ = rr0 := ho0
        replace h0 : some x10 = some r := h0
        obtain rfl := oI h0
        exact aG (bF (aT (aT (bF (aT (kY (x := (.tup [])) (by kernel_rfl) (aO.refl _) ⟨rfl, G, hI, hO.wH⟩))))))
      refine bQ ?_
      refine eX [(0, (yv yield0_b)), (3, (eI (wR (n3 + j6.Net)))), (4, (eI jQ)), (7, (eL aF t7)), (8, (eI t8)), (9, (eI t9))] ?_
      refine aG (aY (aH (?_)))
      refine aU aD 2 ?_
      refine bA ?_
      exact aG (aH (⟨rfl, _, (oI h1).symm, _, .eq (by kernel_rfl), hO, hI⟩))
    refine aW aD 2 [] [(14, (aC (decide (n3 = (0 : Int)))))] ?_
    refine bO h1 (fun h1 => ?_) (fun h1 => ?_)
    · refine aU aD 3 ?_
      refine bK 1 ?_
      refine lS 0 lo6 2 0 (aF (gD t7 t9)) (eI ((gD t7 t9).At)) [(aF (gD t7 t9))] hO rfl ?_
      refine bA ?_
      exact aG (aH (⟨rfl, _, _, _, _, .eq (by kernel_rfl), hO, hI, h1⟩))
    refine bQ ?_
    exact aG (aH (⟨rfl, _, _, _, _, .eq (by kernel_rfl), hO, hI, h1⟩))
  refine iJ 0 ?_
  obtain rfl := oI h1
  obtain rfl : _ = rr0 := ho0
  replace h0 : mM cJ sg n3 jQ = some r := h0
  exact aG (aX (aX (bX (aH (⟨rfl, _, _, _, _, .eq (by kernel_rfl), hO, hI, h0⟩)))))

theorem YS (f0 : (List aB)) (t1 : Int) (r : Int) (h0 : xL f0 t1 = some r) : dG Try.prog 77 [(eL aF f0), (eI t1)] (eI r) := by
  intro H0
  refine dF Try.func77 ?_
  have hO := aK.start H0
  unfold xL at h0
  refine aW aD 1 [] [] ?_
  refine aN ?_
  refine aN ?_
  refine aU aD 3 ?_
  refine bK 1 ?_
  obtain ⟨x1, hx2, h0⟩ := aV h0
  refine dU (tQ f0 _ hx2) hO ?_
  intro H hO
  refine bA ?_
  refine bT [] [(10, (aC (!x1)))] ?_
  refine bO h0 (fun h0 => ?_) (fun h0 => ?_)
  · refine cH aD 1 [(4, (eI (0 : Int)))] ?_
    refine bI ?_
    obtain rfl := oI h0
    exact aG (aT (Q_r hO))
  refine bQ ?_
  refine bB [(0, (eL aF f0)), (1, (eI t1))] ?_
  refine aW aD 1 [] [(5, (eI (0 : Int)))] ?_
  refine gX (fun T H => ∃ v5 : Int, Has T [(5, (eI v5))] ∧ aK ⟨H0, [], []⟩ H [] ∧ tN v5 = some r) ?_ ?_
  · clear hO h0
    rintro T H ⟨v5, hT, hO, h0⟩
    refine bH hT ?_
    clear hT
    unfold tN at h0
    refine cH aD 2 [(4, (eI v5))] ?_
    refine bI ?_
    obtain rfl := oI h0
    exact aG (Q_r hO)
  refine aW aD 3 [0] [(11, (eL aF f0)), (12, (eI (lN f0))), (13, (eI (0 : Int)))] ?_
  refine cB 0 ?_
  refine fH [(1, (eI t1)), (5, (eI (0 : Int))), (11, (eL aF f0)), (12, (eI (lN f0))), (13, (eI (0 : Int)))] ?_
  refine fI (fun T H => ∃ v5 : Int, ∃ t11 : (List aB), ∃ t12 : Int, ∃ t13 : Int, Has T [(1, (eI t1)), (5, (eI v5)), (11, (eL aF t11)), (12, (eI t12)), (13, (eI t13))] ∧ aK ⟨H0, [], []⟩ H [] ∧ xZ t1 v5 t11 t12 t13 = some r) ?_ ⟨(0 : Int), f0, (lN f0), (0 : Int), .eq (by kernel_rfl), hO, h0⟩
  clear hO h0
  rintro T H ⟨v5, t11, t12, t13, hT, hO, h0⟩
  refine bH hT ?_
  clear hT
  unfold xZ at h0
  obtain ⟨rr0, hl0, h0⟩ := aV h0
  refine dM (by kernel_rfl) (fun (s : Int × Int) T H => Has T [(1, (eI t1)), (5, (eI s.1)), (11, (eL aF t11)), (12, (eI t12)), (13, (eI s.2))] ∧ aK ⟨H0, [], []⟩ H []) hl0 ⟨.eq (by kernel_rfl), hO⟩ ?_
  clear hO
  rintro k0 s out1 T H ⟨hT, hO⟩ h1 ho0
  obtain ⟨v5, t13⟩ := s
  replace h1 : mU t1 t11 t12 v5 t13 = some out1 := h1
  try dsimp only at hT
  refine bH hT ?_
  clear hT
  unfold mU at h1
  refine aW aD 1 [] [(14, (aC (decide (t13 < t12))))] ?_
  refine aN ?_
  refine bO h1 (fun h1 => ?_) (fun h1 => ?_)
  · refine bQ ?_
    refine bB [(1, (eI t1)), (5, (eI v5)), (11, (eL aF t11)), (12, (eI t12)), (13, (eI t13))] ?_
    refine aN ?_
    refine cB 1 ?_
    refine aN ?_
    refine aU aD 4 ?_
    obtain ⟨c6, h1⟩ := aZ h1
    refine xX 2 [0 ≤ t13 ∧ t13 < (lN t11)] ⟨c6, trivial⟩ ?_
    refine jN 2 (aF (aB.mk 0 0)) (by kernel_rfl) (by kernel_rfl) hO ?_
    intro lo7 H hO
    refine fS 0 lo7 2 0 (aF (aB.mk 0 0)) (aF (gD t11 t13)) [(aF (aB.mk 0 0))] [(lo7, 2, [(aF (gD t11 t13))])] hO rfl (by kernel_rfl) ?_
    intro H hO
    refine dJ ?_
    refine bT [] [(7, (.lp lo7 0 0))] ?_
    refine aN ?_
    refine aN ?_
    refine aU aD 4 ?_
    refine bK 1 ?_
    refine lS 0 lo7 2 0 (aF (gD t11 t13)) (eI ((gD t11 t13).At)) [(aF (gD t11 t13))] hO rfl ?_
    refine bA ?_
    refine bT [] [(20, (aC (decide (t1 < ((gD t11 t13).At)))))] ?_
    refine bO h1 (fun h1 => ?_) (fun h1 => ?_)
    · refine iJ 0 ?_
      replace hO := hO.pick (L' := []) [] (by decide) (by kernel_rfl)
      obtain rfl := oI h1
      obtain rfl : _ = rr0 := ho0
      replace h0 : tN v5 = some r := h0
      exact aG (aX (pI (by kernel_rfl) (aX (aX (bX (aH (⟨rfl, _, .eq (by kernel_rfl), hO, h0⟩)))))))
    refine bQ ?_
    refine bB [(1, (eI t1)), (5, (eI v5)), (7, (.lp lo7 0 0)), (11, (eL aF t11)), (12, (eI t12)), (13, (eI t13))] ?_
    refine aU aD 5 ?_
    refine bK 2 ?_
    refine lS 0 lo7 2 0 (aF (gD t11 t13)) (eI ((gD t11 t13).Net)) [(aF (gD t11 t13))] hO rfl ?_
    refine bA ?_
    refine eX [(1, (eI t1)), (5, (eI (wR (v5 + ((gD t11 t13).Net))))), (11, (eL aF t11)), (12, (eI t12)), (13, (eI t13))] ?_
    replace hO := hO.pick (L' := []) [] (by decide) (by kernel_rfl)
    refine aG (aY (aH (?_)))
    refine aU aD 2 ?_
    refine bA ?_
    exact aG (aH (⟨rfl, _, (oI h1).symm, .eq (by kernel_rfl), hO⟩))
  refine iJ 0 ?_
  obtain rfl := oI h1
  obtain rfl : _ = rr0 := ho0
  replace h0 : tN v5 = some r := h0
  exact aG (aX (aX (bX (aH (⟨rfl, _, .eq (by kernel_rfl), hO, h0⟩)))))

theorem NB (f0 : (List aB)) (w1 : bJ) (r : Int) (h0 : rC f0 w1 = some r) : dG Try.prog 60 [(eL aF f0), (bW w1)] (eI r) := by
  intro H0
  refine dF Try.func60 ?_
  have hO := aK.start H0
  unfold rC at h0
  refine aN ?_
  refine aU aD 2 ?_
  refine gK 2 (bW w1) (by kernel_rfl) (by kernel_rfl) ?_
  refine bA ?_
  refine bT [1] [(3, (.rp (bW w1)))] ?_
  refine aN ?_
  refine aU aD 5 ?_
  refine bK 3 ?_
  obtain ⟨x1, hx2, h0⟩ := aV h0
  refine dU (YS f0 w1.From _ hx2) hO ?_
  intro H hO
  refine bA ?_
  refine bT [] [(5, (eI x1))] ?_
  refine gX (fun T H => ∃ n5 : Int, Has T [(5, (eI n5))] ∧ aK ⟨H0, [], []⟩ H [] ∧ tL n5 = some r) ?_ ?_
  · clear hO h0
    rintro T H ⟨n5, hT, hO, h0⟩
    refine bH hT ?_
    clear hT
    unfold tL at h0
    refine cH aD 2 [(4, (eI n5))] ?_
    refine bI ?_
    obtain rfl := oI h0
    exact aG (Q_r hO)
  refine aW aD 3 [0] [(12, (eL aF f0)), (13, (eI (lN f0))), (14, (eI (0 : Int)))] ?_
  refine cB 0 ?_
  refine fH [(3, (.rp (bW w1))), (5, (eI x1)), (12, (eL aF f0)), (13, (eI (lN f0))), (14, (eI (0 : Int)))] ?_
  refine fI (fun T H => ∃ w3 : bJ, ∃ n5 : Int, ∃ t12 : (List aB), ∃ t13 : Int, ∃ t14 : Int, Has T [(3, (.rp (bW w3))), (5, (eI n5)), (12, (eL aF t12)), (13, (eI t13)), (14, (eI t14))] ∧ aK ⟨H0, [], []⟩ H [] ∧ tK w3 n5 t12 t13 t14 = some r) ?_ ⟨w1, x1, f0, (lN f0), (0 : Int), .eq (by kernel_rfl), hO, h0⟩
  clear hO h0
  rintro T H ⟨w3, n5, t12, t13, t14, hT, hO, h0⟩
  refine bH hT ?_
  clear hT
  unfold tK at h0
  obtain ⟨rr0, hl0, h0⟩ := aV h0
  refine dM (by kernel_rfl) (fun (s : Int × Int) T H => Has T [(3, (.rp (bW w3))), (5, (eI s.1)), (12, (eL aF t12)), (13, (eI t13)), (14, (eI s.2))] ∧ aK ⟨H0, [], []⟩ H []) hl0 ⟨.eq (by kernel_rfl), hO⟩ ?_
  clear hO
  rintro k0 s out1 T H ⟨hT, hO⟩ h1 ho0
  obtain ⟨n5, t14⟩ := s
  replace h1 : nX w3 t12 t13 n5 t14 = some out1 := h1
  try dsimp only at hT
  refine bH hT ?_
  clear hT
  unfold nX at h1
  refine aW aD 1 [] [(15, (aC (decide (t14 < t13))))] ?_
  refine aN ?_
  refine bO h1 (fun h1 => ?_) (fun h1 => ?_)
  · refine bQ ?_
    refine bB [(3, (.rp (bW w3))), (5, (eI n5)), (12, (eL aF t12)), (13, (eI t13)), (14, (eI t14))] ?_
    refine gX (fun T H => ∃ n5 : Int, Has T [(3, (.rp (bW w3))), (5, (eI n5)), (12, (eL aF t12)), (13, (eI t13)), (14, (eI t14))] ∧ aK ⟨H0, [], []⟩ H [] ∧ nZ w3 n5 t12 t13 t14 = some out1) ?_ ?_
    · clear hO h1
      rintro T H ⟨n5, hT, hO, h1⟩
      refine bH hT ?_
      clear hT
      unfold nZ at h1
      refine aU aD 2 ?_
      refine bA ?_
      exact aG (aH (⟨rfl, _, (oI h1).symm, .eq (by kernel_rfl), hO⟩))
    refine cB 1 ?_
    refine aN ?_
    refine aU aD 4 ?_
    obtain ⟨c5, h1⟩ := aZ h1
    refine xX 2 [0 ≤ t14 ∧ t14 < (lN t12)] ⟨c5, trivial⟩ ?_
    refine jN 2 (aF (aB.mk 0 0)) (by kernel_rfl) (by kernel_rfl) hO ?_
    intro lo6 H hO
    refine fS 0 lo6 2 0 (aF (aB.mk 0 0)) (aF (gD t12 t14)) [(aF (aB.mk 0 0))] [(lo6, 2, [(aF (gD t12 t14))])] hO rfl (by kernel_rfl) ?_
    intro H hO
    refine dJ ?_
    refine bT [] [(7, (.lp lo6 0 0))] ?_
    refine aN ?_
    refine aU aD 12 ?_
    refine bK 1 ?_
    refine lS 0 lo6 2 0 (aF (gD t12 t14)) (eI ((gD t12 t14).At)) [(aF (gD t12 t14))] hO rfl ?_
    refine bK 7 ?_
    refine vB [(23, true)] 0 lo6 2 0 (aF (gD t12 t14)) (eI ((gD t12 t14).At)) [(aF (gD t12 t14))] (by kernel_rfl) (by kernel_rfl) hO (by kernel_rfl) (decide (w3.From < ((gD t12 t14).At))) (by kernel_rfl) (fun hb7 => rfl) ?_
    refine bA ?_
    refine bT [] [(29, (aC ((decide (w3.From < ((gD t12 t14).At))) && (decide (((gD t12 t14).At) < w3.To)))))] ?_
    refine bO h1 (fun h1 => ?_) (fun h1 => ?_)
    · refine aU aD 6 ?_
      refine bK 2 ?_
      refine lS 0 lo6 2 0 (aF (gD t12 t14)) (eI ((gD t12 t14).Net)) [(aF (gD t12 t14))] hO rfl ?_
      refine bA ?_
      replace hO := hO.pick (L' := []) [] (by decide) (by kernel_rfl)
      exact aG (aY (aH (⟨rfl, _, .eq (by kernel_rfl), hO, h1⟩)))
    refine bQ ?_
    replace hO := hO.pick (L' := []) [] (by decide) (by kernel_rfl)
    exact aG (aY (aH (⟨rfl, _, .eq (by kernel_rfl), hO, h1⟩)))
  refine iJ 0 ?_
  obtain rfl := oI h1
  obtain rfl : _ = rr0 := ho0
  replace h0 : tL n5 = some r := h0
  exact aG (aX (aX (bX (aH (⟨rfl, _, .eq (by kernel_rfl), hO, h0⟩)))))

theorem QZ (lm : Nat) (los : List (Nat × Nat)) (m : List (Int × aS)) (hl : los.length = m.length) (r : List aE) (f : List aB) (size hop frm front : Int) (out : Bool × List (Int × aS)) (h0 : sQ m r f size hop frm front = some out) :
    IU Try.prog 33 [(.mp lm), (eL aI r), (eL aF f), (eI size), (eI hop), (eI frm), (eI front)] (pmG shP lm los m) [] (fun x M L => ∃ los' : List (Nat × Nat), los'.length = out.2.length ∧ x = aC out.1 ∧ M = pmG shP lm los' out.2 ∧ L = []) := by
  intro F H0 hO
  obtain ⟨Fh, Fe, Fg⟩ := F
  refine yP aD Try.func33 (by kernel_rfl) (by kernel_rfl) (by kernel_rfl) ?_
  unfold sQ at h0
  refine aN ?_
  refine aU aD 8 ?_
  refine gK 1 (.mp lm) (by kernel_rfl) (by kernel_rfl) ?_
  refine gK 1 (eL aI r) (by kernel_rfl) (by kernel_rfl) ?_
  refine gK 1 (eL aF f) (by kernel_rfl) (by kernel_rfl) ?_
  refine gK 1 (eI size) (by kernel_rfl) (by kernel_rfl) ?_
  refine gK 1 (eI hop) (by kernel_rfl) (by kernel_rfl) ?_
  refine gK 1 (eI frm) (by kernel_rfl) (by kernel_rfl) ?_
  refine gK 1 (eI front) (by kernel_rfl) (by kernel_rfl) ?_
  refine jN 1 (aC false) (by kernel_rfl) (by kernel_rfl) hO ?_
  intro lo1 H hO
  replace hO : aK ⟨Fh, Fe, pmG shP lm los m ++ Fg⟩ H [(lo1, 1, [(aC false)])] := hO
  refine dJ ?_
  refine bB [(7, (.rp (.mp lm))), (8, (.rp (eL aI r))), (9, (.rp (eL aF f))), (10, (.rp (eI size))), (11, (.rp (eI hop))), (12, (.rp (eI frm))), (13, (.rp (eI front))), (14, (.lp lo1 0 0))] ?_
  refine aN ?_
  refine aN ?_
  refine aU aD 2 ?_
  refine bK 1 ?_
  obtain ⟨x1, hx1, h0⟩ := aV h0
  refine dU (RT f _ hx1) hO ?_
  intro H hO
  refine dJ ?_
  refine bB [(7, (.rp (.mp lm))), (8, (.rp (eL aI r))), (9, (.rp (eL aF f))), (10, (.rp (eI size))), (11, (.rp (eI hop))), (12, (.rp (eI frm))), (13, (.rp (eI front))), (14, (.lp lo1 0 0)), (20, (.fn (.func 75) [] [(.rp (eL aF x1))]))] ?_
  refine cB 0 ?_
  obtain ⟨o0, hl0, h0⟩ := aV h0
  refine wK (fid := 75) (ys := []) (cs := [(.rp (eL aF x1))]) #[21] (fun (A : qX) (b lL : Nat) (st : (Bool × List (Int × aS)) ⊕ (Bool × List (Int × aS))) (G' : Gs) => Sum.elim (fun (s : Bool × List (Int × aS)) => ∃ los : List (Nat × Nat), los.length = s.2.length ∧ G' = (lL, .raw (fM b A .ready none)) :: (up [(lo1, 1, [(aC s.1)])] ++ (pmG shP lm los s.2 ++ Fg))) (fun (s : Bool × List (Int × aS)) => ∃ los : List (Nat × Nat), los.length = s.2.length ∧ G' = (lL, .raw (fM b A .done (some .ret))) :: (up [(lo1, 1, [(aC s.1)])] ++ (pmG shP lm los s.2 ++ Fg))) st) (.inl (false, m)) o0 (.tup []) (by kernel_rfl) (by kernel_rfl) (by kernel_rfl) hO (fun _ _ => ⟨los, hl, rfl⟩) ?_ ?_
  · intro b lL
    clear hO h0
    refine IB _ b (fun st s => rnd (fun (q : Bool × List (Int × aS)) => nI r f size hop frm front q.1 q.2 s) st) ?_ x1 _ _ hl0
    intro st s21 out1 rr hr
    obtain ⟨s, rfl, h1, rfl⟩ := GM hr
    clear hr
    intro Hr Gr hi hg
    obtain ⟨t14, m1⟩ := s
    dsimp only [Sum.elim_inl] at hi
    obtain ⟨los1, hl1, rfl⟩ := hi
    replace h1 : nI r f size hop frm front t14 m1 s21 = some out1 := h1
    unfold nI at h1
    obtain ⟨E1, hE, hO⟩ := pL hg
    refine pM (uV (hO.gm 0 _ rfl).2 (by kernel_rfl) (by kernel_rfl) ?_)
    refine fH [(7, (.rp (.mp lm))), (8, (.rp (eL aI r))), (9, (.rp (eL aF f))), (10, (.rp (eI size))), (11, (.rp (eI hop))), (12, (.rp (eI frm))), (13, (.rp (eI front))), (14, (.lp lo1 0 0)), (21, (bW s21))] ?_
    refine aU aD 2 ?_
    refine jN 2 (bW (bJ.mk 0 0)) (by kernel_rfl) (by kernel_rfl) hO ?_
    intro lo2 H hO
    refine fS 1 lo2 2 0 (bW (bJ.mk 0 0)) (bW s21) [(bW (bJ.mk 0 0))] [(lo1, 1, [(aC t14)]), (lo2, 2, [(bW s21)])] hO rfl (by kernel_rfl) ?_
    intro H hO
    refine dJ ?_
    refine eX [(7, (.rp (.mp lm))), (8, (.rp (eL aI r))), (9, (.rp (eL aF f))), (10, (.rp (eI size))), (11, (.rp (eI hop))), (12, (.rp (eI frm))), (13, (.rp (eI front))), (14, (.lp lo1 0 0)), (15, (.lp lo2 0 0))] ?_
    refine aG (⟨rfl, rfl, (hO.gm 0 _ rfl).2, ?_⟩)
    intro o1 ho1
    replace hO := hO.mW o1
    refine cB 1 ?_
    refine aN ?_
    refine aU aD 6 ?_
    refine bK 2 ?_
    refine lS 1 lo2 2 0 (bW s21) (bW s21) [(bW s21)] hO rfl ?_
    refine bK 5 ?_
    obtain ⟨x2, hx2, h1⟩ := aV h1
    refine dU (EP size hop s21 frm front _ hx2) hO ?_
    intro H hO
    refine dJ ?_
    refine bB [(7, (.rp (.mp lm))), (8, (.rp (eL aI r))), (9, (.rp (eL aF f))), (10, (.rp (eI size))), (11, (.rp (eI hop))), (12, (.rp (eI frm))), (13, (.rp (eI front))), (14, (.lp lo1 0 0)), (27, (.fn (.func 54) [] [(.rp (eI x2.1)), (.rp (bW x2.2.1)), (.rp (eI x2.2.2.1)), (.rp (eI x2.2.2.2.1)), (.rp (eI x2.2.2.2.2))]))] ?_
    replace hO := hO.pick (L' := [(lo1, 1, [(aC t14)])]) [0] (by decide) (by kernel_rfl)
    refine cB 2 ?_
    obtain ⟨oi, hli, h1⟩ := aV h1
    refine aAu (fid := 54) (ys := []) (cs := [(.rp (eI x2.1)), (.rp (bW x2.2.1)), (.rp (eI x2.2.2.1)), (.rp (eI x2.2.2.2.1)), (.rp (eI x2.2.2.2.2))]) #[28] (fun (A2 : qX) (b2 lL2 : Nat) (st : (Bool × List (Int × aS)) ⊕ (Bool × List (Int × aS))) (G' : Gs) => Sum.elim (fun (s : Bool × List (Int × aS)) => ∃ los : List (Nat × Nat), los.length = s.2.length ∧ G' = (lL2, .raw (fM b2 A2 .ready none)) :: (up [(lo1, 1, [(aC s.1)])] ++ ((lL, o1) :: (pmG shP lm los s.2 ++ Fg)))) (fun (s : Bool × List (Int × aS)) => ∃ los : List (Nat × Nat), los.length = s.2.length ∧ G' = (lL2, .raw (fM b2 A2 .done (some .ret))) :: (up [(lo1, 1, [(aC s.1)])] ++ ((lL, o1) :: (pmG shP lm los s.2 ++ Fg)))) st) (.inl (t14, m1)) oi (.tup []) ((hO.gm 0 _ rfl).2.trans (congrArg some ho1)) (by kernel_rfl) (by kernel_rfl) (by kernel_rfl) hO (fun _ _ => ⟨los1, hl1, rfl⟩) ?_ ?_
    · intro b2 lL2
      clear hO h1
      refine zK _ b2 (fun st t => rnd (fun (q : Bool × List (Int × aS)) => mG r f size q.1 q.2 t) st) ?_ x2.1 x2.2.1 x2.2.2.1 x2.2.2.2.1 x2.2.2.2.2 _ _ hli
      clear hE
      intro st t28 out2 rr hr
      obtain ⟨s, rfl, h2, rfl⟩ := GM hr
      clear hr
      intro Hr2 Gr2 hi hg2
      obtain ⟨t14, m2⟩ := s
      dsimp only [Sum.elim_inl] at hi
      obtain ⟨los2, hl2, rfl⟩ := hi
      replace h2 : mG r f size t14 m2 t28 = some out2 := h2
      unfold mG at h2
      obtain ⟨E2, hE2, hO⟩ := pL hg2
      refine pM (uV (hO.gm 0 _ rfl).2 (by kernel_rfl) (by kernel_rfl) ?_)
      refine fH [(7, (.rp (.mp lm))), (8, (.rp (eL aI r))), (9, (.rp (eL aF f))), (10, (.rp (eI size))), (11, (.rp (eI hop))), (12, (.rp (eI frm))), (13, (.rp (eI front))), (14, (.lp lo1 0 0)), (28, (eI t28))] ?_
      refine aU aD 1 ?_
      refine bA ?_
      refine eX [(7, (.rp (.mp lm))), (8, (.rp (eL aI r))), (9, (.rp (eL aF f))), (10, (.rp (eI size))), (11, (.rp (eI hop))), (12, (.rp (eI frm))), (13, (.rp (eI front))), (14, (.lp lo1 0 0)), (16, (eI t28))] ?_
      refine aG (⟨rfl, rfl, (hO.gm 0 _ rfl).2, ?_⟩)
      intro o2 ho2
      replace hO := hO.mW o2
      refine cB 3 ?_
      replace hO : aK ⟨Hr2, E2, (lm, pJ pU (pmM los2 m2)) :: (up (pmL shP los2 m2) ++ ((lL2, o2) :: (lL, o1) :: Fg))⟩ _ [(lo1, 1, [(aC t14)])] := hO.nT (List.perm_middle.trans (List.Perm.cons _ List.perm_middle)).symm
      refine aN ?_
      refine aU aD 4 ?_
      refine bK 2 ?_
      refine NZ (f := pU) (mty := 63) (ok := false) aD t28 none hO ?_
      refine bA ?_
      refine bB [(7, (.rp (.mp lm))), (8, (.rp (eL aI r))), (9, (.rp (eL aF f))), (10, (.rp (eI size))), (11, (.rp (eI hop))), (12, (.rp (eI frm))), (13, (.rp (eI front))), (14, (.lp lo1 0 0)), (16, (eI t28)), (17, (pU ((fE (pmM los2 m2) t28).getD none)))] ?_
      refine gX (fun T H => ∃ (a bb : Nat) (MM : List (Int × Option Nat)) (R : List (Nat × Nat × List V)) (p0 : aS), Has T [(7, (.rp (.mp lm))), (8, (.rp (eL aI r))), (9, (.rp (eL aF f))), (10, (.rp (eI size))), (11, (.rp (eI hop))), (12, (.rp (eI frm))), (13, (.rp (eI front))), (14, (.lp lo1 0 0)), (17, (.lp a 0 0))] ∧ Put shP m2 t28 a MM R ∧ aK ⟨Hr2, E2, (lm, pJ pU MM) :: (up R ++ ((lL2, o2) :: (lL, o1) :: Fg))⟩ H [(a, 3, [(.agg [(eI p0.Span.From), (eI p0.Span.To), (.msl 2 bb 0 (List.length p0.Rows))])]), (bb, 2, List.map cN p0.Rows), (lo1, 1, [(aC t14)])] ∧ ((nJ r f p0).bind fun p => some (.inl (t14, gP m2 t28 p))) = some out2) ?_ ?_
      · clear hO h2
        rintro T H ⟨a, bb, MM, R, p0, hT, hP, hO, h2⟩
        refine bH hT ?_
        clear hT
        obtain ⟨p1, hp, h2⟩ := aV h2
        have fin : ∀ (H : aQ) (bb : Nat), aK ⟨Hr2, E2, (lm, pJ pU MM) :: (up R ++ ((lL2, o2) :: (lL, o1) :: Fg))⟩ H (shP a bb p1 ++ [(lo1, 1, [(aC t14)])]) → ∃ los' : List (Nat × Nat), los'.length = (gP m2 t28 p1).length ∧ aK ⟨Hr2, E2, (lL2, o2) :: ((lL, o1) :: (pmG shP lm los' (gP m2 t28 p1) ++ Fg))⟩ H [(lo1, 1, [(aC t14)])] := by
          intro H bb hO
          obtain ⟨los', hl', hO⟩ := hO.TQ hP
          exact ⟨los', hl', hO.nT (List.perm_middle.trans (List.Perm.cons _ List.perm_middle))⟩
        unfold nJ at hp
        refine aN ?_
        refine aU aD 7 ?_
        refine bK 3 ?_
        refine lS 0 a 3 0 (.agg [(eI p0.Span.From), (eI p0.Span.To), (.msl 2 bb 0 (List.length p0.Rows))]) (.msl 2 bb 0 (List.length p0.Rows)) [(.agg [(eI p0.Span.From), (eI p0.Span.To), (.msl 2 bb 0 (List.length p0.Rows))])] hO rfl ?_
        refine bA ?_
        refine bB [(7, (.rp (.mp lm))), (8, (.rp (eL aI r))), (9, (.rp (eL aF f))), (10, (.rp (eI size))), (11, (.rp (eI hop))), (12, (.rp (eI frm))), (13, (.rp (eI front))), (14, (.lp lo1 0 0)), (17, (.lp a 0 0)), (18, (eI (wR ((lN p0.Rows) - (1 : Int)))))] ?_
        refine aN ?_
        obtain ⟨c12, hp⟩ := aZ hp
        obtain ⟨x13, hx14, hp⟩ := aV hp
        refine fX (gC [65]) aD 15 ?_
        refine oK (K := fun T H => Has (lift T) [(7, (.rp (.mp lm))), (8, (.rp (eL aI r))), (9, (.rp (eL aF f))), (10, (.rp (eI size))), (11, (.rp (eI hop))), (12, (.rp (eI frm))), (13, (.rp (eI front))), (14, (.lp lo1 0 0)), (17, (.lp a 0 0)), (18, (eI (wR ((lN p0.Rows) - (1 : Int))))), (68, (aC ((decide ((wR ((lN p0.Rows) - (1 : Int))) < (0 : Int))) || (!x13))))] ∧ aK ⟨Hr2, E2, (lm, pJ pU MM) :: (up R ++ ((lL2, o2) :: (lL, o1) :: Fg))⟩ H [(a, 3, [(.agg [(eI p0.Span.From), (eI p0.Span.To), (.msl 2 bb 0 (List.length p0.Rows))])]), (bb, 2, List.map cN p0.Rows), (lo1, 1, [(aC t14)])]) ?_ ?_
        · refine lT 3 ?_
          refine mP (t := 56) (e := decide ((wR ((lN p0.Rows) - (1 : Int))) < (0 : Int))) (by kernel_rfl) (fun hg15 => ?_) (fun hg15 => ?_)
          · refine jP ?_
            exact ⟨⟨[(7, (.rp (.mp lm))), (8, (.rp (eL aI r))), (9, (.rp (eL aF f))), (10, (.rp (eI size))), (11, (.rp (eI hop))), (12, (.rp (eI frm))), (13, (.rp (eI front))), (14, (.lp lo1 0 0)), (17, (.lp a 0 0)), (18, (eI (wR ((lN p0.Rows) - (1 : Int))))), (68, (aC true))], by kernel_rfl, rfl, ⟨aO.refl _, aO.refl _, aO.refl _, aO.refl _, aO.refl _, aO.refl _, aO.refl _, aO.refl _, aO.refl _, aO.refl _, aO.eq (congrArg aC (by rw [hg15]; rfl)), trivial⟩⟩, hO⟩
          · refine lT 6 ?_
            refine jJ 0 a 3 0 (.agg [(eI p0.Span.From), (eI p0.Span.To), (.msl 2 bb 0 (List.length p0.Rows))]) (.msl 2 bb 0 (List.length p0.Rows)) [(.agg [(eI p0.Span.From), (eI p0.Span.To), (.msl 2 bb 0 (List.length p0.Rows))])] (by kernel_rfl) (by kernel_rfl) (by kernel_rfl) hO (by kernel_rfl) rfl ?_
            have c13 := c12 (by rw [hg15]; rfl)
            refine cD 10 [0 ≤ (wR ((lN p0.Rows) - (1 : Int))) ∧ (wR ((lN p0.Rows) - (1 : Int))) < (lN p0.Rows)] ⟨c13, trivial⟩ ?_
            refine jJ 1 bb 2 (0 + Int.toNat (wR ((lN p0.Rows) - (1 : Int)))) (cN (gD p0.Rows (wR ((lN p0.Rows) - (1 : Int))))) (eL aI ((gD p0.Rows (wR ((lN p0.Rows) - (1 : Int)))).Row)) (List.map cN p0.Rows) (by kernel_rfl) (by kernel_rfl) (by kernel_rfl) hO (by kernel_rfl) (bV c13) ?_
            refine lT 12 ?_
            refine nD 58 [(eL aI ((gD p0.Rows (wR ((lN p0.Rows) - (1 : Int)))).Row)), (eL aI r)] (aC x13) (by kernel_rfl) (by kernel_rfl) (IJ ((gD p0.Rows (wR ((lN p0.Rows) - (1 : Int)))).Row) r _ (iW hx14 (by rw [hg15]; rfl))) hO ?_
            intro H hO
            refine jP ?_
            exact ⟨⟨[(7, (.rp (.mp lm))), (8, (.rp (eL aI r))), (9, (.rp (eL aF f))), (10, (.rp (eI size))), (11, (.rp (eI hop))), (12, (.rp (eI frm))), (13, (.rp (eI front))), (14, (.lp lo1 0 0)), (17, (.lp a 0 0)), (18, (eI (wR ((lN p0.Rows) - (1 : Int))))), (68, (aC (!x13)))], by kernel_rfl, rfl, ⟨aO.refl _, aO.refl _, aO.refl _, aO.refl _, aO.refl _, aO.refl _, aO.refl _, aO.refl _, aO.refl _, aO.refl _, aO.eq (congrArg aC (by rw [hg15]; rfl)), trivial⟩⟩, hO⟩
        · rintro T H ⟨hT, hO⟩
          refine eB hT ?_
          clear hT
          refine aG (aH ?_)
          refine bO hp (fun hp => ?_) (fun hp => ?_)
          · obtain ⟨x15, hx15, hp⟩ := aV hp
            obtain ⟨x16, hx16, hp⟩ := aV hp
            obtain ⟨c17, hp⟩ := aZ hp
            refine fX (gC [74, 75, 76, 81, 83, 84]) aD 19 ?_
            refine lT 4 ?_
            refine gZ 0 a 3 0 (.agg [(eI p0.Span.From), (eI p0.Span.To), (.msl 2 bb 0 (List.length p0.Rows))]) (.msl 2 bb 0 (List.length p0.Rows)) [(.agg [(eI p0.Span.From), (eI p0.Span.To), (.msl 2 bb 0 (List.length p0.Rows))])] hO rfl ?_
            refine lT 6 ?_
            refine yY (CB r _ hx15) hO ?_
            intro H hO
            refine lT 11 ?_
            refine gZ 0 a 3 0 (.agg [(eI p0.Span.From), (eI p0.Span.To), (.msl 2 bb 0 (List.length p0.Rows))]) (bW p0.Span) [(.agg [(eI p0.Span.From), (eI p0.Span.To), (.msl 2 bb 0 (List.length p0.Rows))])] hO rfl ?_
            refine yY (NB f p0.Span _ hx16) hO ?_
            intro H hO
            refine lT 14 ?_
            refine UM (xs := [(cN (dQ.mk x15 x16))]) (k := 2) (by kernel_rfl) (by kernel_rfl) ?_
            refine KF (e := cN) p0.Rows ([dQ.mk x15 x16]) 1 bb 2 32 (gI [(cN (dQ.mk x15 x16))]) (fun bc => [(a, 3, [(.agg [(eI p0.Span.From), (eI p0.Span.To), (.msl 2 bb 0 (List.length p0.Rows))])]), (bc, 2, List.map cN (p0.Rows ++ ([dQ.mk x15 x16]))), (lo1, 1, [(aC t14)])]) (by kernel_rfl) (by kernel_rfl) hO (by kernel_rfl) (by kernel_rfl) c17 (fun _ => by kernel_rfl) ?_
            intro bc H hO
            refine lT 18 ?_
            refine kO 0 a 3 0 (.agg [(eI p0.Span.From), (eI p0.Span.To), (.msl 2 bb 0 (List.length p0.Rows))]) (.agg [(eI p0.Span.From), (eI p0.Span.To), (.msl 2 bc 0 (List.length (p0.Rows ++ ([dQ.mk x15 x16]))))]) [(.agg [(eI p0.Span.From), (eI p0.Span.To), (.msl 2 bb 0 (List.length p0.Rows))])] [(a, 3, [(.agg [(eI p0.Span.From), (eI p0.Span.To), (.msl 2 bc 0 (List.length (p0.Rows ++ ([dQ.mk x15 x16]))))])]), (bc, 2, List.map cN (p0.Rows ++ ([dQ.mk x15 x16]))), (lo1, 1, [(aC t14)])] hO rfl (by kernel_rfl) ?_
            intro H hO
            refine mZ (by kernel_rfl) ?_
            obtain rfl := oI hp
            refine eX [(7, (.rp (.mp lm))), (8, (.rp (eL aI r))), (9, (.rp (eL aF f))), (10, (.rp (eI size))), (11, (.rp (eI hop))), (12, (.rp (eI frm))), (13, (.rp (eI front))), (14, (.lp lo1 0 0))] ?_
            obtain ⟨los', hl', hO⟩ := fin H bc hO
            obtain rfl := oI h2
            exact aG (aY (⟨(dD hO hE2 ho2 .dead).1, rfl, _, ⟨los', hl', rfl⟩, (dD hO hE2 ho2 _).2⟩))
          · refine bQ ?_
            obtain rfl := oI hp
            refine eX [(7, (.rp (.mp lm))), (8, (.rp (eL aI r))), (9, (.rp (eL aF f))), (10, (.rp (eI size))), (11, (.rp (eI hop))), (12, (.rp (eI frm))), (13, (.rp (eI front))), (14, (.lp lo1 0 0))] ?_
            obtain ⟨los', hl', hO⟩ := fin H bb hO
            obtain rfl := oI h2
            exact aG (aY (⟨(dD hO hE2 ho2 .dead).1, rfl, _, ⟨los', hl', rfl⟩, (dD hO hE2 ho2 _).2⟩))
      cases hg : fE m2 t28 with
      | none =>
        rw [hg] at h2
        replace h2 : cond (decide ((lN m2) = (1024 : Int))) (some (.inr (false, m2))) ((nJ r f (aS.mk (bJ.mk t28 (if (1125899906842624 : Int) < (wR (t28 + size)) then (1125899906842624 : Int) else (wR (t28 + size)))) [])).bind fun p => some (.inl (t14, gP m2 t28 p))) = some out2 := h2
        rw [TS hg]
        refine fH [(7, (.rp (.mp lm))), (8, (.rp (eL aI r))), (9, (.rp (eL aF f))), (10, (.rp (eI size))), (11, (.rp (eI hop))), (12, (.rp (eI frm))), (13, (.rp (eI front))), (14, (.lp lo1 0 0)), (16, (eI t28)), (17, (.lit (.pointer none)))] ?_
        refine aN ?_
        refine aU aD 2 ?_
        refine bK 1 ?_
        refine PN true ?_
        refine dJ ?_
        refine bB [(7, (.rp (.mp lm))), (8, (.rp (eL aI r))), (9, (.rp (eL aF f))), (10, (.rp (eI size))), (11, (.rp (eI hop))), (12, (.rp (eI frm))), (13, (.rp (eI front))), (14, (.lp lo1 0 0)), (16, (eI t28)), (33, (aC true))] ?_
        refine mA (true) (fun hc => ?_) (fun hc => by cases hc)
        refine aN ?_
        refine aN ?_
        refine aU aD 3 ?_
        refine bK 1 ?_
        refine NU (mty := 63) hO ?_
        rw [KZ hl2]
        refine bA ?_
        refine bB [(7, (.rp (.mp lm))), (8, (.rp (eL aI r))), (9, (.rp (eL aF f))), (10, (.rp (eI size))), (11, (.rp (eI hop))), (12, (.rp (eI frm))), (13, (.rp (eI front))), (14, (.lp lo1 0 0)), (16, (eI t28)), (36, (aC (decide ((lN m2) = (1024 : Int)))))] ?_
        refine bO h2 (fun h2 => ?_) (fun h2 => ?_)
        · refine aN ?_
          refine aU aD 1 ?_
          refine fS 0 lo1 1 0 (aC t14) (aC false) [(aC t14)] [(lo1, 1, [(aC false)])] hO rfl (by kernel_rfl) ?_
          intro H hO
          refine dJ ?_
          refine bB [(14, (.lp lo1 0 0))] ?_
          refine bI ?_
          obtain rfl := oI h2
          replace hO : aK ⟨Hr2, E2, (lL2, o2) :: ((lL, o1) :: (pmG shP lm los2 m2 ++ Fg))⟩ H [(lo1, 1, [(aC false)])] := (show aK ⟨Hr2, E2, pmG shP lm los2 m2 ++ ((lL2, o2) :: (lL, o1) :: Fg)⟩ H [(lo1, 1, [(aC false)])] from hO).nT (List.perm_middle.trans (List.Perm.cons _ List.perm_middle))
          exact aG (aT (aT (bF (⟨(dD hO hE2 ho2 .dead).1, rfl, _, ⟨los2, hl2, rfl⟩, (dD hO hE2 ho2 _).2⟩))))
        refine bQ ?_
        refine bB [(7, (.rp (.mp lm))), (8, (.rp (eL aI r))), (9, (.rp (eL aF f))), (10, (.rp (eI size))), (11, (.rp (eI hop))), (12, (.rp (eI frm))), (13, (.rp (eI front))), (14, (.lp lo1 0 0)), (16, (eI t28))] ?_
        refine aN ?_
        refine aU aD 9 ?_
        refine bK 7 ?_
        refine jN 3 (.agg [(eI (bJ.mk t28 (if (1125899906842624 : Int) < (wR (t28 + size)) then (1125899906842624 : Int) else (wR (t28 + size)))).From), (eI (bJ.mk t28 (if (1125899906842624 : Int) < (wR (t28 + size)) then (1125899906842624 : Int) else (wR (t28 + size)))).To), (.sl true 0 (fun _ => .bad))]) (by kernel_rfl) (by kernel_rfl) hO ?_
        intro lo3 H hO
        refine bA ?_
        refine aCp 1 3 lo3 2 2 [(eI (bJ.mk t28 (if (1125899906842624 : Int) < (wR (t28 + size)) then (1125899906842624 : Int) else (wR (t28 + size)))).From), (eI (bJ.mk t28 (if (1125899906842624 : Int) < (wR (t28 + size)) then (1125899906842624 : Int) else (wR (t28 + size)))).To), (.sl true 0 (fun _ => .bad))] (fun _ => .bad) (fun lo4 => [(lo1, 1, [(aC t14)]), (lo3, 3, [(.agg [(eI (bJ.mk t28 (if (1125899906842624 : Int) < (wR (t28 + size)) then (1125899906842624 : Int) else (wR (t28 + size)))).From), (eI (bJ.mk t28 (if (1125899906842624 : Int) < (wR (t28 + size)) then (1125899906842624 : Int) else (wR (t28 + size)))).To), (.msl 2 lo4 0 0)])]), (lo4, 2, [])]) hO (by kernel_rfl) (by kernel_rfl) (fun _ => by kernel_rfl) ?_
        intro lo4 H hO
        refine bB [(7, (.rp (.mp lm))), (8, (.rp (eL aI r))), (9, (.rp (eL aF f))), (10, (.rp (eI size))), (11, (.rp (eI hop))), (12, (.rp (eI frm))), (13, (.rp (eI front))), (14, (.lp lo1 0 0)), (16, (eI t28)), (17, (.lp lo3 0 0))] ?_
        refine aU aD 4 ?_
        refine bK 3 ?_
        refine aAk (f := pU) (mty := 63) t28 (some lo3) hO ?_
        intro H hO
        refine dJ ?_
        replace hO := hO.pick (L' := [(lo3, 3, [(.agg [(eI (bJ.mk t28 (if (1125899906842624 : Int) < (wR (t28 + size)) then (1125899906842624 : Int) else (wR (t28 + size)))).From), (eI (bJ.mk t28 (if (1125899906842624 : Int) < (wR (t28 + size)) then (1125899906842624 : Int) else (wR (t28 + size)))).To), (.msl 2 lo4 0 0)])]), (lo4, 2, []), (lo1, 1, [(aC t14)])]) [1, 2, 0] (by decide) (by kernel_rfl)
        exact aG (aH ⟨rfl, lo3, lo4, _, _, (aS.mk (bJ.mk t28 (if (1125899906842624 : Int) < (wR (t28 + size)) then (1125899906842624 : Int) else (wR (t28 + size)))) []), .eq (by kernel_rfl), ZD hl2 hg, hO, h2⟩)
      | some p0 =>
        rw [hg] at h2
        obtain ⟨a, bb, R, e1, hP, hO⟩ := aK.focus (sh := shP) (los := los2) (m := m2) (G := (lL2, o2) :: (lL, o1) :: Fg) hO hl2 hg
        rw [e1]
        refine fH [(7, (.rp (.mp lm))), (8, (.rp (eL aI r))), (9, (.rp (eL aF f))), (10, (.rp (eI size))), (11, (.rp (eI hop))), (12, (.rp (eI frm))), (13, (.rp (eI front))), (14, (.lp lo1 0 0)), (16, (eI t28)), (17, (.lp a 0 0))] ?_
        refine aN ?_
        refine aU aD 2 ?_
        refine bK 1 ?_
        refine PN false ?_
        refine dJ ?_
        refine bB [(7, (.rp (.mp lm))), (8, (.rp (eL aI r))), (9, (.rp (eL aF f))), (10, (.rp (eI size))), (11, (.rp (eI hop))), (12, (.rp (eI frm))), (13, (.rp (eI front))), (14, (.lp lo1 0 0)), (16, (eI t28)), (17, (.lp a 0 0)), (33, (aC false))] ?_
        refine mA (false) (fun hc => by cases hc) (fun hc => ?_)
        refine bQ ?_
        exact aG (aH ⟨rfl, a, bb, _, R, p0, .eq (by kernel_rfl), hP, hO, h2⟩)
    · intro b2 lL2 H' G' hi hO
      rcases oi with s | s
      · dsimp only [Sum.elim_inl] at hi
        obtain ⟨los2, hl2, rfl⟩ := hi
        obtain rfl := oI h1
        obtain ⟨hlL, hO⟩ := FP hO
        refine ⟨_, _, hlL, (by intro e; cases e), ?_⟩
        refine eX [(7, (.rp (.mp lm))), (8, (.rp (eL aI r))), (9, (.rp (eL aF f))), (10, (.rp (eI size))), (11, (.rp (eI hop))), (12, (.rp (eI frm))), (13, (.rp (eI front))), (14, (.lp lo1 0 0))] ?_
        exact aG (aY (aY (⟨(dD hO hE ho1 .dead).1, rfl, _, ⟨los2, hl2, rfl⟩, (dD hO hE ho1 _).2⟩)))
      · dsimp only [Sum.elim_inr] at hi
        obtain ⟨los2, hl2, rfl⟩ := hi
        obtain rfl := oI h1
        obtain ⟨hlL, hO⟩ := FP hO
        refine ⟨_, _, hlL, (by intro e; cases e), ?_⟩
        refine bI ?_
        exact aG (bF (bF (⟨(dD hO hE ho1 .dead).1, rfl, _, ⟨los2, hl2, rfl⟩, (dD hO hE ho1 _).2⟩)))
  · intro b lD lL H' G' hi hO
    rcases o0 with s | s
    · dsimp only [Sum.elim_inl] at hi
      obtain ⟨los1, hl1, rfl⟩ := hi
      obtain rfl := oI h0
      obtain ⟨hlL, hO⟩ := lI hO
      refine ⟨_, _, hlL, (by intro e; cases e), ?_⟩
      refine eX [(14, (.lp lo1 0 0))] ?_
      refine aG (aY (aH (?_)))
      refine aN ?_
      refine aU aD 1 ?_
      refine fS 0 lo1 1 0 (aC s.1) (aC true) [(aC s.1)] [(lo1, 1, [(aC true)])] hO rfl (by kernel_rfl) ?_
      intro H hO
      refine dJ ?_
      refine bB [(14, (.lp lo1 0 0))] ?_
      refine bI ?_
      have hD := (hO.gm 0 _ rfl).2
      replace hO := (hO.mW .dead).nS
      exact aG (QM1 (.inr rfl) hD (rs := [.cell 14 4]) (xs := [(aC true)]) (x := (aC true)) (by kernel_rfl) (fN (lo := lo1) (k := 1) (y := (aC true)) (x := (aC true)) 0 hO (by kernel_rfl) (by kernel_rfl) (by kernel_rfl) (by kernel_rfl) lO) (by kernel_rfl) ⟨_, [], ⟨los1, hl1, rfl, rfl, rfl⟩, hO.pick (L' := []) [] (by decide) (by kernel_rfl)⟩)
    · dsimp only [Sum.elim_inr] at hi
      obtain ⟨los1, hl1, rfl⟩ := hi
      obtain rfl := oI h0
      obtain ⟨hlL, hO⟩ := lI hO
      refine ⟨_, _, hlL, (by intro e; cases e), ?_⟩
      refine bI ?_
      refine aG (bF (aT ?_))
      have hD := (hO.gm 0 _ rfl).2
      replace hO := (hO.mW .dead).nS
      exact QM1 (.inr rfl) hD (rs := [.cell 14 4]) (xs := [(aC s.1)]) (x := (aC s.1)) (by kernel_rfl) (fN (lo := lo1) (k := 1) (y := (aC s.1)) (x := (aC s.1)) 0 hO (by kernel_rfl) (by kernel_rfl) (by kernel_rfl) (by kernel_rfl) lO) (by kernel_rfl) ⟨_, [], ⟨los1, hl1, rfl, rfl, rfl⟩, hO.pick (L' := []) [] (by decide) (by kernel_rfl)⟩

theorem AP (l0 : (List aM)) (pE : Int) (hop2 : Int) (iH : Int) (eY : Int) (r : ((List aS) × Int)) (h0 : pK l0 pE hop2 iH eY = some r) : dG Try.prog 16 [(eL aL l0), (eI pE), (eI hop2), (eI iH), (eI eY)] (.tup [(eL aR r.1), (eI r.2)]) := by
  intro H0
  refine yP aD Try.func16 (by kernel_rfl) (by kernel_rfl) (by kernel_rfl) ?_
  have hO := aK.start H0
  unfold pK at h0
  refine aN ?_
  refine aU aD 6 ?_
  refine gK 1 (eI pE) (by kernel_rfl) (by kernel_rfl) ?_
  refine gK 1 (eI hop2) (by kernel_rfl) (by kernel_rfl) ?_
  refine gK 1 (eI iH) (by kernel_rfl) (by kernel_rfl) ?_
  refine gK 1 (eI eY) (by kernel_rfl) (by kernel_rfl) ?_
  refine wW 1 (.sl true 0 (fun _ => .bad)) (eL aR ([])) (by kernel_rfl) (by kernel_rfl) (by kernel_rfl) (kP) (by kernel_rfl) (by kernel_rfl) hO ?_
  intro lo1 H hO
  refine jN 1 (eI 0) (by kernel_rfl) (by kernel_rfl) hO ?_
  intro lo2 H hO
  refine dJ ?_
  refine bB [(0, (eL aL l0)), (6, (.rp (eI pE))), (7, (.rp (eI hop2))), (8, (.rp (eI iH))), (9, (.rp (eI eY))), (10, (.lp lo1 0 0)), (11, (.lp lo2 0 0))] ?_
  refine aN ?_
  refine cB 0 ?_
  refine aN ?_
  refine aU aD 10 ?_
  refine bK 2 ?_
  obtain ⟨x3, hx4, h0⟩ := aV h0
  refine dU (DT pE hop2 _ hx4) hO ?_
  intro H hO
  refine bK 6 ?_
  obtain ⟨x6, hx7, h0⟩ := aV h0
  refine mB [(25, false)] 31 [(eL aL l0)] (aC x6) (!(!x3)) (by kernel_rfl) (by kernel_rfl) (by kernel_rfl) (fun hb8 => (BU l0 _ (iW hx7 hb8))) hO ?_
  intro H hO
  refine bA ?_
  refine bT [] [(20, (aC ((!x3) || (!x6))))] ?_
  refine bO h0 (fun h0 => ?_) (fun h0 => ?_)
  · refine aN ?_
    refine aU aD 2 ?_
    refine fS 0 lo1 1 0 (eL aR ([])) (.sl true 0 (fun _ => .bad)) [(eL aR ([]))] [(lo1, 1, [(.sl true 0 (fun _ => .bad))]), (lo2, 1, [(eI 0)])] hO rfl (by kernel_rfl) ?_
    intro H hO
    refine fS 1 lo2 1 0 (eI 0) (eI (2 : Int)) [(eI 0)] [(lo1, 1, [(.sl true 0 (fun _ => .bad))]), (lo2, 1, [(eI (2 : Int))])] hO rfl (by kernel_rfl) ?_
    intro H hO
    refine dJ ?_
    refine pH 0 lo1 1 (.sl true 0 (fun _ => .bad)) (eL aR ([])) [(lo1, 1, [(eL aR ([]))]), (lo2, 1, [(eI (2 : Int))])] hO (by kernel_rfl) (by kernel_rfl) kP (by kernel_rfl) ?_
    intro H hO
    refine bB [(10, (.lp lo1 0 0)), (11, (.lp lo2 0 0))] ?_
    refine bI ?_
    obtain rfl := oI h0
    exact aG (bF (aT (QM0 (.inr rfl) (rs := [.cell 10 37, .cell 11 22]) (xs := [(eL aR ([])), (eI (2 : Int))]) (x := (.tup [(eL aR ([])), (eI (2 : Int))])) (by kernel_rfl) (fN (lo := lo1) (k := 1) (y := (eL aR ([]))) (x := (eL aR ([]))) 0 hO (by kernel_rfl) (by kernel_rfl) (by kernel_rfl) (by kernel_rfl) (fN (lo := lo2) (k := 1) (y := (eI (2 : Int))) (x := (eI (2 : Int))) 1 hO (by kernel_rfl) (by kernel_rfl) (by kernel_rfl) (by kernel_rfl) lO)) (by kernel_rfl) ⟨rfl, hO.out⟩)))
  refine aN ?_
  refine aU aD 4 ?_
  refine bK 1 ?_
  obtain ⟨x10, hx11, h0⟩ := aV h0
  refine dU (QE l0 _ hx11) hO ?_
  intro H hO
  refine bA ?_
  refine bT [20] [(30, (aC (!x10)))] ?_
  refine bO h0 (fun h0 => ?_) (fun h0 => ?_)
  · refine aN ?_
    refine aU aD 2 ?_
    refine fS 0 lo1 1 0 (eL aR ([])) (.sl true 0 (fun _ => .bad)) [(eL aR ([]))] [(lo1, 1, [(.sl true 0 (fun _ => .bad))]), (lo2, 1, [(eI 0)])] hO rfl (by kernel_rfl) ?_
    intro H hO
    refine fS 1 lo2 1 0 (eI 0) (eI (20 : Int)) [(eI 0)] [(lo1, 1, [(.sl true 0 (fun _ => .bad))]), (lo2, 1, [(eI (20 : Int))])] hO rfl (by kernel_rfl) ?_
    intro H hO
    refine dJ ?_
    refine pH 0 lo1 1 (.sl true 0 (fun _ => .bad)) (eL aR ([])) [(lo1, 1, [(eL aR ([]))]), (lo2, 1, [(eI (20 : Int))])] hO (by kernel_rfl) (by kernel_rfl) kP (by kernel_rfl) ?_
    intro H hO
    refine bB [(10, (.lp lo1 0 0)), (11, (.lp lo2 0 0))] ?_
    refine bI ?_
    obtain rfl := oI h0
    exact aG (bF (aT (QM0 (.inr rfl) (rs := [.cell 10 37, .cell 11 22]) (xs := [(eL aR ([])), (eI (20 : Int))]) (x := (.tup [(eL aR ([])), (eI (20 : Int))])) (by kernel_rfl) (fN (lo := lo1) (k := 1) (y := (eL aR ([]))) (x := (eL aR ([]))) 0 hO (by kernel_rfl) (by kernel_rfl) (by kernel_rfl) (by kernel_rfl) (fN (lo := lo2) (k := 1) (y := (eI (20 : Int))) (x := (eI (20 : Int))) 1 hO (by kernel_rfl) (by kernel_rfl) (by kernel_rfl) (by kernel_rfl) lO)) (by kernel_rfl) ⟨rfl, hO.out⟩)))
  refine aN ?_
  refine aU aD 9 ?_
  refine bK 1 ?_
  obtain ⟨x14, hx15, h0⟩ := aV h0
  refine dU (vV iH _ hx15) hO ?_
  intro H hO
  refine bK 5 ?_
  obtain ⟨x17, hx18, h0⟩ := aV h0
  refine mB [(38, false)] 25 [(eI eY)] (aC x17) (!(!x14)) (by kernel_rfl) (by kernel_rfl) (by kernel_rfl) (fun hb19 => (vV eY _ (iW hx18 hb19))) hO ?_
  intro H hO
  refine bA ?_
  refine bT [30] [(34, (aC ((!x14) || (!x17))))] ?_
  refine bO h0 (fun h0 => ?_) (fun h0 => ?_)
  · refine aN ?_
    refine aU aD 2 ?_
    refine fS 0 lo1 1 0 (eL aR ([])) (.sl true 0 (fun _ => .bad)) [(eL aR ([]))] [(lo1, 1, [(.sl true 0 (fun _ => .bad))]), (lo2, 1, [(eI 0)])] hO rfl (by kernel_rfl) ?_
    intro H hO
    refine fS 1 lo2 1 0 (eI 0) (eI (13 : Int)) [(eI 0)] [(lo1, 1, [(.sl true 0 (fun _ => .bad))]), (lo2, 1, [(eI (13 : Int))])] hO rfl (by kernel_rfl) ?_
    intro H hO
    refine dJ ?_
    refine pH 0 lo1 1 (.sl true 0 (fun _ => .bad)) (eL aR ([])) [(lo1, 1, [(eL aR ([]))]), (lo2, 1, [(eI (13 : Int))])] hO (by kernel_rfl) (by kernel_rfl) kP (by kernel_rfl) ?_
    intro H hO
    refine bB [(10, (.lp lo1 0 0)), (11, (.lp lo2 0 0))] ?_
    refine bI ?_
    obtain rfl := oI h0
    exact aG (bF (aT (QM0 (.inr rfl) (rs := [.cell 10 37, .cell 11 22]) (xs := [(eL aR ([])), (eI (13 : Int))]) (x := (.tup [(eL aR ([])), (eI (13 : Int))])) (by kernel_rfl) (fN (lo := lo1) (k := 1) (y := (eL aR ([]))) (x := (eL aR ([]))) 0 hO (by kernel_rfl) (by kernel_rfl) (by kernel_rfl) (by kernel_rfl) (fN (lo := lo2) (k := 1) (y := (eI (13 : Int))) (x := (eI (13 : Int))) 1 hO (by kernel_rfl) (by kernel_rfl) (by kernel_rfl) (by kernel_rfl) lO)) (by kernel_rfl) ⟨rfl, hO.out⟩)))
  refine bQ ?_
  refine eX [(0, (eL aL l0)), (6, (.rp (eI pE))), (7, (.rp (eI hop2))), (8, (.rp (eI iH))), (9, (.rp (eI eY))), (10, (.lp lo1 0 0)), (11, (.lp lo2 0 0))] ?_
  refine aG (aY (aH (?_)))
  unfold zJ at h0
  refine aN ?_
  refine aU aD 3 ?_
  refine ZL (β := Option Nat) pU (t := 63) hO ?_
  intro lm H hO
  refine jN 1 (.lit (.map none)) (by kernel_rfl) (by kernel_rfl) hO ?_
  intro lo12 H hO
  refine fS 2 lo12 1 0 (.lit (.map none)) (.mp lm) [(.lit (.map none))] [(lo1, 1, [(eL aR ([]))]), (lo2, 1, [(eI 0)]), (lo12, 1, [(.mp lm)])] hO rfl (by kernel_rfl) ?_
  intro H hO
  replace hO : aK ⟨H0, [], pmG shP lm [] [] ++ []⟩ H [(lo1, 1, [(eL aR ([]))]), (lo2, 1, [(eI 0)]), (lo12, 1, [(.mp lm)])] := hO
  refine dJ ?_
  refine bB [(0, (eL aL l0)), (6, (.rp (eI pE))), (7, (.rp (eI hop2))), (8, (.rp (eI iH))), (9, (.rp (eI eY))), (10, (.lp lo1 0 0)), (11, (.lp lo2 0 0)), (12, (.lp lo12 0 0))] ?_
  refine aN ?_
  refine aN ?_
  refine aU aD 2 ?_
  refine bK 1 ?_
  obtain ⟨x1, hx1, h0⟩ := aV h0
  refine dU (MX l0 _ hx1) hO ?_
  intro H hO
  refine dJ ?_
  refine bB [(6, (.rp (eI pE))), (7, (.rp (eI hop2))), (8, (.rp (eI iH))), (9, (.rp (eI eY))), (10, (.lp lo1 0 0)), (11, (.lp lo2 0 0)), (12, (.lp lo12 0 0)), (45, (.fn (.func 55) [] [(.rp (eL aL x1))]))] ?_
  refine cB 1 ?_
  obtain ⟨o0, hl0, h0⟩ := aV h0
  refine wK (fid := 55) (ys := []) (cs := [(.rp (eL aL x1))]) #[46, 47] (fun (A : qX) (b lL : Nat) (st : (List aS × Int × List (Int × aS)) ⊕ (List aS × Int × List (Int × aS))) (G' : Gs) => Sum.elim (fun (s : List aS × Int × List (Int × aS)) => ∃ los : List (Nat × Nat), los.length = s.2.2.length ∧ G' = (lL, .raw (fM b A .ready none)) :: (up [(lo1, 1, [(eL aR (s.1))]), (lo2, 1, [(eI (s.2.1))]), (lo12, 1, [(.mp lm)])] ++ (pmG shP lm los s.2.2 ++ []))) (fun (s : List aS × Int × List (Int × aS)) => ∃ los : List (Nat × Nat), los.length = s.2.2.length ∧ G' = (lL, .raw (fM b A .done (some .ret))) :: (up [(lo1, 1, [(eL aR (s.1))]), (lo2, 1, [(eI (s.2.1))]), (lo12, 1, [(.mp lm)])] ++ (pmG shP lm los s.2.2 ++ []))) st) (.inl ([], 0, [])) o0 (.tup []) (by kernel_rfl) (by kernel_rfl) (by kernel_rfl) hO (fun _ _ => ⟨[], rfl, rfl⟩) ?_ ?_
  · intro b lL
    clear hO h0
    refine FO _ b (fun st t46 t47 => rnd (fun (q : List aS × Int × List (Int × aS)) => lW pE hop2 iH eY q.1 q.2.1 q.2.2 t46 t47) st) ?_ x1 _ _ hl0
    intro st t46 t47 out1 rr hr
    obtain ⟨s, rfl, h1, rfl⟩ := GM hr
    clear hr
    intro Hr Gr hi hg
    obtain ⟨t10, t11, m⟩ := s
    dsimp only [Sum.elim_inl] at hi
    obtain ⟨los, hl, rfl⟩ := hi
    replace h1 : lW pE hop2 iH eY t10 t11 m t46 t47 = some out1 := h1
    unfold lW at h1
    obtain ⟨E1, hE, hO⟩ := pL hg
    refine pM (uV (hO.gm 0 _ rfl).2 (by kernel_rfl) (by kernel_rfl) ?_)
    refine fH [(6, (.rp (eI pE))), (7, (.rp (eI hop2))), (8, (.rp (eI iH))), (9, (.rp (eI eY))), (10, (.lp lo1 0 0)), (11, (.lp lo2 0 0)), (12, (.lp lo12 0 0)), (46, (eL aI t46)), (47, (eL aF t47))] ?_
    refine cH aD 1 [(6, (.rp (eI pE))), (7, (.rp (eI hop2))), (8, (.rp (eI iH))), (9, (.rp (eI eY))), (10, (.lp lo1 0 0)), (11, (.lp lo2 0 0)), (12, (.lp lo12 0 0)), (13, (eL aI t46)), (47, (eL aF t47))] ?_
    refine aU aD 1 ?_
    refine bA ?_
    refine eX [(6, (.rp (eI pE))), (7, (.rp (eI hop2))), (8, (.rp (eI iH))), (9, (.rp (eI eY))), (10, (.lp lo1 0 0)), (11, (.lp lo2 0 0)), (12, (.lp lo12 0 0)), (13, (eL aI t46)), (14, (eL aF t47))] ?_
    refine aG (⟨rfl, rfl, (hO.gm 0 _ rfl).2, ?_⟩)
    intro o1 ho1
    replace hO := hO.mW o1
    refine cB 2 ?_
    refine aN ?_
    refine aU aD 9 ?_
    refine lS 2 lo12 1 0 (.mp lm) (.mp lm) [(.mp lm)] hO rfl ?_
    refine bK 7 ?_
    obtain ⟨x2, hx2, h1⟩ := aV h1
    replace hO : aK ⟨Hr, E1, pmG shP lm los m ++ ((lL, o1) :: [])⟩ _ [(lo1, 1, [(eL aR t10)]), (lo2, 1, [(eI t11)]), (lo12, 1, [(.mp lm)])] := hO.nT List.perm_middle.symm
    refine aCS (pmG shP lm los m) [(lo1, 1, [(eL aR t10)]), (lo2, 1, [(eI t11)]), (lo12, 1, [(.mp lm)])] [0, 1, 2] (QZ lm los m hl t46 t47 pE hop2 iH eY _ hx2) hO ?_
    intro r1 M1 L1 H hP hO
    obtain ⟨los', hl', rfl, rfl, rfl⟩ := hP
    replace hO : aK ⟨Hr, E1, (lL, o1) :: (pmG shP lm los' x2.2 ++ [])⟩ H [(lo1, 1, [(eL aR t10)]), (lo2, 1, [(eI t11)]), (lo12, 1, [(.mp lm)])] := hO.nT List.perm_middle
    refine bA ?_
    refine bB [(10, (.lp lo1 0 0)), (11, (.lp lo2 0 0)), (12, (.lp lo12 0 0)), (56, (aC (!x2.1)))] ?_
    refine bO h1 (fun h1 => ?_) (fun h1 => ?_)
    · refine aN ?_
      refine aU aD 2 ?_
      refine fS 0 lo1 1 0 (eL aR t10) (.sl true 0 (fun _ => .bad)) [(eL aR t10)] [(lo1, 1, [(.sl true 0 (fun _ => .bad))]), (lo2, 1, [(eI t11)]), (lo12, 1, [(.mp lm)])] hO rfl (by kernel_rfl) ?_
      intro H hO
      refine fS 1 lo2 1 0 (eI t11) (eI (7 : Int)) [(eI t11)] [(lo1, 1, [(.sl true 0 (fun _ => .bad))]), (lo2, 1, [(eI (7 : Int))]), (lo12, 1, [(.mp lm)])] hO rfl (by kernel_rfl) ?_
      intro H hO
      refine dJ ?_
      refine pH 0 lo1 1 (.sl true 0 (fun _ => .bad)) (eL aR []) [(lo1, 1, [(eL aR ([]))]), (lo2, 1, [(eI ((7 : Int)))]), (lo12, 1, [(.mp lm)])] hO (by kernel_rfl) (by kernel_rfl) kP (by kernel_rfl) ?_
      intro H hO
      refine bB [(10, (.lp lo1 0 0)), (11, (.lp lo2 0 0))] ?_
      refine bI ?_
      obtain rfl := oI h1
      exact aG (bF (⟨(dD hO hE ho1 .dead).1, rfl, _, ⟨los', hl', rfl⟩, (dD hO hE ho1 _).2⟩))
    · refine bQ ?_
      obtain rfl := oI h1
      refine eX [(10, (.lp lo1 0 0)), (11, (.lp lo2 0 0))] ?_
      exact aG (aY (⟨(dD hO hE ho1 .dead).1, rfl, _, ⟨los', hl', rfl⟩, (dD hO hE ho1 _).2⟩))
  · intro b lD lL H' G' hi hO
    rcases o0 with s | s
    · obtain ⟨t10, t11, m⟩ := s
      dsimp only [Sum.elim_inl] at hi
      obtain ⟨los, hl, rfl⟩ := hi
      replace h0 : tC m = some r := h0
      obtain ⟨hlL, hO⟩ := lI hO
      refine ⟨_, _, hlL, (by intro e; cases e), ?_⟩
      refine eX [(10, (.lp lo1 0 0)), (11, (.lp lo2 0 0)), (12, (.lp lo12 0 0))] ?_
      refine aG (aY (aH (?_)))
      unfold tC at h0
      replace hO : aK ⟨H0, [], up (pmL shP los m) ++ ((lm, pJ pU (pmM los m)) :: [(lD, .raw pR)])⟩ _ [(lo1, 1, [(eL aR t10)]), (lo2, 1, [(eI t11)]), (lo12, 1, [(.mp lm)])] := hO.nT (by
        show ((lD, cS.raw pR) :: (((lm, pJ pU (pmM los m)) :: up (pmL shP los m)) ++ [])).Perm _
        rw [List.append_nil]
        refine List.Perm.trans ?_ List.perm_middle.symm
        refine (List.Perm.swap _ _ _).trans (List.Perm.cons _ ?_)
        exact (List.perm_append_comm (l₁ := [(lD, cS.raw pR)])))
      refine FZ 3 2 2 (fun b p => [(eI p.Span.From), (eI p.Span.To), (.msl 2 b 0 (List.length p.Rows))]) aS.Rows cN aR (fun _ _ _ => rfl) (fun _ _ => rfl) (fun _ _ => rfl) m los hl hO fun H hO => ?_
      replace hO : aK ⟨H0, [], (lm, pJ pU (pmM los m)) :: (up (pmL shF los m) ++ [(lD, .raw pR)])⟩ H [(lo1, 1, [(eL aR t10)]), (lo2, 1, [(eI t11)]), (lo12, 1, [(.mp lm)])] := hO.nT List.perm_middle
      refine aN ?_
      refine aU aD 4 ?_
      refine lS 2 lo12 1 0 (.mp lm) (.mp lm) [(.mp lm)] hO rfl ?_
      refine NU (mty := 63) hO ?_
      rw [KZ hl]
      obtain ⟨c1, h0⟩ := aZ h0
      refine KI 1 8 (lN m) (by kernel_rfl) (by kernel_rfl) c1 hO ?_
      intro lo15 H hO
      refine bA ?_
      refine bB [(10, (.lp lo1 0 0)), (11, (.lp lo2 0 0)), (12, (.lp lo12 0 0)), (15, (.msl 1 lo15 0 (List.length ([] : List Int))))] ?_
      refine aN ?_
      refine aN ?_
      refine aU aD 2 ?_
      refine lS 2 lo12 1 0 (.mp lm) (.mp lm) [(.mp lm)] hO rfl ?_
      refine VF (mty := 63) hO ?_
      intro li bs ck H hmb hmn hO
      refine dJ ?_
      refine bB [(10, (.lp lo1 0 0)), (11, (.lp lo2 0 0)), (12, (.lp lo12 0 0)), (15, (.msl 1 lo15 0 (List.length ([] : List Int)))), (61, (.lp li 0 0))] ?_
      refine cB 3 ?_
      refine XL (by kernel_rfl) (fun (s : List Int) (seen : List Nat) T H => ∃ lo15 : Nat, Has T [(10, (.lp lo1 0 0)), (11, (.lp lo2 0 0)), (12, (.lp lo12 0 0)), (15, (.msl 1 lo15 0 (List.length s))), (61, (.lp li 0 0))] ∧ aK ⟨H0, [], (li, KP li lm ck seen) :: (lm, DV pU (pmM los m) bs ck) :: (up (pmL shF los m) ++ [(lD, .raw pR)])⟩ H [(lo1, 1, [(eL aR t10)]), (lo2, 1, [(eI t11)]), (lo12, 1, [(.mp lm)]), (lo15, 1, List.map (eI) s)]) hmb (aBs hl h0) ⟨lo15, .eq (by kernel_rfl), hO⟩ ?_
      clear hO h0 c1
      rintro seen rem s T H ⟨lo15, hT, hO⟩ hleft hall
      refine bH (l := [(10, (.lp lo1 0 0)), (11, (.lp lo2 0 0)), (12, (.lp lo12 0 0)), (15, (.msl 1 lo15 0 (List.length s))), (61, (.lp li 0 0))]) hT ?_
      clear hT
      refine aN ?_
      refine aU aD 2 ?_
      refine YD hmb hmn hleft hall hO (fun h0 => ?_) (fun mk mv bq rest out1 H h1 hlt hleft hall hat hO => ?_)
      · clear hall hleft
        unfold zO at h0
        refine bA ?_
        refine bB [(10, (.lp lo1 0 0)), (11, (.lp lo2 0 0)), (12, (.lp lo12 0 0)), (15, (.msl 1 lo15 0 (List.length s))), (63, (aC false))] ?_
        refine aN ?_
        refine mA (false) (fun hc => by cases hc) (fun hc => ?_)
        refine iJ 3 ?_
        replace hO := hO.nS
        refine YQ hO fun H hO => ?_
        refine eX [(10, (.lp lo1 0 0)), (11, (.lp lo2 0 0)), (12, (.lp lo12 0 0)), (15, (.msl 1 lo15 0 (List.length s)))] ?_
        refine aG (aX (aX (bX (aH (?_)))))
        refine aN ?_
        refine aU aD 2 ?_
        refine bK 1 ?_
        obtain ⟨b1, hb1, h0⟩ := aV h0
        refine wS [(lo1, 1, [(eL aR t10)]), (lo2, 1, [(eI t11)]), (lo12, 1, [(.mp lm)]), (lo15, 1, List.map (eI) b1)] 3 (BG lo15 s _ hb1) hO ?_
        intro H hO hlen
        simp only [List.length_map] at hlen
        refine dJ ?_
        rw [← hlen]
        refine bB [(10, (.lp lo1 0 0)), (11, (.lp lo2 0 0)), (12, (.lp lo12 0 0)), (15, (.msl 1 lo15 0 (List.length b1)))] ?_
        refine aN ?_
        refine aU aD 4 ?_
        refine bK 2 ?_
        obtain ⟨c2, h0⟩ := aZ h0
        refine KI 3 40 (lN b1) (by kernel_rfl) (by kernel_rfl) c2 hO ?_
        intro lo17 H hO
        refine bA ?_
        refine bB [(10, (.lp lo1 0 0)), (11, (.lp lo2 0 0)), (12, (.lp lo12 0 0)), (15, (.msl 1 lo15 0 (List.length b1))), (17, (.msl 3 lo17 0 (List.length ([] : List aS))))] ?_
        refine aN ?_
        refine cH aD 3 [(10, (.lp lo1 0 0)), (11, (.lp lo2 0 0)), (12, (.lp lo12 0 0)), (15, (.msl 1 lo15 0 (List.length b1))), (17, (.msl 3 lo17 0 (List.length ([] : List aS)))), (75, (.msl 1 lo15 0 (List.length b1))), (76, (eI (lN b1))), (77, (eI (0 : Int)))] ?_
        obtain ⟨out, hlo, h0⟩ := aV h0
        refine cB 5 ?_
        refine dM (by kernel_rfl) (fun (s : List aS × Int) T H => ∃ (lo17 : Nat) (los : List (Nat × Nat)), los.length = m.length ∧ Has T [(10, (.lp lo1 0 0)), (11, (.lp lo2 0 0)), (12, (.lp lo12 0 0)), (15, (.msl 1 lo15 0 (List.length b1))), (17, (.msl 3 lo17 0 (List.length s.1))), (75, (.msl 1 lo15 0 (List.length b1))), (76, (eI (lN b1))), (77, (eI s.2))] ∧ aK ⟨H0, [], (lm, pJ pU (pmM los m)) :: (up (pmL shF los m) ++ [(lD, .raw pR)])⟩ H [(lo1, 1, [(eL aR t10)]), (lo2, 1, [(eI t11)]), (lo12, 1, [(.mp lm)]), (lo15, 1, List.map (eI) b1), (lo17, 3, List.map aR s.1)]) hlo ⟨lo17, los, hl, .eq (by kernel_rfl), hO⟩ ?_
        clear hO c2
        rintro k s out1 T H ⟨lo17, los, hl, hT, hO⟩ h1 ho
        obtain ⟨o17, i77⟩ := s
        replace h1 : pT m b1 (lN b1) o17 i77 = some out1 := h1
        dsimp only at hT
        refine bH hT ?_
        clear hT
        unfold pT at h1
        refine cH aD 1 [(10, (.lp lo1 0 0)), (11, (.lp lo2 0 0)), (12, (.lp lo12 0 0)), (15, (.msl 1 lo15 0 (List.length b1))), (17, (.msl 3 lo17 0 (List.length o17))), (75, (.msl 1 lo15 0 (List.length b1))), (76, (eI (lN b1))), (77, (eI i77)), (78, (aC (decide (i77 < (lN b1)))))] ?_
        refine aN ?_
        refine bO h1 (fun h1 => ?_) (fun h1 => ?_)
        · refine bQ ?_
          refine bB [(10, (.lp lo1 0 0)), (11, (.lp lo2 0 0)), (12, (.lp lo12 0 0)), (15, (.msl 1 lo15 0 (List.length b1))), (17, (.msl 3 lo17 0 (List.length o17))), (75, (.msl 1 lo15 0 (List.length b1))), (76, (eI (lN b1))), (77, (eI i77))] ?_
          refine aN ?_
          refine cB 6 ?_
          refine aN ?_
          obtain ⟨c3, h1⟩ := aZ h1
          refine aU aD 3 ?_
          refine xX 1 [0 ≤ i77 ∧ i77 < (lN b1)] ⟨c3, trivial⟩ ?_
          refine lS 3 lo15 1 (0 + Int.toNat i77) (eI (gD b1 i77)) (eI (gD b1 i77)) (List.map (eI) b1) hO (bV c3) ?_
          refine bA ?_
          refine bB [(10, (.lp lo1 0 0)), (11, (.lp lo2 0 0)), (12, (.lp lo12 0 0)), (15, (.msl 1 lo15 0 (List.length b1))), (17, (.msl 3 lo17 0 (List.length o17))), (75, (.msl 1 lo15 0 (List.length b1))), (76, (eI (lN b1))), (77, (eI i77)), (19, (eI (gD b1 i77)))] ?_
          cases hg : fE m (gD b1 i77) with
          | none => rw [hg] at h1; cases h1
          | some p =>
            rw [hg] at h1
            obtain ⟨c4, h1⟩ := aZ h1
            obtain ⟨a, bb, R, e1, hP, hO⟩ := aK.focus (sh := shF) (los := los) (m := m) (G := [(lD, .raw pR)]) hO hl hg
            replace hO : aK ⟨H0, [], (lm, pJ pU (pmM los m)) :: (up R ++ [(lD, .raw pR)])⟩ _ [(a, 3, [(aR p)]), (lo1, 1, [(eL aR t10)]), (lo2, 1, [(eI t11)]), (lo12, 1, [(.mp lm)]), (lo15, 1, List.map (eI) b1), (lo17, 3, List.map aR o17)] := hO
            refine aU aD 9 ?_
            refine bK 1 ?_
            refine lS 3 lo12 1 0 (.mp lm) (.mp lm) [(.mp lm)] hO rfl ?_
            refine bK 3 ?_
            refine NZ (f := pU) (mty := 63) (ok := false) aD (gD b1 i77) none hO ?_
            rw [e1]
            refine bK 5 ?_
            refine lS 0 a 3 0 (aR p) (aR p) [(aR p)] hO rfl ?_
            refine qN (xs := [(aR p)]) (k := 3) (by kernel_rfl) (by kernel_rfl) ?_
            refine wY (e := aR) o17 ([p]) 5 lo17 3 40 (gI [(aR p)]) (fun lo18 => [(a, 3, [(aR p)]), (lo1, 1, [(eL aR t10)]), (lo2, 1, [(eI t11)]), (lo12, 1, [(.mp lm)]), (lo15, 1, List.map (eI) b1), (lo18, 3, List.map aR (o17 ++ ([p])))]) (by kernel_rfl) (by kernel_rfl) hO (by kernel_rfl) (by kernel_rfl) c4 (fun _ => by kernel_rfl) ?_
            intro lo18 H hO
            refine bA ?_
            refine eX [(10, (.lp lo1 0 0)), (11, (.lp lo2 0 0)), (12, (.lp lo12 0 0)), (15, (.msl 1 lo15 0 (List.length b1))), (17, (.msl 3 lo18 0 (List.length (o17 ++ [p])))), (75, (.msl 1 lo15 0 (List.length b1))), (76, (eI (lN b1))), (77, (eI i77))] ?_
            refine aG (aY (aH (?_)))
            refine aU aD 2 ?_
            refine bA ?_
            obtain rfl := oI h1
            obtain ⟨los', hl', hO⟩ := aK.TQ (sh := shF) (x := p) (b := bb) (G := [(lD, .raw pR)]) hO hP
            rw [MT hg] at hl' hO
            exact aG (⟨rfl, _, rfl, lo18, los', hl', .eq (by kernel_rfl), hO⟩)
        · refine iJ 5 ?_
          obtain rfl := oI h1
          obtain rfl : _ = out := ho
          obtain rfl := oI h0
          refine eX [(10, (.lp lo1 0 0)), (11, (.lp lo2 0 0)), (12, (.lp lo12 0 0)), (17, (.msl 3 lo17 0 (List.length o17)))] ?_
          refine AD (en := aR) o17 3 4 17 3 lo17 (List.length o17) hO (by kernel_rfl) (by kernel_rfl) (by kernel_rfl) (L' := [(lo1, 1, [(eL aR t10)]), (lo2, 1, [(eI t11)]), (lo12, 1, [(.mp lm)]), (lo15, 1, List.map (eI) b1)]) (by kernel_rfl) ?_
          intro H hO
          refine aG (aX (aX (bX (aH (?_)))))
          refine fH [(10, (.lp lo1 0 0)), (11, (.lp lo2 0 0)), (12, (.lp lo12 0 0)), (17, (eL aR o17))] ?_
          refine aN ?_
          refine aU aD 3 ?_
          refine bK 1 ?_
          refine fS 0 lo1 1 0 (eL aR t10) (eL aR o17) [(eL aR t10)] [(lo1, 1, [(eL aR o17)]), (lo2, 1, [(eI t11)]), (lo12, 1, [(.mp lm)]), (lo15, 1, List.map (eI) b1)] hO rfl (by kernel_rfl) ?_
          intro H hO
          refine fS 1 lo2 1 0 (eI t11) (eI (0 : Int)) [(eI t11)] [(lo1, 1, [(eL aR o17)]), (lo2, 1, [(eI ((0 : Int)))]), (lo12, 1, [(.mp lm)]), (lo15, 1, List.map (eI) b1)] hO rfl (by kernel_rfl) ?_
          intro H hO
          refine dJ ?_
          refine bB [(10, (.lp lo1 0 0)), (11, (.lp lo2 0 0))] ?_
          refine bI ?_
          replace hO := hO.nT (G' := (lD, .raw pR) :: ((lm, pJ pU (pmM los m)) :: up (pmL shF los m))) (by
            refine (List.Perm.cons _ List.perm_append_comm).trans ?_
            exact List.Perm.swap _ _ _)
          have hD := (hO.gm 0 _ rfl).2
          replace hO := (hO.mW .dead).nS
          exact aG (QM1 (.inr rfl) hD (rs := [.cell 10 37, .cell 11 22]) (xs := [(eL aR o17), (eI (0 : Int))]) (x := (.tup [(eL aR o17), (eI (0 : Int))])) (by kernel_rfl) (fN (lo := lo1) (k := 1) (y := (eL aR o17)) (x := (eL aR o17)) 0 hO (by kernel_rfl) (by kernel_rfl) (by kernel_rfl) (by kernel_rfl) (fN (lo := lo2) (k := 1) (y := (eI (0 : Int))) (x := (eI (0 : Int))) 1 hO (by kernel_rfl) (by kernel_rfl) (by kernel_rfl) (by kernel_rfl) lO)) (by kernel_rfl) ⟨rfl, hO.UO.out⟩)
      replace h1 : pX s mk = some out1 := h1
      unfold pX at h1
      refine bA ?_
      refine bB [(10, (.lp lo1 0 0)), (11, (.lp lo2 0 0)), (12, (.lp lo12 0 0)), (15, (.msl 1 lo15 0 (List.length s))), (61, (.lp li 0 0)), (63, (aC true))] ?_
      refine aN ?_
      refine mA (true) (fun hc => ?_) (fun hc => by cases hc)
      refine bQ ?_
      refine bB [(10, (.lp lo1 0 0)), (11, (.lp lo2 0 0)), (12, (.lp lo12 0 0)), (15, (.msl 1 lo15 0 (List.length s))), (61, (.lp li 0 0))] ?_
      refine cB 4 ?_
      refine aN ?_
      refine aU aD 3 ?_
      refine UC hat hO ?_
      refine bA ?_
      refine bB [(10, (.lp lo1 0 0)), (11, (.lp lo2 0 0)), (12, (.lp lo12 0 0)), (15, (.msl 1 lo15 0 (List.length s))), (61, (.lp li 0 0)), (16, (eI mk))] ?_
      refine aU aD 5 ?_
      refine bK 2 ?_
      refine qN (xs := [(eI mk)]) (k := 1) (by kernel_rfl) (by kernel_rfl) ?_
      obtain ⟨c5, h1⟩ := aZ h1
      refine wY (e := (eI)) s ([mk]) 3 lo15 1 8 (gI [(eI mk)]) (fun lo16 => [(lo1, 1, [(eL aR t10)]), (lo2, 1, [(eI t11)]), (lo12, 1, [(.mp lm)]), (lo16, 1, List.map (eI) (s ++ ([mk])))]) (by kernel_rfl) (by kernel_rfl) hO (by kernel_rfl) (by kernel_rfl) c5 (fun _ => by kernel_rfl) ?_
      intro lo16 H hO
      refine bA ?_
      obtain rfl := oI h1
      exact aG (aY (⟨rfl, _, _, _, hlt, hleft, hall, lo16, .eq (by kernel_rfl), hO⟩))
    · obtain ⟨t10, t11, m⟩ := s
      dsimp only [Sum.elim_inr] at hi
      obtain ⟨los, hl, rfl⟩ := hi
      obtain rfl := oI h0
      obtain ⟨hlL, hO⟩ := lI hO
      refine ⟨_, _, hlL, (by intro e; cases e), ?_⟩
      refine bI ?_
      refine aG (bF (aT ?_))
      have hD := (hO.gm 0 _ rfl).2
      replace hO := (hO.mW .dead).nS
      exact QM1 (.inr rfl) hD (rs := [.cell 10 37, .cell 11 22]) (xs := [(eL aR t10), (eI t11)]) (x := (.tup [(eL aR t10), (eI t11)])) (by kernel_rfl) (fN (lo := lo1) (k := 1) (y := (eL aR t10)) (x := (eL aR t10)) 0 hO (by kernel_rfl) (by kernel_rfl) (by kernel_rfl) (by kernel_rfl) (fN (lo := lo2) (k := 1) (y := (eI t11)) (x := (eI t11)) 1 hO (by kernel_rfl) (by kernel_rfl) (by kernel_rfl) (by kernel_rfl) lO)) (by kernel_rfl) ⟨rfl, hO.UO.out⟩

theorem zS  (r : Bool) (h0 : oG  = some r) : dG Try.prog 11 [] (aC r) := by
  intro H0
  refine dF Try.func11 ?_
  have hO := aK.start H0
  unfold oG at h0
  refine cH aD 1 [] ?_
  refine aN ?_
  refine aU aD 6 ?_
  obtain ⟨x1, hx2, h0⟩ := aV h0
  refine dU (VN (10 : Int) (5 : Int) (12 : Int) _ hx2) hO ?_
  intro H hO
  refine bA ?_
  refine bB [(1, (eI x1.1)), (2, (eI x1.2))] ?_
  refine aN ?_
  refine aU aD 7 ?_
  refine bK 1 ?_
  obtain ⟨x4, hx5, h0⟩ := aV h0
  refine dU (OE (10 : Int) (5 : Int) (bJ.mk (3 : Int) (7 : Int)) (0 : Int) (100 : Int) _ hx5) hO ?_
  intro H hO
  refine bA ?_
  refine bT [] [(3, (eL (eI) x4.1)), (4, (eI x4.2))] ?_
  refine aN ?_
  refine aU aD 13 ?_
  refine bK 1 ?_
  refine qN (xs := [(aI (aE.mk (1 : Int) (1 : Int) ByteArray.empty))]) (k := 3) (by kernel_rfl) (by kernel_rfl) ?_
  refine bK 4 ?_
  refine qN (xs := [(aI (aE.mk (1 : Int) (1 : Int) ByteArray.empty))]) (k := 3) (by kernel_rfl) (by kernel_rfl) ?_
  refine bK 6 ?_
  refine qN (xs := [(.agg [(gI [(aI (aE.mk (1 : Int) (1 : Int) ByteArray.empty))]), (eI (3 : Int)), (eI (1 : Int))]), (.agg [(gI [(aI (aE.mk (1 : Int) (1 : Int) ByteArray.empty))]), (eI (7 : Int)), (eI (-1 : Int))])]) (k := 3) (by kernel_rfl) (by kernel_rfl) ?_
  obtain ⟨x7, hx8, h0⟩ := aV h0
  refine aCT 16 [(gI [(.agg [(gI [(aI (aE.mk (1 : Int) (1 : Int) ByteArray.empty))]), (eI (3 : Int)), (eI (1 : Int))]), (.agg [(gI [(aI (aE.mk (1 : Int) (1 : Int) ByteArray.empty))]), (eI (7 : Int)), (eI (-1 : Int))])]), (eI (10 : Int)), (eI (5 : Int)), (eI (0 : Int)), (eI (100 : Int))] (.tup [(eL aR x7.1), (eI x7.2)]) (dG.sub (AP ([aM.mk ([aE.mk (1 : Int) (1 : Int) ByteArray.empty]) (3 : Int) (1 : Int), aM.mk ([aE.mk (1 : Int) (1 : Int) ByteArray.empty]) (7 : Int) (-1 : Int)]) (10 : Int) (5 : Int) (0 : Int) (100 : Int) _ hx8) ⟨(aBP (e := aL) (xs := [(.agg [(gI [(aI (aE.mk (1 : Int) (1 : Int) ByteArray.empty))]), (eI (3 : Int)), (eI (1 : Int))]), (.agg [(gI [(aI (aE.mk (1 : Int) (1 : Int) ByteArray.empty))]), (eI (7 : Int)), (eI (-1 : Int))])]) (l := [aM.mk ([aE.mk (1 : Int) (1 : Int) ByteArray.empty]) (3 : Int) (1 : Int), aM.mk ([aE.mk (1 : Int) (1 : Int) ByteArray.empty]) (7 : Int) (-1 : Int)]) ⟨(XT (xs := [(gI [(aI (aE.mk (1 : Int) (1 : Int) ByteArray.empty))]), (eI (3 : Int)), (eI (1 : Int))]) (ys := [(eL aI ([aE.mk (1 : Int) (1 : Int) ByteArray.empty])), (eI (3 : Int)), (eI (1 : Int))]) ⟨QL (l := [aE.mk (1 : Int) (1 : Int) ByteArray.empty]), aO.refl _, aO.refl _, trivial⟩), (XT (xs := [(gI [(aI (aE.mk (1 : Int) (1 : Int) ByteArray.empty))]), (eI (7 : Int)), (eI (-1 : Int))]) (ys := [(eL aI ([aE.mk (1 : Int) (1 : Int) ByteArray.empty])), (eI (7 : Int)), (eI (-1 : Int))]) ⟨QL (l := [aE.mk (1 : Int) (1 : Int) ByteArray.empty]), aO.refl _, aO.refl _, trivial⟩), trivial⟩ rfl), aO.refl _, aO.refl _, aO.refl _, aO.refl _, trivial⟩) hO ?_
  intro H hO
  refine bA ?_
  refine bT [] [(5, (eL aR x7.1)), (6, (eI x7.2))] ?_
  refine aN ?_
  refine aU aD 47 ?_
  obtain ⟨c10, h0⟩ := aZ h0
  obtain ⟨c11, h0⟩ := aZ h0
  obtain ⟨c12, h0⟩ := aZ h0
  refine sW [((((((decide (x1.1 = (5 : Int))) && (decide (x1.2 = (0 : Int)))) && (decide (x4.2 = (0 : Int)))) && (decide ((lN x4.1) = (2 : Int))))) = true → 0 ≤ (1 : Int) ∧ (1 : Int) < (lN x4.1)), (((((((((decide (x1.1 = (5 : Int))) && (decide (x1.2 = (0 : Int)))) && (decide (x4.2 = (0 : Int)))) && (decide ((lN x4.1) = (2 : Int)))) && (decide ((gD x4.1 (1 : Int)) = (5 : Int)))) && (decide (x7.2 = (0 : Int)))) && (decide ((lN x7.1) = (2 : Int))))) = true → 0 ≤ (1 : Int) ∧ (1 : Int) < (lN x7.1)), ((((((((((decide (x1.1 = (5 : Int))) && (decide (x1.2 = (0 : Int)))) && (decide (x4.2 = (0 : Int)))) && (decide ((lN x4.1) = (2 : Int)))) && (decide ((gD x4.1 (1 : Int)) = (5 : Int)))) && (decide (x7.2 = (0 : Int)))) && (decide ((lN x7.1) = (2 : Int)))) && ((decide ((((gD x7.1 (1 : Int)).Span).From) = ((bJ.mk (5 : Int) (15 : Int)).From))) && ((decide ((((gD x7.1 (1 : Int)).Span).To) = ((bJ.mk (5 : Int) (15 : Int)).To))) && true)))) = true → 0 ≤ (1 : Int) ∧ (1 : Int) < (lN x7.1))] ⟨c10, c11, c12, trivial⟩ ?_
  refine bB [(0, (aC (((((((((decide (x1.1 = (5 : Int))) && (decide (x1.2 = (0 : Int)))) && (decide (x4.2 = (0 : Int)))) && (decide ((lN x4.1) = (2 : Int)))) && (decide ((gD x4.1 (1 : Int)) = (5 : Int)))) && (decide (x7.2 = (0 : Int)))) && (decide ((lN x7.1) = (2 : Int)))) && ((decide ((((gD x7.1 (1 : Int)).Span).From) = ((bJ.mk (5 : Int) (15 : Int)).From))) && ((decide ((((gD x7.1 (1 : Int)).Span).To) = ((bJ.mk (5 : Int) (15 : Int)).To))) && true))) && (decide ((lN ((gD x7.1 (1 : Int)).Rows)) = (1 : Int))))))] ?_
  refine bI ?_
  obtain rfl := oI h0
  exact aG (Q_r hO)

theorem ET (a0 : (List aE)) (b1 : (List aE)) (r : Bool) (h0 : qA a0 b1 = some r) : dG Try.prog 46 [(eL aI a0), (eL aI b1)] (aC r) := by
  intro H0
  refine dF Try.func46 ?_
  have hO := aK.start H0
  unfold qA at h0
  refine aW aD 1 [] [] ?_
  refine aN ?_
  refine aW aD 5 [] [(10, (aC (!decide ((lN a0) = (lN b1)))))] ?_
  refine bO h0 (fun h0 => ?_) (fun h0 => ?_)
  · refine cH aD 1 [(4, (aC false))] ?_
    refine bI ?_
    obtain rfl := oI h0
    exact aG (aT (Q_r hO))
  refine bQ ?_
  refine bB [(0, (eL aI a0)), (1, (eL aI b1))] ?_
  refine gX (fun T H => Has T [] ∧ aK ⟨H0, [], []⟩ H [] ∧ rN  = some r) ?_ ?_
  · clear hO h0
    rintro T H ⟨hT, hO, h0⟩
    refine bH hT ?_
    clear hT
    unfold rN at h0
    refine cH aD 1 [(4, (aC true))] ?_
    refine bI ?_
    obtain rfl := oI h0
    exact aG (Q_r hO)
  refine aW aD 1 [] [(5, (eI (0 : Int)))] ?_
  refine cB 0 ?_
  refine fH [(0, (eL aI a0)), (1, (eL aI b1)), (5, (eI (0 : Int)))] ?_
  refine fI (fun T H => ∃ i5 : Int, Has T [(0, (eL aI a0)), (1, (eL aI b1)), (5, (eI i5))] ∧ aK ⟨H0, [], []⟩ H [] ∧ uI a0 b1 i5 = some r) ?_ ⟨(0 : Int), .eq (by kernel_rfl), hO, h0⟩
  clear hO h0
  rintro T H ⟨i5, hT, hO, h0⟩
  refine bH hT ?_
  clear hT
  unfold uI at h0
  obtain ⟨rr0, hl0, h0⟩ := aV h0
  refine dM (by kernel_rfl) (fun (s : Int) T H => Has T [(0, (eL aI a0)), (1, (eL aI b1)), (5, (eI s))] ∧ aK ⟨H0, [], []⟩ H []) hl0 ⟨.eq (by kernel_rfl), hO⟩ ?_
  clear hO
  rintro k0 s out1 T H ⟨hT, hO⟩ h1 ho0
  obtain ⟨i5, rfl⟩ : ∃ x, x = s := ⟨_, rfl⟩
  replace h1 : oS a0 b1 i5 = some out1 := h1
  refine bH hT ?_
  clear hT
  unfold oS at h1
  refine aN ?_
  refine aW aD 4 [] [(14, (aC (decide (i5 < (lN a0)))))] ?_
  refine bO h1 (fun h1 => ?_) (fun h1 => ?_)
  · refine bQ ?_
    refine bB [(0, (eL aI a0)), (1, (eL aI b1)), (5, (eI i5))] ?_
    refine aN ?_
    refine cB 1 ?_
    refine aN ?_
    refine fX (gC [20, 24]) aD 9 ?_
    obtain ⟨c3, h1⟩ := aZ h1
    obtain ⟨c4, h1⟩ := aZ h1
    refine IG (Ds := [0 ≤ i5 ∧ i5 < (lN a0), 0 ≤ i5 ∧ i5 < (lN b1)]) (by kernel_rfl) ⟨c3, c4, trivial⟩ ?_
    refine bT [] [(25, (aC (!((decide (((gD a0 i5).Kind) = ((gD b1 i5).Kind))) && ((decide (((gD a0 i5).Num) = ((gD b1 i5).Num))) && ((nR ((gD a0 i5).Text) ((gD b1 i5).Text)) && true))))))] ?_
    refine bO h1 (fun h1 => ?_) (fun h1 => ?_)
    · refine cH aD 1 [(4, (aC false))] ?_
      refine bI ?_
      obtain rfl := oI h1
      obtain rfl : _ = rr0 := ho0
      replace h0 : some false = some r := h0
      obtain rfl := oI h0
      exact aG (bF (aT (aT (bF (aT (Q_r hO))))))
    refine bQ ?_
    refine eX [(0, (eL aI a0)), (1, (eL aI b1)), (5, (eI i5))] ?_
    refine aG (aY (aH (?_)))
    refine aU aD 3 ?_
    refine bA ?_
    exact aG (aH (⟨rfl, _, (oI h1).symm, .eq (by kernel_rfl), hO⟩))
  refine iJ 0 ?_
  obtain rfl := oI h1
  obtain rfl : _ = rr0 := ho0
  replace h0 : rN  = some r := h0
  exact aG (aX (aX (bX (aH (⟨rfl, .eq (by kernel_rfl), hO, h0⟩)))))

end Go.Abs
namespace Go.Abs
open Go Go.RowKit Go.Proofs
theorem DW (a0 : (List dQ)) (b1 : (List dQ)) (r : Bool) (h0 : mX a0 b1 = some r) : dG Try.prog 42 [(eL cN a0), (eL cN b1)] (aC r) := by
  intro H0
  refine dF Try.func42 ?_
  have hO := aK.start H0
  unfold mX at h0
  refine aW aD 1 [] [] ?_
  refine aN ?_
  refine aW aD 5 [] [(10, (aC (!decide ((lN a0) = (lN b1)))))] ?_
  refine bO h0 (fun h0 => ?_) (fun h0 => ?_)
  · refine cH aD 1 [(4, (aC false))] ?_
    refine bI ?_
    obtain rfl := oI h0
    exact aG (aT (Q_r hO))
  refine bQ ?_
  refine bB [(0, (eL cN a0)), (1, (eL cN b1))] ?_
  refine gX (fun T H => Has T [] ∧ aK ⟨H0, [], []⟩ H [] ∧ mI  = some r) ?_ ?_
  · clear hO h0
    rintro T H ⟨hT, hO, h0⟩
    refine bH hT ?_
    clear hT
    unfold mI at h0
    refine cH aD 1 [(4, (aC true))] ?_
    refine bI ?_
    obtain rfl := oI h0
    exact aG (Q_r hO)
  refine aW aD 1 [] [(5, (eI (0 : Int)))] ?_
  refine cB 0 ?_
  refine fH [(0, (eL cN a0)), (1, (eL cN b1)), (5, (eI (0 : Int)))] ?_
  refine fI (fun T H => ∃ i5 : Int, Has T [(0, (eL cN a0)), (1, (eL cN b1)), (5, (eI i5))] ∧ aK ⟨H0, [], []⟩ H [] ∧ oL a0 b1 i5 = some r) ?_ ⟨(0 : Int), .eq (by kernel_rfl), hO, h0⟩
  clear hO h0
  rintro T H ⟨i5, hT, hO, h0⟩
  refine bH hT ?_
  clear hT
  unfold oL at h0
  obtain ⟨rr0, hl0, h0⟩ := aV h0
  refine dM (by kernel_rfl) (fun (s : Int) T H => Has T [(0, (eL cN a0)), (1, (eL cN b1)), (5, (eI s))] ∧ aK ⟨H0, [], []⟩ H []) hl0 ⟨.eq (by kernel_rfl), hO⟩ ?_
  clear hO
  rintro k0 s out1 T H ⟨hT, hO⟩ h1 ho0
  obtain ⟨i5, rfl⟩ : ∃ x, x = s := ⟨_, rfl⟩
  replace h1 : lA a0 b1 i5 = some out1 := h1
  refine bH hT ?_
  clear hT
  unfold lA at h1
  refine aN ?_
  refine aW aD 4 [] [(14, (aC (decide (i5 < (lN a0)))))] ?_
  refine bO h1 (fun h1 => ?_) (fun h1 => ?_)
  · refine bQ ?_
    refine bB [(0, (eL cN a0)), (1, (eL cN b1)), (5, (eI i5))] ?_
    refine aN ?_
    refine cB 1 ?_
    refine aN ?_
    obtain ⟨c3, h1⟩ := aZ h1
    obtain ⟨c4, h1⟩ := aZ h1
    obtain ⟨c5, h1⟩ := aZ h1
    obtain ⟨c6, h1⟩ := aZ h1
    obtain ⟨x7, hx8, h1⟩ := aV h1
    refine fX (gC [21, 26, 33, 38]) aD 25 ?_
    refine oK (K := fun T H => Has (lift T) [(0, (eL cN a0)), (1, (eL cN b1)), (5, (eI i5)), (41, (aC ((!decide (((gD a0 i5).N) = ((gD b1 i5).N))) || (!x7))))] ∧ aK ⟨H0, [], []⟩ H []) ?_ ?_
    · refine cD 12 [0 ≤ i5 ∧ i5 < (lN a0), 0 ≤ i5 ∧ i5 < (lN b1)] ⟨c3, c4, trivial⟩ ?_
      refine mP (t := 28) (e := !decide (((gD a0 i5).N) = ((gD b1 i5).N))) (by kernel_rfl) (fun hg9 => ?_) (fun hg9 => ?_)
      · refine jP ?_
        exact ⟨⟨[(0, (eL cN a0)), (1, (eL cN b1)), (5, (eI i5)), (41, (aC true))], by kernel_rfl, rfl, ⟨aO.refl _, aO.refl _, aO.refl _, aO.eq (congrArg aC (wQ hg9 rfl).symm), trivial⟩⟩, hO⟩
      refine cD 22 [0 ≤ i5 ∧ i5 < (lN a0), 0 ≤ i5 ∧ i5 < (lN b1)] ⟨(c5 (vI hg9)), (c6 (vI hg9)), trivial⟩ ?_
      refine nD 46 [(eL aI ((gD a0 i5).Row)), (eL aI ((gD b1 i5).Row))] (aC x7) (by kernel_rfl) (by kernel_rfl) (ET ((gD a0 i5).Row) ((gD b1 i5).Row) _ (iW hx8 (vI hg9))) hO ?_
      intro H hO
      refine jP ?_
      exact ⟨⟨[(0, (eL cN a0)), (1, (eL cN b1)), (5, (eI i5)), (41, (aC (!x7)))], by kernel_rfl, rfl, ⟨aO.refl _, aO.refl _, aO.refl _, aO.eq (congrArg aC (wQ hg9 rfl).symm), trivial⟩⟩, hO⟩
    · rintro T H ⟨hT, hO⟩
      refine eB hT ?_
      clear hT
      refine aG (aH ?_)
      refine bO h1 (fun h1 => ?_) (fun h1 => ?_)
      · refine cH aD 1 [(4, (aC false))] ?_
        refine bI ?_
        obtain rfl := oI h1
        obtain rfl : _ = rr0 := ho0
        replace h0 : some false = some r := h0
        obtain rfl := oI h0
        exact aG (bF (aT (aT (bF (aT (Q_r hO))))))
      refine bQ ?_
      refine eX [(0, (eL cN a0)), (1, (eL cN b1)), (5, (eI i5))] ?_
      refine aG (aY (aH (?_)))
      refine aU aD 3 ?_
      refine bA ?_
      exact aG (aH (⟨rfl, _, (oI h1).symm, .eq (by kernel_rfl), hO⟩))
  refine iJ 0 ?_
  obtain rfl := oI h1
  obtain rfl : _ = rr0 := ho0
  replace h0 : mI  = some r := h0
  exact aG (aX (aX (bX (aH (⟨rfl, .eq (by kernel_rfl), hO, h0⟩)))))

theorem PW (a0 : (List aS)) (b1 : (List aS)) (r : Bool) (h0 : sK a0 b1 = some r) : dG Try.prog 18 [(eL aR a0), (eL aR b1)] (aC r) := by
  intro H0
  refine dF Try.func18 ?_
  have hO := aK.start H0
  unfold sK at h0
  refine aW aD 1 [] [] ?_
  refine aN ?_
  refine aW aD 5 [] [(10, (aC (!decide ((lN a0) = (lN b1)))))] ?_
  refine bO h0 (fun h0 => ?_) (fun h0 => ?_)
  · refine cH aD 1 [(4, (aC false))] ?_
    refine bI ?_
    obtain rfl := oI h0
    exact aG (aT (Q_r hO))
  refine bQ ?_
  refine bB [(0, (eL aR a0)), (1, (eL aR b1))] ?_
  refine gX (fun T H => Has T [] ∧ aK ⟨H0, [], []⟩ H [] ∧ rD  = some r) ?_ ?_
  · clear hO h0
    rintro T H ⟨hT, hO, h0⟩
    refine bH hT ?_
    clear hT
    unfold rD at h0
    refine cH aD 1 [(4, (aC true))] ?_
    refine bI ?_
    obtain rfl := oI h0
    exact aG (Q_r hO)
  refine aW aD 1 [] [(5, (eI (0 : Int)))] ?_
  refine cB 0 ?_
  refine fH [(0, (eL aR a0)), (1, (eL aR b1)), (5, (eI (0 : Int)))] ?_
  refine fI (fun T H => ∃ i5 : Int, Has T [(0, (eL aR a0)), (1, (eL aR b1)), (5, (eI i5))] ∧ aK ⟨H0, [], []⟩ H [] ∧ uN a0 b1 i5 = some r) ?_ ⟨(0 : Int), .eq (by kernel_rfl), hO, h0⟩
  clear hO h0
  rintro T H ⟨i5, hT, hO, h0⟩
  refine bH hT ?_
  clear hT
  unfold uN at h0
  obtain ⟨rr0, hl0, h0⟩ := aV h0
  refine dM (by kernel_rfl) (fun (s : Int) T H => Has T [(0, (eL aR a0)), (1, (eL aR b1)), (5, (eI s))] ∧ aK ⟨H0, [], []⟩ H []) hl0 ⟨.eq (by kernel_rfl), hO⟩ ?_
  clear hO
  rintro k0 s out1 T H ⟨hT, hO⟩ h1 ho0
  obtain ⟨i5, rfl⟩ : ∃ x, x = s := ⟨_, rfl⟩
  replace h1 : oT a0 b1 i5 = some out1 := h1
  refine bH hT ?_
  clear hT
  unfold oT at h1
  refine aN ?_
  refine aW aD 4 [] [(14, (aC (decide (i5 < (lN a0)))))] ?_
  refine bO h1 (fun h1 => ?_) (fun h1 => ?_)
  · refine bQ ?_
    refine bB [(0, (eL aR a0)), (1, (eL aR b1)), (5, (eI i5))] ?_
    refine aN ?_
    refine cB 1 ?_
    refine aN ?_
    obtain ⟨c3, h1⟩ := aZ h1
    obtain ⟨c4, h1⟩ := aZ h1
    obtain ⟨c5, h1⟩ := aZ h1
    obtain ⟨c6, h1⟩ := aZ h1
    obtain ⟨x7, hx8, h1⟩ := aV h1
    refine fX (gC [21, 26, 33, 38]) aD 25 ?_
    refine oK (K := fun T H => Has (lift T) [(0, (eL aR a0)), (1, (eL aR b1)), (5, (eI i5)), (41, (aC ((!((decide ((((gD a0 i5).Span).From) = (((gD b1 i5).Span).From))) && ((decide ((((gD a0 i5).Span).To) = (((gD b1 i5).Span).To))) && true))) || (!x7))))] ∧ aK ⟨H0, [], []⟩ H []) ?_ ?_
    · refine cD 12 [0 ≤ i5 ∧ i5 < (lN a0), 0 ≤ i5 ∧ i5 < (lN b1)] ⟨c3, c4, trivial⟩ ?_
      refine mP (t := 28) (e := !((decide ((((gD a0 i5).Span).From) = (((gD b1 i5).Span).From))) && ((decide ((((gD a0 i5).Span).To) = (((gD b1 i5).Span).To))) && true))) (by kernel_rfl) (fun hg9 => ?_) (fun hg9 => ?_)
      · refine jP ?_
        exact ⟨⟨[(0, (eL aR a0)), (1, (eL aR b1)), (5, (eI i5)), (41, (aC true))], by kernel_rfl, rfl, ⟨aO.refl _, aO.refl _, aO.refl _, aO.eq (congrArg aC (wQ hg9 rfl).symm), trivial⟩⟩, hO⟩
      refine cD 22 [0 ≤ i5 ∧ i5 < (lN a0), 0 ≤ i5 ∧ i5 < (lN b1)] ⟨(c5 (vI hg9)), (c6 (vI hg9)), trivial⟩ ?_
      refine nD 42 [(eL cN ((gD a0 i5).Rows)), (eL cN ((gD b1 i5).Rows))] (aC x7) (by kernel_rfl) (by kernel_rfl) (DW ((gD a0 i5).Rows) ((gD b1 i5).Rows) _ (iW hx8 (vI hg9))) hO ?_
      intro H hO
      refine jP ?_
      exact ⟨⟨[(0, (eL aR a0)), (1, (eL aR b1)), (5, (eI i5)), (41, (aC (!x7)))], by kernel_rfl, rfl, ⟨aO.refl _, aO.refl _, aO.refl _, aO.eq (congrArg aC (wQ hg9 rfl).symm), trivial⟩⟩, hO⟩
    · rintro T H ⟨hT, hO⟩
      refine eB hT ?_
      clear hT
      refine aG (aH ?_)
      refine bO h1 (fun h1 => ?_) (fun h1 => ?_)
      · refine cH aD 1 [(4, (aC false))] ?_
        refine bI ?_
        obtain rfl := oI h1
        obtain rfl : _ = rr0 := ho0
        replace h0 : some false = some r := h0
        obtain rfl := oI h0
        exact aG (bF (aT (aT (bF (aT (Q_r hO))))))
      refine bQ ?_
      refine eX [(0, (eL aR a0)), (1, (eL aR b1)), (5, (eI i5))] ?_
      refine aG (aY (aH (?_)))
      refine aU aD 3 ?_
      refine bA ?_
      exact aG (aH (⟨rfl, _, (oI h1).symm, .eq (by kernel_rfl), hO⟩))
  refine iJ 0 ?_
  obtain rfl := oI h1
  obtain rfl : _ = rr0 := ho0
  replace h0 : rD  = some r := h0
  exact aG (aX (aX (bX (aH (⟨rfl, .eq (by kernel_rfl), hO, h0⟩)))))

theorem UJ (lo0p : Nat) (l0 : (List aM)) (r1 : (List aE)) (f2 : (List aB)) (r : (List aM)) (h0 : vX l0 r1 f2 = some r) : CQ Try.prog 91 lo0p 3 (List.map aL l0) [(.msl 3 lo0p 0 (List.length l0)), (eL aI r1), (eL aF f2)] (fun lo => .msl 3 lo 0 (List.length r)) (List.map aL r) := by
  intro H0 hl0
  refine dF Try.func91 ?_
  have hO := aK.rI hl0
  clear hl0
  unfold vX at h0
  refine aW aD 1 [] [] ?_
  refine gX (fun T H => ∃ l0 : List aM, ∃ lo1 : Nat, Has T [(0, (.msl 3 lo1 0 (List.length l0)))] ∧ aK ⟨H0, [lo0p], []⟩ H [(lo1, 3, List.map aL l0)] ∧ xB l0 = some r) ?_ ?_
  · clear hO h0
    rintro T H ⟨l0, lo1, hT, hO, h0⟩
    refine bH hT ?_
    clear hT
    unfold xB at h0
    refine cH aD 2 [(6, (.msl 3 lo1 0 (List.length l0)))] ?_
    refine bI ?_
    obtain rfl := oI h0
    exact aG (kY (x := (.msl 3 lo1 0 (List.length l0))) (by kernel_rfl) (aO.refl _) ⟨lo1, rfl, hO⟩)
  refine aW aD 3 [2] [(9, (eL aF f2)), (10, (eI (lN f2))), (11, (eI (0 : Int)))] ?_
  refine cB 0 ?_
  refine fH [(0, (.msl 3 lo0p 0 (List.length l0))), (1, (eL aI r1)), (9, (eL aF f2)), (10, (eI (lN f2))), (11, (eI (0 : Int)))] ?_
  refine fI (fun T H => ∃ l0 : List aM, ∃ t9 : (List aB), ∃ t10 : Int, ∃ t11 : Int, ∃ lo3 : Nat, Has T [(0, (.msl 3 lo3 0 (List.length l0))), (1, (eL aI r1)), (9, (eL aF t9)), (10, (eI t10)), (11, (eI t11))] ∧ aK ⟨H0, [lo0p], []⟩ H [(lo3, 3, List.map aL l0)] ∧ xG l0 r1 t9 t10 t11 = some r) ?_ ⟨l0, f2, (lN f2), (0 : Int), lo0p, .eq (by kernel_rfl), hO, h0⟩
  clear hO h0
  rintro T H ⟨l0, t9, t10, t11, lo3, hT, hO, h0⟩
  refine bH hT ?_
  clear hT
  unfold xG at h0
  obtain ⟨rr0, hl0, h0⟩ := aV h0
  refine dM (by kernel_rfl) (fun (s : List aM × Int) T H => ∃ lo3 : Nat, Has T [(0, (.msl 3 lo3 0 (List.length s.1))), (1, (eL aI r1)), (9, (eL aF t9)), (10, (eI t10)), (11, (eI s.2))] ∧ aK ⟨H0, [lo0p], []⟩ H [(lo3, 3, List.map aL s.1)]) hl0 ⟨lo3, .eq (by kernel_rfl), hO⟩ ?_
  clear hO
  rintro k0 s out1 T H ⟨lo3, hT, hO⟩ h1 ho0
  obtain ⟨l0, t11⟩ := s
  replace h1 : nV r1 t9 t10 l0 t11 = some out1 := h1
  try dsimp only at hT
  refine bH hT ?_
  clear hT
  unfold nV at h1
  refine aW aD 1 [] [(12, (aC (decide (t11 < t10))))] ?_
  refine aN ?_
  refine bO h1 (fun h1 => ?_) (fun h1 => ?_)
  · refine bQ ?_
    refine bB [(0, (.msl 3 lo3 0 (List.length l0))), (1, (eL aI r1)), (9, (eL aF t9)), (10, (eI t10)), (11, (eI t11))] ?_
    refine aN ?_
    refine cB 1 ?_
    refine aN ?_
    refine aU aD 4 ?_
    obtain ⟨c5, h1⟩ := aZ h1
    refine xX 2 [0 ≤ t11 ∧ t11 < (lN t9)] ⟨c5, trivial⟩ ?_
    refine jN 2 (aF (aB.mk 0 0)) (by kernel_rfl) (by kernel_rfl) hO ?_
    intro lo6 H hO
    refine fS 1 lo6 2 0 (aF (aB.mk 0 0)) (aF (gD t9 t11)) [(aF (aB.mk 0 0))] [(lo3, 3, List.map aL l0), (lo6, 2, [(aF (gD t9 t11))])] hO rfl (by kernel_rfl) ?_
    intro H hO
    refine dJ ?_
    refine bT [] [(8, (.lp lo6 0 0))] ?_
    refine fH [(0, (.msl 3 lo3 0 (List.length l0))), (1, (eL aI r1)), (8, (.lp lo6 0 0)), (9, (eL aF t9)), (10, (eI t10)), (11, (eI t11))] ?_
    refine XO 2 1 8 2 lo6 (aF (gD t9 t11)) [(lo3, 3, List.map aL l0)] hO (by kernel_rfl) (by kernel_rfl) (by kernel_rfl) ?_
    intro H hO
    refine fX (gC [19, 21, 23]) aD 11 ?_
    refine lT 2 ?_
    obtain ⟨x7, hx8, h1⟩ := aV h1
    refine yY (CB r1 _ hx8) hO ?_
    intro H hO
    refine lT 8 ?_
    refine UM (xs := [(aL (aM.mk x7 ((gD t9 t11).At) ((gD t9 t11).Net)))]) (k := 3) (by kernel_rfl) (by kernel_rfl) ?_
    obtain ⟨c11, h1⟩ := aZ h1
    refine KF (e := aL) l0 ([aM.mk x7 ((gD t9 t11).At) ((gD t9 t11).Net)]) 0 lo3 3 40 (gI [(aL (aM.mk x7 ((gD t9 t11).At) ((gD t9 t11).Net)))]) (fun lo10 => [(lo10, 3, List.map aL (l0 ++ ([aM.mk x7 ((gD t9 t11).At) ((gD t9 t11).Net)])))]) (by kernel_rfl) (by kernel_rfl) hO (by kernel_rfl) (by kernel_rfl) c11 (fun _ => by kernel_rfl) ?_
    intro lo10 H hO
    refine jP ?_
    refine eX [(0, (.msl 3 lo10 0 (List.length (l0 ++ ([aM.mk x7 ((gD t9 t11).At) ((gD t9 t11).Net)]))))), (1, (eL aI r1)), (9, (eL aF t9)), (10, (eI t10)), (11, (eI t11))] ?_
    refine aG (aY (aH (?_)))
    refine aU aD 2 ?_
    refine bA ?_
    exact aG (aH (⟨rfl, _, (oI h1).symm, _, .eq (by kernel_rfl), hO⟩))
  refine iJ 0 ?_
  obtain rfl := oI h1
  obtain rfl : _ = rr0 := ho0
  replace h0 : xB l0 = some r := h0
  exact aG (aX (aX (bX (aH (⟨rfl, _, _, .eq (by kernel_rfl), hO, h0⟩)))))

theorem ND (l0 : (List aM)) (by1_f : Nat) (by1_a by1_c : List V) (by1 : (List aB) → Option ((List aB) × Int)) (by1_h : ∀ a0 r, by1 a0 = some r → dG Try.prog by1_f (by1_a ++ [(eL aF a0)] ++ by1_c) (.tup [(eL aF r.1), (eI r.2)])) (r : ((List aM) × Int)) (h0 : rO l0 by1 = some r) : dG Try.prog 68 [(eL aL l0), (.fn (.func by1_f) by1_a by1_c)] (.tup [(eL aL r.1), (eI r.2)]) := by
  intro H0
  refine yP aD Try.func68 (by kernel_rfl) (by kernel_rfl) (by kernel_rfl) ?_
  have hO := aK.start H0
  unfold rO at h0
  refine aN ?_
  refine aU aD 3 ?_
  refine gK 1 (.fn (.func by1_f) by1_a by1_c) (by kernel_rfl) (by kernel_rfl) ?_
  refine wW 1 (.sl true 0 (fun _ => .bad)) (eL aL ([])) (by kernel_rfl) (by kernel_rfl) (by kernel_rfl) (kP) (by kernel_rfl) (by kernel_rfl) hO ?_
  intro lo1 H hO
  refine jN 1 (eI 0) (by kernel_rfl) (by kernel_rfl) hO ?_
  intro lo2 H hO
  refine dJ ?_
  refine bT [1] [(3, (.rp (.fn (.func by1_f) by1_a by1_c))), (4, (.lp lo1 0 0)), (5, (.lp lo2 0 0))] ?_
  refine aN ?_
  refine aU aD 3 ?_
  refine qN (xs := []) (k := 3) (by kernel_rfl) (by kernel_rfl) ?_
  refine wW 1 (.sl true 0 (fun _ => .bad)) (eL aL ([])) (by kernel_rfl) (by kernel_rfl) (by kernel_rfl) (kP) (by kernel_rfl) (by kernel_rfl) hO ?_
  intro lo3 H hO
  refine YF 11 3 (fun _ => .bad) (by kernel_rfl) hO (by kernel_rfl) ?_
  intro lo4 H hO
  refine fS 2 lo3 1 0 (eL aL ([])) (.msl 3 lo4 0 (List.length ([] : List aM))) [(eL aL ([]))] [(lo1, 1, [(eL aL ([]))]), (lo2, 1, [(eI 0)]), (lo3, 1, [(.msl 3 lo4 0 (List.length ([] : List aM)))]), (lo4, 3, List.map aL ([] : List aM))] hO rfl (by kernel_rfl) ?_
  intro H hO
  refine dJ ?_
  refine bT [] [(6, (.lp lo3 0 0))] ?_
  refine aN ?_
  refine aN ?_
  refine aU aD 2 ?_
  refine bK 1 ?_
  obtain ⟨x5, hx6, h0⟩ := aV h0
  refine dU (AW l0 _ hx6) hO ?_
  intro H hO
  refine dJ ?_
  refine bT [0] [(13, (.fn (.func 74) [] [(.rp (eL aL x5))]))] ?_
  refine cB 0 ?_
  refine fH [(3, (.rp (.fn (.func by1_f) by1_a by1_c))), (4, (.lp lo1 0 0)), (5, (.lp lo2 0 0)), (6, (.lp lo3 0 0)), (13, (.fn (.func 74) [] [(.rp (eL aL x5))]))] ?_
  refine fI (fun T H => ∃ t4 : (List aM), ∃ t5 : Int, ∃ out6 : List aM, ∃ kR : (List aM), ∃ lo7 : Nat, Has T [(3, (.rp (.fn (.func by1_f) by1_a by1_c))), (4, (.lp lo1 0 0)), (5, (.lp lo2 0 0)), (6, (.lp lo3 0 0)), (13, (.fn (.func 74) [] [(.rp (eL aL kR))]))] ∧ aK ⟨H0, [], []⟩ H [(lo1, 1, [(eL aL t4)]), (lo2, 1, [(eI t5)]), (lo3, 1, [(.msl 3 lo7 0 (List.length out6))]), (lo7, 3, List.map aL out6)] ∧ tP by1 t4 t5 out6 kR = some r) ?_ ⟨[], 0, ([] : List aM), x5, lo4, .eq (by kernel_rfl), hO, h0⟩
  clear hO h0
  rintro T H ⟨t4, t5, out6, kR, lo7, hT, hO, h0⟩
  refine bH (l := [(3, (.rp (.fn (.func by1_f) by1_a by1_c))), (4, (.lp lo1 0 0)), (5, (.lp lo2 0 0)), (6, (.lp lo3 0 0)), (13, (.fn (.func 74) [] [(.rp (eL aL kR))]))]) hT ?_
  clear hT
  unfold tP at h0
  obtain ⟨o0, hl0, h0⟩ := aV h0
  refine wK (fid := 74) (ys := []) (cs := [(.rp (eL aL kR))]) #[14, 15] (fun (A : qX) (b lL : Nat) (st : ((List aM) × Int × List aM) ⊕ ((List aM) × Int × List aM)) (G' : Gs) => Sum.elim (fun (s : (List aM) × Int × List aM) => ∃ lo7 : Nat, G' = (lL, .raw (fM b A .ready none)) :: (up [(lo1, 1, [(eL aL s.1)]), (lo2, 1, [(eI s.2.1)]), (lo3, 1, [(.msl 3 lo7 0 (List.length s.2.2))]), (lo7, 3, List.map aL s.2.2)] ++ [])) (fun (s : (List aM) × Int × List aM) => ∃ lo7 : Nat, G' = (lL, .raw (fM b A .done (some .ret))) :: (up [(lo1, 1, [(eL aL s.1)]), (lo2, 1, [(eI s.2.1)]), (lo3, 1, [(.msl 3 lo7 0 (List.length s.2.2))]), (lo7, 3, List.map aL s.2.2)] ++ [])) st) (.inl (t4, t5, out6)) o0 (.tup []) (by kernel_rfl) (by kernel_rfl) (by kernel_rfl) hO (fun _ _ => ⟨lo7, rfl⟩) ?_ ?_
  · intro b lL
    clear hO h0
    refine vE _ b (fun st t14 t15 => rnd (fun (s : (List aM) × Int × List aM) => mO by1 kR s.1 s.2.1 s.2.2 t14 t15) st) ?_ kR _ _ hl0
    intro st t14 t15 out1 rr hr
    obtain ⟨s, rfl, h1, rfl⟩ := GM hr
    clear hr
    intro Hr Gr hi hg
    obtain ⟨t4, t5, out6⟩ := s
    dsimp only [Sum.elim_inl] at hi
    obtain ⟨lo7, rfl⟩ := hi
    replace h1 : mO by1 kR t4 t5 out6 t14 t15 = some out1 := h1
    unfold mO at h1
    obtain ⟨E1, hE, hO⟩ := pL hg
    refine pM (uV (hO.gm 0 _ rfl).2 (by kernel_rfl) (by kernel_rfl) ?_)
    refine fH [(3, (.rp (.fn (.func by1_f) by1_a by1_c))), (4, (.lp lo1 0 0)), (5, (.lp lo2 0 0)), (6, (.lp lo3 0 0)), (13, (.fn (.func 74) [] [(.rp (eL aL kR))])), (14, (eL aI t14)), (15, (eL aF t15))] ?_
    refine aW aD 1 [13, 14] [(7, (eL aI t14))] ?_
    refine aU aD 1 ?_
    refine bA ?_
    refine eX [(3, (.rp (.fn (.func by1_f) by1_a by1_c))), (4, (.lp lo1 0 0)), (5, (.lp lo2 0 0)), (6, (.lp lo3 0 0)), (7, (eL aI t14)), (8, (eL aF t15))] ?_
    refine aG (⟨rfl, rfl, (hO.gm 0 _ rfl).2, ?_⟩)
    intro o1 ho1
    replace hO := hO.mW o1
    refine cB 1 ?_
    refine aN ?_
    refine aU aD 8 ?_
    refine bK 2 ?_
    obtain ⟨x8, hx9, h1⟩ := aV h1
    refine dU (by1_h t15 _ hx9) hO ?_
    intro H hO
    refine bA ?_
    refine bT [3, 8] [(9, (eL aF x8.1)), (10, (eI x8.2))] ?_
    refine aN ?_
    refine aW aD 2 [] [(23, (aC (!decide (x8.2 = (0 : Int)))))] ?_
    refine bO h1 (fun h1 => ?_) (fun h1 => ?_)
    · refine aN ?_
      refine aU aD 3 ?_
      refine bK 1 ?_
      refine fS 0 lo1 1 0 (eL aL t4) (.sl true 0 (fun _ => .bad)) [(eL aL t4)] [(lo1, 1, [(.sl true 0 (fun _ => .bad))]), (lo2, 1, [(eI t5)]), (lo3, 1, [(.msl 3 lo7 0 (List.length out6))]), (lo7, 3, List.map aL out6)] hO rfl (by kernel_rfl) ?_
      intro H hO
      refine fS 1 lo2 1 0 (eI t5) (eI x8.2) [(eI t5)] [(lo1, 1, [(.sl true 0 (fun _ => .bad))]), (lo2, 1, [(eI x8.2)]), (lo3, 1, [(.msl 3 lo7 0 (List.length out6))]), (lo7, 3, List.map aL out6)] hO rfl (by kernel_rfl) ?_
      intro H hO
      refine dJ ?_
      refine pH 0 lo1 1 (.sl true 0 (fun _ => .bad)) (eL aL ([])) [(lo1, 1, [(eL aL ([]))]), (lo2, 1, [(eI x8.2)]), (lo3, 1, [(.msl 3 lo7 0 (List.length out6))]), (lo7, 3, List.map aL out6)] hO (by kernel_rfl) (by kernel_rfl) kP (by kernel_rfl) ?_
      intro H hO
      refine bB [(4, (.lp lo1 0 0)), (5, (.lp lo2 0 0)), (6, (.lp lo3 0 0))] ?_
      refine bI ?_
      refine eX [(4, (.lp lo1 0 0)), (5, (.lp lo2 0 0)), (6, (.lp lo3 0 0))] ?_
      obtain rfl := oI h1
      exact aG (aT (bF (⟨(dD hO hE ho1 .dead).1, rfl, _, ⟨lo7, rfl⟩, (dD hO hE ho1 _).2⟩)))
    refine bQ ?_
    refine bB [(4, (.lp lo1 0 0)), (5, (.lp lo2 0 0)), (6, (.lp lo3 0 0)), (7, (eL aI t14)), (9, (eL aF x8.1))] ?_
    refine aN ?_
    refine aU aD 5 ?_
    refine lS 2 lo3 1 0 (.msl 3 lo7 0 (List.length out6)) (.msl 3 lo7 0 (List.length out6)) [(.msl 3 lo7 0 (List.length out6))] hO rfl ?_
    refine bK 3 ?_
    obtain ⟨x12, hx13, h1⟩ := aV h1
    refine aBy (L' := fun lo14 => [(lo1, 1, [(eL aL t4)]), (lo2, 1, [(eI t5)]), (lo3, 1, [(.msl 3 lo7 0 (List.length out6))]), (lo14, 3, List.map aL x12)]) 3 lo7 3 (List.map aL out6) (List.map aL x12) 91 [(.msl 3 lo7 0 (List.length out6)), (eL aI t14), (eL aF x8.1)] (fun lo14 => (.msl 3 lo14 0 (List.length x12))) (by kernel_rfl) (by kernel_rfl) (UJ lo7 out6 t14 x8.1 _ hx13) hO (by kernel_rfl) (fun _ => by kernel_rfl) ?_
    intro lo14 H hO
    refine fS 2 lo3 1 0 (.msl 3 lo7 0 (List.length out6)) (.msl 3 lo14 0 (List.length x12)) [(.msl 3 lo7 0 (List.length out6))] [(lo1, 1, [(eL aL t4)]), (lo2, 1, [(eI t5)]), (lo3, 1, [(.msl 3 lo14 0 (List.length x12))]), (lo14, 3, List.map aL x12)] hO rfl (by kernel_rfl) ?_
    intro H hO
    refine dJ ?_
    refine bT [7, 9] [] ?_
    refine aN ?_
    refine aU aD 3 ?_
    refine lS 2 lo3 1 0 (.msl 3 lo14 0 (List.length x12)) (.msl 3 lo14 0 (List.length x12)) [(.msl 3 lo14 0 (List.length x12))] hO rfl ?_
    refine bA ?_
    refine bT [] [(31, (aC (decide ((4096 : Int) < (lN x12)))))] ?_
    refine bO h1 (fun h1 => ?_) (fun h1 => ?_)
    · refine aN ?_
      refine aU aD 2 ?_
      refine fS 0 lo1 1 0 (eL aL t4) (.sl true 0 (fun _ => .bad)) [(eL aL t4)] [(lo1, 1, [(.sl true 0 (fun _ => .bad))]), (lo2, 1, [(eI t5)]), (lo3, 1, [(.msl 3 lo14 0 (List.length x12))]), (lo14, 3, List.map aL x12)] hO rfl (by kernel_rfl) ?_
      intro H hO
      refine fS 1 lo2 1 0 (eI t5) (eI (7 : Int)) [(eI t5)] [(lo1, 1, [(.sl true 0 (fun _ => .bad))]), (lo2, 1, [(eI (7 : Int))]), (lo3, 1, [(.msl 3 lo14 0 (List.length x12))]), (lo14, 3, List.map aL x12)] hO rfl (by kernel_rfl) ?_
      intro H hO
      refine dJ ?_
      refine pH 0 lo1 1 (.sl true 0 (fun _ => .bad)) (eL aL ([])) [(lo1, 1, [(eL aL ([]))]), (lo2, 1, [(eI (7 : Int))]), (lo3, 1, [(.msl 3 lo14 0 (List.length x12))]), (lo14, 3, List.map aL x12)] hO (by kernel_rfl) (by kernel_rfl) kP (by kernel_rfl) ?_
      intro H hO
      refine bB [(4, (.lp lo1 0 0)), (5, (.lp lo2 0 0)), (6, (.lp lo3 0 0))] ?_
      refine bI ?_
      refine eX [(4, (.lp lo1 0 0)), (5, (.lp lo2 0 0)), (6, (.lp lo3 0 0))] ?_
      obtain rfl := oI h1
      exact aG (bF (⟨(dD hO hE ho1 .dead).1, rfl, _, ⟨lo14, rfl⟩, (dD hO hE ho1 _).2⟩))
    refine bQ ?_
    refine eX [(4, (.lp lo1 0 0)), (5, (.lp lo2 0 0)), (6, (.lp lo3 0 0))] ?_
    obtain rfl := oI h1
    exact aG (aY (⟨(dD hO hE ho1 .dead).1, rfl, _, ⟨lo14, rfl⟩, (dD hO hE ho1 _).2⟩))
  · intro b lD16 lL H' G' hi hO
    rcases o0 with s | s
    · dsimp only [Sum.elim_inl] at hi
      obtain ⟨lo7, rfl⟩ := hi
      replace h0 : (some (s.2.2, (0 : Int))) = some r := h0
      obtain ⟨hlL, hO⟩ := lI hO
      refine ⟨_, _, hlL, (by intro e; cases e), ?_⟩
      refine eX [(4, (.lp lo1 0 0)), (5, (.lp lo2 0 0)), (6, (.lp lo3 0 0))] ?_
      refine aG (aY (aH (?_)))
      refine aN ?_
      refine HV (e := aL) s.2.2 2 3 1 3 lo3 lo7 (List.length s.2.2) [(lo1, 1, [(eL aL s.1)]), (lo2, 1, [(eI s.2.1)]), (lo3, 1, [(eL aL s.2.2)])] hO (by kernel_rfl) (by kernel_rfl) (by kernel_rfl) (.inr (by decide)) (by kernel_rfl) ?_
      intro H hO
      refine aU aD 3 ?_
      refine lS 2 lo3 1 0 (eL aL s.2.2) (eL aL s.2.2) [(eL aL s.2.2)] hO rfl ?_
      refine fS 0 lo1 1 0 (eL aL s.1) (eL aL s.2.2) [(eL aL s.1)] [(lo1, 1, [(eL aL s.2.2)]), (lo2, 1, [(eI s.2.1)]), (lo3, 1, [(eL aL s.2.2)])] hO rfl (by kernel_rfl) ?_
      intro H hO
      refine fS 1 lo2 1 0 (eI s.2.1) (eI (0 : Int)) [(eI s.2.1)] [(lo1, 1, [(eL aL s.2.2)]), (lo2, 1, [(eI (0 : Int))]), (lo3, 1, [(eL aL s.2.2)])] hO rfl (by kernel_rfl) ?_
      intro H hO
      refine dJ ?_
      replace hO := hO.pick (L' := [(lo1, 1, [(eL aL s.2.2)]), (lo2, 1, [(eI (0 : Int))])]) [0, 1] (by decide) (by kernel_rfl)
      refine bT [6] [] ?_
      refine bI ?_
      obtain rfl := oI h0
      have hD := (hO.gm 0 _ rfl).2
      replace hO := (hO.mW .dead).nS
      exact aG (QM1 (.inr rfl) hD (rs := [.cell 4 35, .cell 5 22]) (xs := [(eL aL s.2.2), (eI (0 : Int))]) (x := (.tup [(eL aL s.2.2), (eI (0 : Int))])) (by kernel_rfl) (fN (lo := lo1) (k := 1) (y := (eL aL s.2.2)) (x := (eL aL s.2.2)) 0 hO (by kernel_rfl) (by kernel_rfl) (by kernel_rfl) (by kernel_rfl) (fN (lo := lo2) (k := 1) (y := (eI (0 : Int))) (x := (eI (0 : Int))) 1 hO (by kernel_rfl) (by kernel_rfl) (by kernel_rfl) (by kernel_rfl) lO)) (by kernel_rfl) ⟨rfl, hO.out⟩)
    · dsimp only [Sum.elim_inr] at hi
      obtain ⟨lo7, rfl⟩ := hi
      replace h0 : (some (s.1, s.2.1)) = some r := h0
      obtain ⟨hlL, hO⟩ := lI hO
      refine ⟨_, _, hlL, (by intro e; cases e), ?_⟩
      refine bI ?_
      replace hO := hO.pick (L' := [(lo1, 1, [(eL aL s.1)]), (lo2, 1, [(eI s.2.1)])]) [0, 1] (by decide) (by kernel_rfl)
      obtain rfl := oI h0
      have hD := (hO.gm 0 _ rfl).2
      replace hO := (hO.mW .dead).nS
      exact aG (bF (aT (QM1 (.inr rfl) hD (rs := [.cell 4 35, .cell 5 22]) (xs := [(eL aL s.1), (eI s.2.1)]) (x := (.tup [(eL aL s.1), (eI s.2.1)])) (by kernel_rfl) (fN (lo := lo1) (k := 1) (y := (eL aL s.1)) (x := (eL aL s.1)) 0 hO (by kernel_rfl) (by kernel_rfl) (by kernel_rfl) (by kernel_rfl) (fN (lo := lo2) (k := 1) (y := (eI s.2.1)) (x := (eI s.2.1)) 1 hO (by kernel_rfl) (by kernel_rfl) (by kernel_rfl) (by kernel_rfl) lO)) (by kernel_rfl) ⟨rfl, hO.out⟩)))

theorem UT (l0 : (List aM)) (by1_f : Nat) (by1_a by1_c : List V) (by1 : (List aB) → Option ((List aB) × Int)) (by1_h : ∀ a0 r, by1 a0 = some r → dG Try.prog by1_f (by1_a ++ [(eL aF a0)] ++ by1_c) (.tup [(eL aF r.1), (eI r.2)])) (r : ((List aM) × Int)) (h0 : vF l0 by1 = some r) : dG Try.prog 43 [(eL aL l0), (.fn (.func by1_f) by1_a by1_c)] (.tup [(eL aL r.1), (eI r.2)]) := by
  intro H0
  refine dF Try.func43 ?_
  have hO := aK.start H0
  unfold vF at h0
  refine aW aD 2 [] [] ?_
  refine aN ?_
  refine aN ?_
  refine aU aD 3 ?_
  refine bK 1 ?_
  obtain ⟨x1, hx2, h0⟩ := aV h0
  refine dU (BU l0 _ hx2) hO ?_
  intro H hO
  refine bA ?_
  refine bT [] [(8, (aC (!x1)))] ?_
  refine bO h0 (fun h0 => ?_) (fun h0 => ?_)
  · refine cH aD 2 [(4, (.sl true 0 (fun _ => .bad))), (5, (eI (2 : Int)))] ?_
    refine bI ?_
    refine eB (l := [(4, (eL aL ([]))), (5, (eI (2 : Int)))]) ⟨[(4, (.sl true 0 (fun _ => .bad))), (5, (eI (2 : Int)))], by kernel_rfl, rfl, ⟨kP, aO.refl _, trivial⟩⟩ ?_
    obtain rfl := oI h0
    exact aG (aT (Q_r hO))
  refine bQ ?_
  refine bB [(0, (eL aL l0)), (1, (.fn (.func by1_f) by1_a by1_c))] ?_
  refine aN ?_
  refine aU aD 7 ?_
  refine bK 2 ?_
  obtain ⟨x5, hx6, h0⟩ := aV h0
  refine dU (ND l0 by1_f by1_a by1_c by1 by1_h _ hx6) hO ?_
  intro H hO
  refine bA ?_
  refine bB [(4, (eL aL x5.1)), (5, (eI x5.2))] ?_
  refine bI ?_
  obtain rfl := oI h0
  exact aG (Q_r hO)

theorem uU (s0 : (List aB)) (r : (List aB)) (h0 : hU s0 = some r) : xA Try.prog 69 [(eL aF s0)] (fun lo => (.msl 2 lo 0 (List.length r))) 2 (List.map aF r) := by
  intro H0
  refine dF Try.func69 ?_
  have hO := aK.start H0
  unfold hU at h0
  refine aW aD 1 [] [] ?_
  refine aN ?_
  refine aN ?_
  refine aU aD 2 ?_
  refine bK 1 ?_
  refine aCG false (List.length s0) (fun i => aF (List.getD s0 i default)) (by kernel_rfl) (by kernel_rfl) ?_
  intro b1 hn2
  refine dJ ?_
  refine bT [] [(4, (aC b1))] ?_
  refine mA (b1) (fun hc3 => ?_) (fun hc3 => ?_)
  · replace h0 : some ([] : List aB) = some r := by
      have hl := List.eq_nil_of_length_eq_zero (hn2 hc3)
      rw [hl] at h0
      exact (aZ h0).2
    refine cH aD 1 [(2, (.sl true 0 (fun _ => .bad)))] ?_
    refine bI ?_
    refine eX [(2, (.sl true 0 (fun _ => .bad)))] ?_
    refine aCl (el := (fun _ => .bad)) 0 2 2 hO (by kernel_rfl) ?_
    intro lo4 H5 hO
    obtain rfl := oI h0
    exact aG (aT (kY (x := (.msl 2 lo4 0 (List.length ([] : List aB)))) (by kernel_rfl) (aO.refl _) ⟨lo4, rfl, hO⟩))
  · refine bQ ?_
    refine bB [(0, (eL aF s0))] ?_
    refine aN ?_
    refine aU aD 4 ?_
    refine qN (xs := []) (k := 2) (by kernel_rfl) (by kernel_rfl) ?_
    refine bK 2 ?_
    obtain ⟨c7, h0⟩ := aZ h0
    refine aBU (e := aF) s0 (fun _ => .bad) 2 16 (eL aF s0) (fun lo6 => [(lo6, 2, List.map aF s0)]) (by kernel_rfl) (by kernel_rfl) hO (TB (fun _ => by kernel_rfl)) c7 (fun _ => by kernel_rfl) ?_
    intro lo6 H hO
    refine bA ?_
    refine bB [(2, (.msl 2 lo6 0 (List.length s0)))] ?_
    refine bI ?_
    obtain rfl := oI h0
    exact aG (kY (x := (.msl 2 lo6 0 (List.length s0))) (by kernel_rfl) (aO.refl _) ⟨lo6, rfl, hO⟩)

theorem SG (f0 : (List aB)) (r : ((List aB) × Int)) (h0 : rS f0 = some r) : dG Try.prog 70 [(eL aF f0)] (.tup [(eL aF r.1), (eI r.2)]) := by
  intro H0
  refine dF Try.func70 ?_
  have hO := aK.start H0
  unfold rS at h0
  refine aW aD 2 [] [] ?_
  refine aN ?_
  refine aN ?_
  refine aU aD 3 ?_
  refine bK 1 ?_
  obtain ⟨x1, hx2, h0⟩ := aV h0
  refine dU (tQ f0 _ hx2) hO ?_
  intro H hO
  refine bA ?_
  refine bT [] [(6, (aC (!x1)))] ?_
  refine bO h0 (fun h0 => ?_) (fun h0 => ?_)
  · refine cH aD 2 [(2, (.sl true 0 (fun _ => .bad))), (3, (eI (7 : Int)))] ?_
    refine bI ?_
    refine eB (l := [(2, (eL aF ([]))), (3, (eI (7 : Int)))]) ⟨[(2, (.sl true 0 (fun _ => .bad))), (3, (eI (7 : Int)))], by kernel_rfl, rfl, ⟨kP, aO.refl _, trivial⟩⟩ ?_
    obtain rfl := oI h0
    exact aG (aT (Q_r hO))
  refine bQ ?_
  refine bB [(0, (eL aF f0))] ?_
  refine cH aD 3 [(2, (eL aF f0)), (3, (eI (0 : Int)))] ?_
  refine bI ?_
  obtain rfl := oI h0
  exact aG (Q_r hO)

theorem QC (f0 : (List aB)) (t1 : Int) (r : ((List aB) × Int)) (h0 : sF f0 t1 = some r) : dG Try.prog 45 [(eL aF f0), (eI t1)] (.tup [(eL aF r.1), (eI r.2)]) := by
  intro H0
  refine dF Try.func45 ?_
  have hO := aK.start H0
  unfold sF at h0
  refine aW aD 2 [] [] ?_
  refine aN ?_
  refine aN ?_
  refine aU aD 3 ?_
  refine bK 1 ?_
  obtain ⟨x1, hx2, h0⟩ := aV h0
  refine dU (tQ f0 _ hx2) hO ?_
  intro H hO
  refine bA ?_
  refine bT [] [(12, (aC (!x1)))] ?_
  refine bO h0 (fun h0 => ?_) (fun h0 => ?_)
  · refine cH aD 2 [(4, (.sl true 0 (fun _ => .bad))), (5, (eI (2 : Int)))] ?_
    refine bI ?_
    refine eB (l := [(4, (eL aF ([]))), (5, (eI (2 : Int)))]) ⟨[(4, (.sl true 0 (fun _ => .bad))), (5, (eI (2 : Int)))], by kernel_rfl, rfl, ⟨kP, aO.refl _, trivial⟩⟩ ?_
    obtain rfl := oI h0
    exact aG (aT (Q_r hO))
  refine bQ ?_
  refine bB [(0, (eL aF f0)), (1, (eI t1))] ?_
  refine aN ?_
  refine aW aD 2 [] [(14, (aC (decide ((1125899906842624 : Int) ≤ t1))))] ?_
  refine bO h0 (fun h0 => ?_) (fun h0 => ?_)
  · refine aN ?_
    refine aU aD 4 ?_
    refine bK 1 ?_
    obtain ⟨x6, hx7, h0⟩ := aV h0
    refine aBE (L' := fun lo8 => [(lo8, 2, List.map aF x6)]) 2 (List.map aF x6) 69 [(eL aF f0)] (fun lo8 => (.msl 2 lo8 0 (List.length x6))) (by kernel_rfl) (by kernel_rfl) (uU f0 _ hx7) hO (fun _ => by kernel_rfl) ?_
    intro lo8 H hO
    refine bA ?_
    refine bB [(4, (.msl 2 lo8 0 (List.length x6))), (5, (eI (0 : Int)))] ?_
    refine bI ?_
    refine eX [(4, (.msl 2 lo8 0 (List.length x6))), (5, (eI (0 : Int)))] ?_
    refine AD (en := aF) x6 0 0 4 2 lo8 (List.length x6) hO (by kernel_rfl) (by kernel_rfl) (by kernel_rfl) (L' := []) (by kernel_rfl) ?_
    intro H9 hO
    obtain rfl := oI h0
    exact aG (aT (Q_r hO))
  refine bQ ?_
  refine bB [(0, (eL aF f0)), (1, (eI t1))] ?_
  refine aN ?_
  refine aU aD 3 ?_
  refine qN (xs := []) (k := 2) (by kernel_rfl) (by kernel_rfl) ?_
  refine bA ?_
  refine bT [] [(6, (.sl true 0 (fun _ => .bad))), (7, (eI (0 : Int)))] ?_
  refine gX (fun T H => ∃ out6 : List aB, ∃ v7 : Int, ∃ lo10 : Nat, Has T [(1, (eI t1)), (6, (.msl 2 lo10 0 (List.length out6))), (7, (eI v7))] ∧ aK ⟨H0, [], []⟩ H [(lo10, 2, List.map aF out6)] ∧ oQ t1 out6 v7 = some r) ?_ ?_
  · clear hO h0
    rintro T H ⟨out6, v7, lo10, hT, hO, h0⟩
    refine bH hT ?_
    clear hT
    unfold oQ at h0
    refine gX (fun T H => ∃ out6 : List aB, ∃ lo11 : Nat, Has T [(6, (.msl 2 lo11 0 (List.length out6)))] ∧ aK ⟨H0, [], []⟩ H [(lo11, 2, List.map aF out6)] ∧ rM out6 = some r) ?_ ?_
    · clear hO h0
      rintro T H ⟨out6, lo11, hT, hO, h0⟩
      refine bH hT ?_
      clear hT
      unfold rM at h0
      refine aN ?_
      refine aU aD 6 ?_
      refine LH (e := aF) out6 0 6 2 lo11 (List.length out6) [] (by kernel_rfl) hO (by kernel_rfl) (by kernel_rfl) (by kernel_rfl) (by kernel_rfl) ?_
      intro H hO
      refine bK 1 ?_
      obtain ⟨x12, hx13, h0⟩ := aV h0
      refine dU (SG out6 _ hx13) hO ?_
      intro H hO
      refine bA ?_
      refine bB [(4, (eL aF x12.1)), (5, (eI x12.2))] ?_
      refine bI ?_
      obtain rfl := oI h0
      exact aG (Q_r hO)
    refine aW aD 2 [] [(38, (aC (!decide (v7 = (0 : Int)))))] ?_
    refine bO h0 (fun h0 => ?_) (fun h0 => ?_)
    · refine aU aD 8 ?_
      refine bK 5 ?_
      refine qN (xs := [(aF (aB.mk t1 (wR (0 - v7))))]) (k := 2) (by kernel_rfl) (by kernel_rfl) ?_
      obtain ⟨c17, h0⟩ := aZ h0
      refine wY (e := aF) out6 ([aB.mk t1 (wR (0 - v7))]) 0 lo10 2 16 (gI [(aF (aB.mk t1 (wR (0 - v7))))]) (fun lo16 => [(lo16, 2, List.map aF (out6 ++ ([aB.mk t1 (wR (0 - v7))])))]) (by kernel_rfl) (by kernel_rfl) hO (by kernel_rfl) (by kernel_rfl) c17 (fun _ => by kernel_rfl) ?_
      intro lo16 H hO
      refine bA ?_
      exact aG (aH (⟨rfl, _, _, .eq (by kernel_rfl), hO, h0⟩))
    refine bQ ?_
    exact aG (aH (⟨rfl, _, _, .eq (by kernel_rfl), hO, h0⟩))
  refine aW aD 3 [0] [(18, (eL aF f0)), (19, (eI (lN f0))), (20, (eI (0 : Int)))] ?_
  refine cB 0 ?_
  refine fH [(1, (eI t1)), (6, (.sl true 0 (fun _ => .bad))), (7, (eI (0 : Int))), (18, (eL aF f0)), (19, (eI (lN f0))), (20, (eI (0 : Int)))] ?_
  refine QX (el := (fun _ => .bad)) 1 6 2 hO (by kernel_rfl) ?_
  intro lo26 H27 hO
  refine fI (fun T H => ∃ out6 : List aB, ∃ v7 : Int, ∃ t18 : (List aB), ∃ t19 : Int, ∃ t20 : Int, ∃ lo19 : Nat, Has T [(1, (eI t1)), (6, (.msl 2 lo19 0 (List.length out6))), (7, (eI v7)), (18, (eL aF t18)), (19, (eI t19)), (20, (eI t20))] ∧ aK ⟨H0, [], []⟩ H [(lo19, 2, List.map aF out6)] ∧ uR t1 out6 v7 t18 t19 t20 = some r) ?_ ⟨([] : List aB), (0 : Int), f0, (lN f0), (0 : Int), lo26, .eq (by kernel_rfl), hO, h0⟩
  clear hO h0
  rintro T H ⟨out6, v7, t18, t19, t20, lo19, hT, hO, h0⟩
  refine bH hT ?_
  clear hT
  unfold uR at h0
  obtain ⟨rr0, hl0, h0⟩ := aV h0
  refine dM (by kernel_rfl) (fun (s : List aB × Int × Int) T H => ∃ lo19 : Nat, Has T [(1, (eI t1)), (6, (.msl 2 lo19 0 (List.length s.1))), (7, (eI s.2.1)), (18, (eL aF t18)), (19, (eI t19)), (20, (eI s.2.2))] ∧ aK ⟨H0, [], []⟩ H [(lo19, 2, List.map aF s.1)]) hl0 ⟨lo19, .eq (by kernel_rfl), hO⟩ ?_
  clear hO
  rintro k0 s out1 T H ⟨lo19, hT, hO⟩ h1 ho0
  obtain ⟨out6, v7, t20⟩ := s
  replace h1 : kM t1 t18 t19 out6 v7 t20 = some out1 := h1
  try dsimp only at hT
  refine bH hT ?_
  clear hT
  unfold kM at h1
  refine aW aD 1 [] [(21, (aC (decide (t20 < t19))))] ?_
  refine aN ?_
  refine bO h1 (fun h1 => ?_) (fun h1 => ?_)
  · refine bQ ?_
    refine bB [(1, (eI t1)), (6, (.msl 2 lo19 0 (List.length out6))), (7, (eI v7)), (18, (eL aF t18)), (19, (eI t19)), (20, (eI t20))] ?_
    refine aN ?_
    refine cB 1 ?_
    refine aN ?_
    refine aU aD 4 ?_
    obtain ⟨c21, h1⟩ := aZ h1
    refine xX 2 [0 ≤ t20 ∧ t20 < (lN t18)] ⟨c21, trivial⟩ ?_
    refine jN 2 (aF (aB.mk 0 0)) (by kernel_rfl) (by kernel_rfl) hO ?_
    intro lo22 H hO
    refine fS 1 lo22 2 0 (aF (aB.mk 0 0)) (aF (gD t18 t20)) [(aF (aB.mk 0 0))] [(lo19, 2, List.map aF out6), (lo22, 2, [(aF (gD t18 t20))])] hO rfl (by kernel_rfl) ?_
    intro H hO
    refine dJ ?_
    refine bT [] [(9, (.lp lo22 0 0))] ?_
    refine aN ?_
    refine aN ?_
    refine aU aD 4 ?_
    refine bK 1 ?_
    refine lS 1 lo22 2 0 (aF (gD t18 t20)) (eI ((gD t18 t20).At)) [(aF (gD t18 t20))] hO rfl ?_
    refine bA ?_
    refine bT [] [(27, (aC (decide (t1 ≤ ((gD t18 t20).At)))))] ?_
    refine bO h1 (fun h1 => ?_) (fun h1 => ?_)
    · refine iJ 0 ?_
      replace hO := hO.pick (L' := [(lo19, 2, List.map aF out6)]) [0] (by decide) (by kernel_rfl)
      obtain rfl := oI h1
      obtain rfl : _ = rr0 := ho0
      replace h0 : oQ t1 out6 v7 = some r := h0
      exact aG (aX (pI (by kernel_rfl) (aX (aX (bX (aH (⟨rfl, _, _, _, .eq (by kernel_rfl), hO, h0⟩)))))))
    refine bQ ?_
    refine bB [(1, (eI t1)), (6, (.msl 2 lo19 0 (List.length out6))), (7, (eI v7)), (9, (.lp lo22 0 0)), (18, (eL aF t18)), (19, (eI t19)), (20, (eI t20))] ?_
    refine aN ?_
    refine aU aD 5 ?_
    refine bK 1 ?_
    refine lS 1 lo22 2 0 (aF (gD t18 t20)) (aF (gD t18 t20)) [(aF (gD t18 t20))] hO rfl ?_
    refine qN (xs := [(aF (gD t18 t20))]) (k := 2) (by kernel_rfl) (by kernel_rfl) ?_
    obtain ⟨c25, h1⟩ := aZ h1
    refine wY (e := aF) out6 ([gD t18 t20]) 0 lo19 2 16 (gI [(aF (gD t18 t20))]) (fun lo24 => [(lo24, 2, List.map aF (out6 ++ ([gD t18 t20]))), (lo22, 2, [(aF (gD t18 t20))])]) (by kernel_rfl) (by kernel_rfl) hO (by kernel_rfl) (by kernel_rfl) c25 (fun _ => by kernel_rfl) ?_
    intro lo24 H hO
    refine bA ?_
    refine bT [6] [(6, (.msl 2 lo24 0 (List.length (out6 ++ ([gD t18 t20])))))] ?_
    refine aU aD 5 ?_
    refine bK 2 ?_
    refine lS 1 lo22 2 0 (aF (gD t18 t20)) (eI ((gD t18 t20).Net)) [(aF (gD t18 t20))] hO rfl ?_
    refine bA ?_
    refine eX [(1, (eI t1)), (6, (.msl 2 lo24 0 (List.length (out6 ++ ([gD t18 t20]))))), (7, (eI (wR (v7 + ((gD t18 t20).Net))))), (18, (eL aF t18)), (19, (eI t19)), (20, (eI t20))] ?_
    replace hO := hO.pick (L' := [(lo24, 2, List.map aF (out6 ++ ([gD t18 t20])))]) [0] (by decide) (by kernel_rfl)
    refine aG (aY (aH (?_)))
    refine aU aD 2 ?_
    refine bA ?_
    exact aG (aH (⟨rfl, _, (oI h1).symm, _, .eq (by kernel_rfl), hO⟩))
  refine iJ 0 ?_
  obtain rfl := oI h1
  obtain rfl : _ = rr0 := ho0
  replace h0 : oQ t1 out6 v7 = some r := h0
  exact aG (aX (aX (bX (aH (⟨rfl, _, _, _, .eq (by kernel_rfl), hO, h0⟩)))))

theorem KJ (f0 : (List aB)) (t1 : Int) (r : ((List aB) × Int)) (h0 : oC f0 t1 = some r) : dG Try.prog 44 [(eL aF f0), (.rp (eI t1))] (.tup [(eL aF r.1), (eI r.2)]) := by
  intro H0
  refine dF Try.func44 ?_
  have hO := aK.start H0
  unfold oC at h0
  refine aW aD 2 [] [] ?_
  refine aN ?_
  refine aU aD 7 ?_
  refine bK 2 ?_
  obtain ⟨x1, hx2, h0⟩ := aV h0
  refine dU (QC f0 t1 _ hx2) hO ?_
  intro H hO
  refine bA ?_
  refine bB [(3, (eL aF x1.1)), (4, (eI x1.2))] ?_
  refine bI ?_
  obtain rfl := oI h0
  exact aG (Q_r hO)

theorem EE (l0 : (List aM)) (t1 : Int) (r : ((List aM) × Int)) (h0 : pZ l0 t1 = some r) : dG Try.prog 19 [(eL aL l0), (eI t1)] (.tup [(eL aL r.1), (eI r.2)]) := by
  intro H0
  refine dF Try.func19 ?_
  have hO := aK.start H0
  unfold pZ at h0
  refine aN ?_
  refine aU aD 3 ?_
  refine gK 1 (eI t1) (by kernel_rfl) (by kernel_rfl) ?_
  refine bA ?_
  refine bT [1] [(3, (.rp (eI t1)))] ?_
  refine aN ?_
  refine aU aD 7 ?_
  refine bK 2 ?_
  obtain ⟨x1, hx2, h0⟩ := aV h0
  refine dU (UT l0 44 [] [(.rp (eI t1))] (fun y0 => oC y0 t1) (fun y0 r h => KJ y0 t1 r h) _ hx2) hO ?_
  intro H hO
  refine bA ?_
  refine bB [(4, (eL aL x1.1)), (5, (eI x1.2))] ?_
  refine bI ?_
  obtain rfl := oI h0
  exact aG (Q_r hO)

theorem PI (a0 : (List aM)) (b1 : (List aM)) (r : Bool) (h0 : sU a0 b1 = some r) : dG Try.prog 20 [(eL aL a0), (eL aL b1)] (aC r) := by
  intro H0
  refine dF Try.func20 ?_
  have hO := aK.start H0
  unfold sU at h0
  refine aW aD 1 [] [] ?_
  refine aN ?_
  refine aW aD 5 [] [(10, (aC (!decide ((lN a0) = (lN b1)))))] ?_
  refine bO h0 (fun h0 => ?_) (fun h0 => ?_)
  · refine cH aD 1 [(4, (aC false))] ?_
    refine bI ?_
    obtain rfl := oI h0
    exact aG (aT (Q_r hO))
  refine bQ ?_
  refine bB [(0, (eL aL a0)), (1, (eL aL b1))] ?_
  refine gX (fun T H => Has T [] ∧ aK ⟨H0, [], []⟩ H [] ∧ rF  = some r) ?_ ?_
  · clear hO h0
    rintro T H ⟨hT, hO, h0⟩
    refine bH hT ?_
    clear hT
    unfold rF at h0
    refine cH aD 1 [(4, (aC true))] ?_
    refine bI ?_
    obtain rfl := oI h0
    exact aG (Q_r hO)
  refine aW aD 1 [] [(5, (eI (0 : Int)))] ?_
  refine cB 0 ?_
  refine fH [(0, (eL aL a0)), (1, (eL aL b1)), (5, (eI (0 : Int)))] ?_
  refine fI (fun T H => ∃ i5 : Int, Has T [(0, (eL aL a0)), (1, (eL aL b1)), (5, (eI i5))] ∧ aK ⟨H0, [], []⟩ H [] ∧ uO a0 b1 i5 = some r) ?_ ⟨(0 : Int), .eq (by kernel_rfl), hO, h0⟩
  clear hO h0
  rintro T H ⟨i5, hT, hO, h0⟩
  refine bH hT ?_
  clear hT
  unfold uO at h0
  obtain ⟨rr0, hl0, h0⟩ := aV h0
  refine dM (by kernel_rfl) (fun (s : Int) T H => Has T [(0, (eL aL a0)), (1, (eL aL b1)), (5, (eI s))] ∧ aK ⟨H0, [], []⟩ H []) hl0 ⟨.eq (by kernel_rfl), hO⟩ ?_
  clear hO
  rintro k0 s out1 T H ⟨hT, hO⟩ h1 ho0
  obtain ⟨i5, rfl⟩ : ∃ x, x = s := ⟨_, rfl⟩
  replace h1 : oR a0 b1 i5 = some out1 := h1
  refine bH hT ?_
  clear hT
  unfold oR at h1
  refine aN ?_
  refine aW aD 4 [] [(14, (aC (decide (i5 < (lN a0)))))] ?_
  refine bO h1 (fun h1 => ?_) (fun h1 => ?_)
  · refine bQ ?_
    refine bB [(0, (eL aL a0)), (1, (eL aL b1)), (5, (eI i5))] ?_
    refine aN ?_
    refine cB 1 ?_
    refine aN ?_
    obtain ⟨c3, h1⟩ := aZ h1
    obtain ⟨c4, h1⟩ := aZ h1
    obtain ⟨c5, h1⟩ := aZ h1
    obtain ⟨c6, h1⟩ := aZ h1
    obtain ⟨c7, h1⟩ := aZ h1
    obtain ⟨c8, h1⟩ := aZ h1
    obtain ⟨x9, hx10, h1⟩ := aV h1
    refine fX (gC [21, 26, 33, 38, 46, 51]) aD 38 ?_
    refine oK (K := fun T H => Has (lift T) [(0, (eL aL a0)), (1, (eL aL b1)), (5, (eI i5)), (54, (aC (((!decide (((gD a0 i5).At) = ((gD b1 i5).At))) || (!decide (((gD a0 i5).Net) = ((gD b1 i5).Net)))) || (!x9))))] ∧ aK ⟨H0, [], []⟩ H []) ?_ ?_
    · refine cD 12 [0 ≤ i5 ∧ i5 < (lN a0), 0 ≤ i5 ∧ i5 < (lN b1)] ⟨c3, c4, trivial⟩ ?_
      refine mP (t := 28) (e := !decide (((gD a0 i5).At) = ((gD b1 i5).At))) (by kernel_rfl) (fun hg11 => ?_) (fun hg11 => ?_)
      · refine jP ?_
        exact ⟨⟨[(0, (eL aL a0)), (1, (eL aL b1)), (5, (eI i5)), (54, (aC true))], by kernel_rfl, rfl, ⟨aO.refl _, aO.refl _, aO.refl _, aO.eq (congrArg aC (wQ (wQ hg11 rfl) rfl).symm), trivial⟩⟩, hO⟩
      refine cD 25 [0 ≤ i5 ∧ i5 < (lN a0), 0 ≤ i5 ∧ i5 < (lN b1)] ⟨(c5 (vI hg11)), (c6 (vI hg11)), trivial⟩ ?_
      refine mP (t := 41) (e := !decide (((gD a0 i5).Net) = ((gD b1 i5).Net))) (by kernel_rfl) (fun hg12 => ?_) (fun hg12 => ?_)
      · refine jP ?_
        exact ⟨⟨[(0, (eL aL a0)), (1, (eL aL b1)), (5, (eI i5)), (54, (aC true))], by kernel_rfl, rfl, ⟨aO.refl _, aO.refl _, aO.refl _, aO.eq (congrArg aC (wQ (wQ hg11 hg12) rfl).symm), trivial⟩⟩, hO⟩
      refine cD 35 [0 ≤ i5 ∧ i5 < (lN a0), 0 ≤ i5 ∧ i5 < (lN b1)] ⟨(c7 (vI (wQ hg11 hg12))), (c8 (vI (wQ hg11 hg12))), trivial⟩ ?_
      refine nD 46 [(eL aI ((gD a0 i5).Row)), (eL aI ((gD b1 i5).Row))] (aC x9) (by kernel_rfl) (by kernel_rfl) (ET ((gD a0 i5).Row) ((gD b1 i5).Row) _ (iW hx10 (vI (wQ hg11 hg12)))) hO ?_
      intro H hO
      refine jP ?_
      exact ⟨⟨[(0, (eL aL a0)), (1, (eL aL b1)), (5, (eI i5)), (54, (aC (!x9)))], by kernel_rfl, rfl, ⟨aO.refl _, aO.refl _, aO.refl _, aO.eq (congrArg aC (wQ (wQ hg11 hg12) rfl).symm), trivial⟩⟩, hO⟩
    · rintro T H ⟨hT, hO⟩
      refine eB hT ?_
      clear hT
      refine aG (aH ?_)
      refine bO h1 (fun h1 => ?_) (fun h1 => ?_)
      · refine cH aD 1 [(4, (aC false))] ?_
        refine bI ?_
        obtain rfl := oI h1
        obtain rfl : _ = rr0 := ho0
        replace h0 : some false = some r := h0
        obtain rfl := oI h0
        exact aG (bF (aT (aT (bF (aT (Q_r hO))))))
      refine bQ ?_
      refine eX [(0, (eL aL a0)), (1, (eL aL b1)), (5, (eI i5))] ?_
      refine aG (aY (aH (?_)))
      refine aU aD 3 ?_
      refine bA ?_
      exact aG (aH (⟨rfl, _, (oI h1).symm, .eq (by kernel_rfl), hO⟩))
  refine iJ 0 ?_
  obtain rfl := oI h1
  obtain rfl : _ = rr0 := ho0
  replace h0 : rF  = some r := h0
  exact aG (aX (aX (bX (aH (⟨rfl, .eq (by kernel_rfl), hO, h0⟩)))))

theorem BC (l0 : (List aS)) (t1 : Int) (r : (List aS)) (h0 : nY l0 t1 = some r) : dG Try.prog 21 [(eL aR l0), (eI t1)] (eL aR r) := by
  intro H0
  refine dF Try.func21 ?_
  have hO := aK.start H0
  unfold nY at h0
  refine aW aD 1 [] [] ?_
  refine aN ?_
  refine aU aD 2 ?_
  refine qN (xs := []) (k := 3) (by kernel_rfl) (by kernel_rfl) ?_
  refine bA ?_
  refine bT [] [(5, (.sl true 0 (fun _ => .bad)))] ?_
  refine gX (fun T H => ∃ out5 : List aS, ∃ lo1 : Nat, Has T [(5, (.msl 3 lo1 0 (List.length out5)))] ∧ aK ⟨H0, [], []⟩ H [(lo1, 3, List.map aR out5)] ∧ oW out5 = some r) ?_ ?_
  · clear hO h0
    rintro T H ⟨out5, lo1, hT, hO, h0⟩
    refine bH hT ?_
    clear hT
    unfold oW at h0
    refine cH aD 2 [(4, (.msl 3 lo1 0 (List.length out5)))] ?_
    refine bI ?_
    refine eX [(4, (.msl 3 lo1 0 (List.length out5)))] ?_
    refine AD (en := aR) out5 0 0 4 3 lo1 (List.length out5) hO (by kernel_rfl) (by kernel_rfl) (by kernel_rfl) (L' := []) (by kernel_rfl) ?_
    intro H2 hO
    obtain rfl := oI h0
    exact aG (Q_r hO)
  refine aW aD 1 [] [(6, (eI (0 : Int)))] ?_
  refine cB 0 ?_
  refine fH [(0, (eL aR l0)), (1, (eI t1)), (5, (.sl true 0 (fun _ => .bad))), (6, (eI (0 : Int)))] ?_
  refine QX (el := (fun _ => .bad)) 2 5 3 hO (by kernel_rfl) ?_
  intro lo12 H13 hO
  refine fI (fun T H => ∃ out5 : List aS, ∃ i6 : Int, ∃ lo4 : Nat, Has T [(0, (eL aR l0)), (1, (eI t1)), (5, (.msl 3 lo4 0 (List.length out5))), (6, (eI i6))] ∧ aK ⟨H0, [], []⟩ H [(lo4, 3, List.map aR out5)] ∧ sD l0 t1 out5 i6 = some r) ?_ ⟨([] : List aS), (0 : Int), lo12, .eq (by kernel_rfl), hO, h0⟩
  clear hO h0
  rintro T H ⟨out5, i6, lo4, hT, hO, h0⟩
  refine bH hT ?_
  clear hT
  unfold sD at h0
  obtain ⟨rr0, hl0, h0⟩ := aV h0
  refine dM (by kernel_rfl) (fun (s : List aS × Int) T H => ∃ lo4 : Nat, Has T [(0, (eL aR l0)), (1, (eI t1)), (5, (.msl 3 lo4 0 (List.length s.1))), (6, (eI s.2))] ∧ aK ⟨H0, [], []⟩ H [(lo4, 3, List.map aR s.1)]) hl0 ⟨lo4, .eq (by kernel_rfl), hO⟩ ?_
  clear hO
  rintro k0 s out1 T H ⟨lo4, hT, hO⟩ h1 ho0
  obtain ⟨out5, i6⟩ := s
  replace h1 : lX l0 t1 out5 i6 = some out1 := h1
  try dsimp only at hT
  refine bH hT ?_
  clear hT
  unfold lX at h1
  refine aN ?_
  refine aW aD 4 [] [(11, (aC (decide (i6 < (lN l0)))))] ?_
  refine bO h1 (fun h1 => ?_) (fun h1 => ?_)
  · refine bQ ?_
    refine bB [(0, (eL aR l0)), (1, (eI t1)), (5, (.msl 3 lo4 0 (List.length out5))), (6, (eI i6))] ?_
    refine gX (fun T H => ∃ out5 : List aS, ∃ lo6 : Nat, Has T [(0, (eL aR l0)), (1, (eI t1)), (5, (.msl 3 lo6 0 (List.length out5))), (6, (eI i6))] ∧ aK ⟨H0, [], []⟩ H [(lo6, 3, List.map aR out5)] ∧ nC l0 t1 out5 i6 = some out1) ?_ ?_
    · clear hO h1
      rintro T H ⟨out5, lo6, hT, hO, h1⟩
      refine bH hT ?_
      clear hT
      unfold nC at h1
      refine aU aD 3 ?_
      refine bA ?_
      exact aG (aH (⟨rfl, _, (oI h1).symm, _, .eq (by kernel_rfl), hO⟩))
    refine cB 1 ?_
    refine aN ?_
    refine aU aD 8 ?_
    obtain ⟨c7, h1⟩ := aZ h1
    refine sW [0 ≤ i6 ∧ i6 < (lN l0)] ⟨c7, trivial⟩ ?_
    refine bT [] [(21, (aC (decide ((((gD l0 i6).Span).To) ≤ t1))))] ?_
    refine bO h1 (fun h1 => ?_) (fun h1 => ?_)
    · refine aU aD 8 ?_
      obtain ⟨c9, h1⟩ := aZ h1
      refine xX 5 [0 ≤ i6 ∧ i6 < (lN l0)] ⟨c9, trivial⟩ ?_
      refine qN (xs := [(aR (gD l0 i6))]) (k := 3) (by kernel_rfl) (by kernel_rfl) ?_
      obtain ⟨c11, h1⟩ := aZ h1
      refine wY (e := aR) out5 ([gD l0 i6]) 0 lo4 3 40 (gI [(aR (gD l0 i6))]) (fun lo10 => [(lo10, 3, List.map aR (out5 ++ ([gD l0 i6])))]) (by kernel_rfl) (by kernel_rfl) hO (by kernel_rfl) (by kernel_rfl) c11 (fun _ => by kernel_rfl) ?_
      intro lo10 H hO
      refine bA ?_
      exact aG (aY (aH (⟨rfl, _, _, .eq (by kernel_rfl), hO, h1⟩)))
    refine bQ ?_
    exact aG (aY (aH (⟨rfl, _, _, .eq (by kernel_rfl), hO, h1⟩)))
  refine iJ 0 ?_
  obtain rfl := oI h1
  obtain rfl : _ = rr0 := ho0
  replace h0 : oW out5 = some r := h0
  exact aG (aX (aX (bX (aH (⟨rfl, _, _, .eq (by kernel_rfl), hO, h0⟩)))))

theorem DC (l0 : (List aM)) (m1 : (List aM)) (AB : Int) (AL : Int) (t4 : Int) (r : Bool) (h0 : oZ l0 m1 AB AL t4 = some r) : dG Try.prog 7 [(eL aL l0), (eL aL m1), (eI AB), (eI AL), (eI t4)] (aC r) := by
  intro H0
  refine dF Try.func7 ?_
  have hO := aK.start H0
  unfold oZ at h0
  refine aW aD 1 [] [] ?_
  refine aN ?_
  refine aU aD 8 ?_
  refine bK 2 ?_
  obtain ⟨x1, hx2, h0⟩ := aV h0
  refine dU (EE l0 t4 _ hx2) hO ?_
  intro H hO
  refine bA ?_
  refine bT [] [(11, (eL aL x1.1)), (12, (eI x1.2))] ?_
  refine aN ?_
  refine aU aD 8 ?_
  refine bK 2 ?_
  obtain ⟨x4, hx5, h0⟩ := aV h0
  refine dU (EE m1 t4 _ hx5) hO ?_
  intro H hO
  refine bA ?_
  refine bT [] [(13, (eL aL x4.1)), (14, (eI x4.2))] ?_
  refine aN ?_
  refine aN ?_
  refine aU aD 12 ?_
  refine bK 9 ?_
  obtain ⟨x7, hx8, h0⟩ := aV h0
  refine mB [(37, false)] 20 [(eL aL x1.1), (eL aL x4.1)] (aC x7) (!((!decide (x1.2 = (0 : Int))) || (!decide (x4.2 = (0 : Int))))) (by kernel_rfl) (by kernel_rfl) (by kernel_rfl) (fun hb9 => (PI x1.1 x4.1 _ (iW hx8 hb9))) hO ?_
  intro H hO
  refine bA ?_
  refine bT [11, 12, 13, 14] [(42, (aC (((!decide (x1.2 = (0 : Int))) || (!decide (x4.2 = (0 : Int)))) || (!x7))))] ?_
  refine bO h0 (fun h0 => ?_) (fun h0 => ?_)
  · refine aN ?_
    refine aU aD 2 ?_
    obtain ⟨x11, hx12, h0⟩ := aV h0
    refine dU (zS  _ hx12) hO ?_
    intro H hO
    refine bA ?_
    refine bB [(10, (aC x11))] ?_
    refine bI ?_
    obtain rfl := oI h0
    exact aG (aT (Q_r hO))
  refine bQ ?_
  refine bB [(0, (eL aL l0)), (1, (eL aL m1)), (2, (eI AB)), (3, (eI AL)), (4, (eI t4))] ?_
  refine aN ?_
  refine aU aD 10 ?_
  refine bK 4 ?_
  obtain ⟨x14, hx15, h0⟩ := aV h0
  refine dU (AP l0 AB AL (0 : Int) t4 _ hx15) hO ?_
  intro H hO
  refine bA ?_
  refine bT [0] [(15, (eL aR x14.1)), (16, (eI x14.2))] ?_
  refine aN ?_
  refine aU aD 10 ?_
  refine bK 4 ?_
  obtain ⟨x17, hx18, h0⟩ := aV h0
  refine dU (AP m1 AB AL (0 : Int) t4 _ hx18) hO ?_
  intro H hO
  refine bA ?_
  refine bT [1, 2, 3] [(17, (eL aR x17.1)), (18, (eI x17.2))] ?_
  refine aN ?_
  refine aW aD 6 [16, 18] [(65, (aC ((!decide (x14.2 = (0 : Int))) || (!decide (x17.2 = (0 : Int))))))] ?_
  refine bO h0 (fun h0 => ?_) (fun h0 => ?_)
  · refine aN ?_
    refine aU aD 2 ?_
    obtain ⟨x21, hx22, h0⟩ := aV h0
    refine dU (zS  _ hx22) hO ?_
    intro H hO
    refine bA ?_
    refine bB [(10, (aC x21))] ?_
    refine bI ?_
    obtain rfl := oI h0
    exact aG (aT (Q_r hO))
  refine bQ ?_
  refine bB [(4, (eI t4)), (15, (eL aR x14.1)), (17, (eL aR x17.1))] ?_
  refine aN ?_
  refine aU aD 11 ?_
  obtain ⟨x24, hx25, h0⟩ := aV h0
  refine dU (zS  _ hx25) hO ?_
  intro H hO
  refine bK 4 ?_
  obtain ⟨x27, hx28, h0⟩ := aV h0
  refine mB [(68, true)] 21 [(eL aR x14.1), (eI t4)] (eL aR x27) x24 (by kernel_rfl) (by kernel_rfl) (by kernel_rfl) (fun hb29 => (BC x14.1 t4 _ (iW hx28 hb29))) hO ?_
  intro H hO
  refine bK 7 ?_
  obtain ⟨x30, hx31, h0⟩ := aV h0
  refine mB [(68, true)] 21 [(eL aR x17.1), (eI t4)] (eL aR x30) x24 (by kernel_rfl) (by kernel_rfl) (by kernel_rfl) (fun hb32 => (BC x17.1 t4 _ (iW hx31 hb32))) hO ?_
  intro H hO
  obtain ⟨x33, hx34, h0⟩ := aV h0
  refine mB [(68, true)] 18 [(eL aR x27), (eL aR x30)] (aC x33) x24 (by kernel_rfl) (by kernel_rfl) (by kernel_rfl) (fun hb35 => (PW x27 x30 _ (iW hx34 hb35))) hO ?_
  intro H hO
  refine bA ?_
  refine bB [(10, (aC (x24 && x33)))] ?_
  refine bI ?_
  obtain rfl := oI h0
  exact aG (Q_r hO)

end Go.Abs
namespace Go.Abs
open Go Go.RowKit Go.Proofs
theorem CX {H : Type} {enc : TypeId × Value → H} {w : World} : vM enc Try.prog w 52 aI zE :=
  DU Try.underlying52 (by kernel_rfl) (rV (c' := FY) (ok' := zE) (fun (a : Int) (b : Int × ByteArray × Unit) => (aE.mk a b.1 b.2.1 : aE)) (by kernel_rfl) (AG Try.underlying50) (rV (c' := fun (b : Int × ByteArray × Unit) => (V.cells (cQ .i64 b.1) ++ (V.cells (wT b.2.1) ++ []))) (ok' := fun b => (vS b.1 ∧ ((fun s => s.size ≤ maxLen) b.2.1 ∧ True))) (fun a b => (a, b)) (by kernel_rfl) (AG Try.underlying3) (rV (c' := fun (b : ByteArray × Unit) => (V.cells (wT b.1) ++ [])) (ok' := fun b => ((fun s => s.size ≤ maxLen) b.1 ∧ True)) (fun a b => (a, b)) (by kernel_rfl) (RM Try.underlying9) (HX ()) (fun _ _ => rfl) (fun _ _ h1 h2 => ⟨h1, h2⟩)) (fun _ _ => rfl) (fun _ _ h1 h2 => ⟨h1, h2⟩)) (fun _ _ => rfl) (fun _ _ h1 h2 => ⟨h1, h2⟩))

theorem xY {H : Type} {enc : TypeId × Value → H} {w : World} : vM enc Try.prog w 56 aL pN :=
  DU Try.underlying56 (by kernel_rfl) (rV (c' := IK) (ok' := pN) (fun (a : (List aE)) (b : Int × Int × Unit) => (aM.mk a b.1 b.2.1 : aM)) (by kernel_rfl) (SP Try.underlying54 (by decide +kernel) (fun _ => by kernel_rfl) (fun _ => rfl) CX (by kernel_rfl)) (rV (c' := fun (b : Int × Int × Unit) => (V.cells (cQ .i64 b.1) ++ (V.cells (cQ .i64 b.2.1) ++ []))) (ok' := fun b => (vS b.1 ∧ (vS b.2.1 ∧ True))) (fun a b => (a, b)) (by kernel_rfl) (AG Try.underlying3) (rV (c' := fun (b : Int × Unit) => (V.cells (cQ .i64 b.1) ++ [])) (ok' := fun b => (vS b.1 ∧ True)) (fun a b => (a, b)) (by kernel_rfl) (AG Try.underlying3) (HX ()) (fun _ _ => rfl) (fun _ _ h1 h2 => ⟨h1, h2⟩)) (fun _ _ => rfl) (fun _ _ h1 h2 => ⟨h1, h2⟩)) (fun _ _ => rfl) (fun _ _ h1 h2 => ⟨h1, h2⟩))

end Go.Abs
namespace Go.Abs
open Go
theorem eA {n : Int} (h1 : -9223372036854775808 ≤ n) (h2 : n ≤ 9223372036854775807) : IntKind.i64.wrap n = n := by
  simp only [IntKind.wrap, IntKind.bits, IntKind.signed]
  simp
  split <;> omega

def nB {α st R : Type} (step : st → α → Option (st ⊕ R)) (fin : st → R) : st → List α → Option R
  | s, [] => some (fin s)
  | s, a :: r => match step s a with
    | some (.inl s') => nB step fin s' r
    | some (.inr x) => some x
    | none => none

theorem CI {α st R : Type} {step : st → α → Option (st ⊕ R)} {fin : st → R} {s s' : st} {a : α} {r : List α} (h : step s a = some (.inl s')) : nB step fin s (a :: r) = nB step fin s' r := by
  simp only [nB, h]

theorem CR {α st R : Type} {step : st → α → Option (st ⊕ R)} {fin : st → R} {s : st} {x : R} {a : α} {r : List α} (h : step s a = some (.inr x)) : nB step fin s (a :: r) = some x := by
  simp only [nB, h]

theorem TG {α S st R : Type} {body : S → Option (S ⊕ R)} {l : List α} (mk : st → Int → S) (step : st → α → Option (st ⊕ R)) (fin : st → R)
    (hn : ∀ (i : Nat) a s, l[i]? = some a → (∀ s', step s a = some (.inl s') → body (mk s i) = some (.inl (mk s' ((i + 1 : Nat) : Int)))) ∧ (∀ x, step s a = some (.inr x) → body (mk s i) = some (.inr x)))
    (he : ∀ s, body (mk s (l.length : Nat)) = some (.inr (fin s))) : ∀ (m k : Nat) (s : st) (r : R), l.length - k = m → k ≤ l.length → nB step fin s (l.drop k) = some r → lp body (mk s k) = some r
  | 0, k, s, r, hm, hk, h => by
    have : k = l.length := by omega
    subst this
    rw [List.drop_length] at h
    simp only [nB, Option.some.injEq] at h
    subst h
    exact cU (he s)
  | m + 1, k, s, r, hm, hk, h => by
    have hlt : k < l.length := by omega
    have hd : l.drop k = l[k] :: l.drop (k + 1) := List.drop_eq_getElem_cons hlt
    rw [hd] at h
    simp only [nB] at h
    obtain ⟨h1, h2⟩ := hn k l[k] s (List.getElem?_eq_getElem hlt)
    split at h
    · rename_i s' hs
      rw [gH (h1 s' hs)]
      exact TG mk step fin hn he m (k + 1) s' r (by omega) (by omega) h
    · rename_i x hs
      simp at h; subst h
      exact cU (h2 x hs)
    · cases h

theorem RG {α S st R : Type} {body : S → Option (S ⊕ R)} {l : List α} (mk : st → Int → S) (step : st → α → Option (st ⊕ R)) (fin : st → R)
    (hn : ∀ (i : Nat) a s, l[i]? = some a → (∀ s', step s a = some (.inl s') → body (mk s i) = some (.inl (mk s' ((i + 1 : Nat) : Int)))) ∧ (∀ x, step s a = some (.inr x) → body (mk s i) = some (.inr x)))
    (he : ∀ s, body (mk s (l.length : Nat)) = some (.inr (fin s))) {s : st} {r : R} (h : nB step fin s l = some r) : lp body (mk s 0) = some r :=
  TG mk step fin hn he _ 0 s r rfl (Nat.zero_le _) (by simpa using h)

theorem QK {α S st R : Type} {body : S → Option (S ⊕ R)} {l : List α} (mk : st → Int → S) (step : st → α → Option (st ⊕ R)) (fin : st → R) (Inv : Nat → st → Prop)
    (hn : ∀ (i : Nat) a s, Inv i s → l[i]? = some a → (∀ s', step s a = some (.inl s') → Inv (i + 1) s' ∧ body (mk s i) = some (.inl (mk s' ((i + 1 : Nat) : Int)))) ∧ (∀ x, step s a = some (.inr x) → body (mk s i) = some (.inr x)))
    (he : ∀ s, Inv l.length s → body (mk s (l.length : Nat)) = some (.inr (fin s))) : ∀ (m k : Nat) (s : st) (r : R), l.length - k = m → k ≤ l.length → Inv k s → nB step fin s (l.drop k) = some r → lp body (mk s k) = some r
  | 0, k, s, r, hm, hk, hi, h => by
    have : k = l.length := by omega
    subst this
    rw [List.drop_length] at h
    simp only [nB, Option.some.injEq] at h
    subst h
    exact cU (he s hi)
  | m + 1, k, s, r, hm, hk, hi, h => by
    have hlt : k < l.length := by omega
    have hd : l.drop k = l[k] :: l.drop (k + 1) := List.drop_eq_getElem_cons hlt
    rw [hd] at h
    simp only [nB] at h
    obtain ⟨h1, h2⟩ := hn k l[k] s hi (List.getElem?_eq_getElem hlt)
    split at h
    · rename_i s' hs
      obtain ⟨hi', hb⟩ := h1 s' hs
      rw [gH hb]
      exact QK mk step fin Inv hn he m (k + 1) s' r (by omega) (by omega) hi' h
    · rename_i x hs
      simp at h; subst h
      exact cU (h2 x hs)
    · cases h

theorem WW {α S st R : Type} {body : S → Option (S ⊕ R)} {l : List α} (mk : st → Int → S) (step : st → α → Option (st ⊕ R)) (fin : st → R) (Inv : Nat → st → Prop)
    (hn : ∀ (i : Nat) a s, Inv i s → l[i]? = some a → (∀ s', step s a = some (.inl s') → Inv (i + 1) s' ∧ body (mk s i) = some (.inl (mk s' ((i + 1 : Nat) : Int)))) ∧ (∀ x, step s a = some (.inr x) → body (mk s i) = some (.inr x)))
    (he : ∀ s, Inv l.length s → body (mk s (l.length : Nat)) = some (.inr (fin s))) {s : st} {r : R} (hi : Inv 0 s) (h : nB step fin s l = some r) : lp body (mk s 0) = some r :=
  QK mk step fin Inv hn he _ 0 s r rfl (Nat.zero_le _) hi (by simpa using h)

theorem idx {α : Type} [Inhabited α] {l : List α} {i : Nat} {a : α} (h : l[i]? = some a) (hl : l.length < 4611686018427387904) :
    decide ((i : Int) < ((l.length : Nat) : Int)) = true ∧ (0 ≤ (i : Int) ∧ (i : Int) < ((l.length : Nat) : Int)) ∧ l.getD (Int.toNat (i : Int)) default = a ∧ IntKind.i64.wrap ((i : Int) + 1) = ((i + 1 : Nat) : Int) := by
  have hlt : i < l.length := (List.getElem?_eq_some_iff.1 h).1
  refine ⟨by simpa using hlt, ⟨by omega, by omega⟩, ?_, ?_⟩
  · rw [Int.toNat_natCast, List.getD_eq_getElem?_getD, h]; rfl
  · rw [eA (by omega) (by omega)]; omega

theorem lC {n : Nat} : decide (((n : Nat) : Int) < ((n : Nat) : Int)) = false := by simp

theorem aCU {α : Type} {j : α} {r : List α} : (0 : Int) ≤ 0 ∧ (0 : Int) < ((List.length (j :: r) : Nat) : Int) := ⟨by omega, by simp⟩

theorem aB1 {α : Type} [Inhabited α] {j : α} {r : List α} : List.getD (j :: r) (Int.toNat (0 : Int)) default = j := rfl

end Go.Abs
namespace Go.Abs
open Go
theorem drop_cons {α : Type} {l r : List α} {a : α} {k : Nat} (h : l.drop k = a :: r) : l[k]? = some a ∧ l.drop (k + 1) = r := by
  have hk : k < l.length := by
    apply Classical.byContradiction; intro hn
    rw [List.drop_eq_nil_of_le (by omega)] at h; cases h
  rw [List.drop_eq_getElem_cons hk] at h
  obtain ⟨h1, h2⟩ := List.cons.inj h
  exact ⟨by rw [List.getElem?_eq_getElem hk, h1], h2⟩

theorem XX {α S st R : Type} {body : S → Option (S ⊕ R)} {l : List α} (mk : st → Int → S) (G : st → List α → R) (Inv : st → List α → Prop)
    (hn : ∀ (i : Nat) a r s, l[i]? = some a → Inv s (a :: r) → (∃ s', body (mk s i) = some (.inl (mk s' ((i + 1 : Nat) : Int))) ∧ Inv s' r ∧ G s' r = G s (a :: r)) ∨ body (mk s i) = some (.inr (G s (a :: r))))
    (he : ∀ s, Inv s [] → body (mk s (l.length : Nat)) = some (.inr (G s []))) : ∀ (r : List α) (k : Nat) (s : st), l.drop k = r → k ≤ l.length → Inv s r → lp body (mk s k) = some (G s r)
  | [], k, s, hd, hk, hi => by
    have : k = l.length := by
      have := congrArg List.length hd
      simp only [List.length_drop, List.length_nil] at this; omega
    subst this
    exact cU (he s hi)
  | a :: r, k, s, hd, hk, hi => by
    obtain ⟨h1, h2⟩ := drop_cons hd
    have hlt : k < l.length := (List.getElem?_eq_some_iff.1 h1).1
    rcases hn k a r s h1 hi with ⟨s', hb, hi', hg⟩ | hb
    · rw [gH hb, XX mk G Inv hn he r (k + 1) s' h2 (by omega) hi', hg]
    · exact cU hb

theorem yQ {α S st R : Type} {body : S → Option (S ⊕ R)} {l : List α} (mk : st → Int → S) (G : st → List α → R) (Inv : st → List α → Prop) (s : st)
    (hn : ∀ (i : Nat) a r s, l[i]? = some a → Inv s (a :: r) → (∃ s', body (mk s i) = some (.inl (mk s' ((i + 1 : Nat) : Int))) ∧ Inv s' r ∧ G s' r = G s (a :: r)) ∨ body (mk s i) = some (.inr (G s (a :: r))))
    (he : ∀ s, Inv s [] → body (mk s (l.length : Nat)) = some (.inr (G s []))) (hi : Inv s l) : lp body (mk s 0) = some (G s l) :=
  XX mk G Inv hn he l 0 s rfl (Nat.zero_le _) hi

theorem YC {α S R : Type} {body : S → Option (S ⊕ R)} {l : List α} (mk : Int → S) (bad : α → Bool) (x y : R)
    (hn : ∀ (i : Nat) a, l[i]? = some a → body (mk i) = some (if bad a then .inr x else .inl (mk ((i + 1 : Nat) : Int))))
    (he : body (mk (l.length : Nat)) = some (.inr y)) : lp body (mk 0) = some (if l.any bad then x else y) := by
  refine yQ (st := Unit) (fun _ i => mk i) (fun _ r => if r.any bad then x else y) (fun _ _ => True) () ?_ ?_ trivial
  · intro i a r s ha _
    have hb := hn i a ha
    cases h : bad a
    · left; refine ⟨(), ?_, trivial, ?_⟩
      · simpa [h] using hb
      · simp [List.any_cons, h]
    · right; simpa [h, List.any_cons] using hb
  · intro _ _; simpa using he

end Go.Abs
namespace Go.Abs
open Go
variable {α : Type} [Inhabited α]
structure Cmp {β : Type} (ok : β → Prop) (le : β → β → Prop) (cmp : β → β → Option Int) : Prop where
  ans : ∀ x y, ok x → ok y → ∃ v, cmp x y = some v ∧ (v < 0 ↔ ¬ le y x)
  trans : ∀ x y z, ok x → ok y → ok z → le x y → le y z → le x z
  total : ∀ x y, ok x → ok y → le x y ∨ le y x

abbrev Srt {β : Type} (le : β → β → Prop) (l : List β) : Prop := l.Pairwise le

abbrev Oks {β : Type} (ok : β → Prop) (l : List β) : Prop := ∀ x ∈ l, ok x

section ins
variable {ok : α → Prop} {le : α → α → Prop} {cmp : α → α → Option Int}
end ins
end Go.Abs
namespace Go.Abs
open Go
variable {α : Type} [Inhabited α]
section sym
variable {ok : α → Prop} {le : α → α → Prop} {cmp : α → α → Option Int}
theorem Cmp.refl {β : Type} {ok : β → Prop} {le : β → β → Prop} {cmp : β → β → Option Int} (C : Cmp ok le cmp) {x : β} (h : ok x) : le x x := by rcases C.total x x h h with h | h <;> exact h

end sym
end Go.Abs
namespace Go.Abs
open Go
variable {α : Type} [Inhabited α] {ok : α → Prop} {le : α → α → Prop} {cmp : α → α → Option Int}
inductive KS {β : Type} (le : β → β → Prop) (n : Nat) : List β → Prop
  | last {l : List β} : l.length ≤ n → Srt le l → KS le n l
  | cons {x l : List β} : x.length = n → Srt le x → KS le n l → KS le n (x ++ l)

theorem KS.split {β : Type} {le : β → β → Prop} {n : Nat} {l : List β} (h : KS le n l) (hl : n < l.length) : ∃ x r, l = x ++ r ∧ x.length = n ∧ Srt le x ∧ KS le n r := by
  cases h with
  | last h' _ => omega
  | cons hx hs hr => exact ⟨_, _, rfl, hx, hs, hr⟩

theorem Oks.perm {β : Type} {ok : β → Prop} {l l' : List β} (h : Oks ok l) (hp : l'.Perm l) : Oks ok l' := fun x hx => h x (hp.mem_iff.1 hx)

end Go.Abs
namespace Go.Abs
open Go
structure aCN where
  Row : (List aE)
  Span : bJ
  deriving Inhabited, DecidableEq

structure aCQ where
  Kind : Int
  Input : Int
  Edges : (List aM)
  At : Int
  deriving Inhabited, DecidableEq

structure aCO where
  row : (List aE)
  jumps : (List aB)
  deriving Inhabited, DecidableEq

structure aCz where
  Kind : Int
  Size : Int
  Hop : Int
  deriving Inhabited, DecidableEq

end Go.Abs
namespace Go.Abs
open Go
def NS (n : Int) : Bool := decide (n ≤ 1048576) && decide (-1048576 ≤ n)

theorem aBw (n : Int) : xH n = some (NS n) := rfl

def HL (last : Int) (j : aB) : Bool := decide (j.At ≤ last) || decide (1125899906842624 ≤ j.At) || decide (j.Net = 0) || !NS j.Net

def chk (last : Int) : List aB → Bool
  | [] => true
  | j :: r => !HL last j && chk j.At r

def eW (f : List aB) : Bool := decide (f.length ≤ 1024) && chk (-2) f

theorem RI {f : List aB} {i : Nat} {a : aB} {last : Int} (ha : f[i]? = some a) (hl : f.length < 4611686018427387904) :
    lU f (f.length : Nat) last i = some (if HL last a then .inr (.inr false) else .inl (a.At, ((i + 1 : Nat) : Int))) := by
  obtain ⟨d1, d2, d3, d4⟩ := idx ha hl
  simp only [lU, d1, cond_true, aP d2, d3, d4, aBw]
  unfold HL
  cases h : (decide (a.At ≤ last) || decide (1125899906842624 ≤ a.At) || decide (a.Net = 0)) <;> cases h2 : NS a.Net <;> simp [cW]

theorem OW : ∀ (f : List aB) (last : Int), nB (fun last (j : aB) => some (if HL last j then .inr (.inr false) else .inl j.At)) (fun _ => (.inl () : Unit ⊕ Bool)) last f = some (if chk last f then .inl () else .inr false)
  | [], last => by simp [nB, chk]
  | j :: r, last => by
    cases h : HL last j
    · rw [CI (s' := j.At) (by simp [h])]
      rw [OW r j.At]
      simp [chk, h]
    · rw [CR (x := .inr false) (by simp [h])]
      simp [chk, h]

theorem BO (f : List aB) : lV f = some (eW f) := by
  unfold lV eW
  by_cases hl : f.length ≤ 1024
  · have h1 : decide ((1024 : Int) < ((f.length : Nat) : Int)) = false := by simp; omega
    rw [h1, cond_false]
    unfold xE
    have key := RG (l := f) (body := fun s : Int × Int => lU f (f.length : Nat) s.1 s.2) (fun last i => (last, i)) _ _
      (fun i a s ha => by
        constructor
        · intro s' hs
          show lU f (f.length : Nat) s i = _
          rw [RI ha (by omega)]
          split at hs <;> simp_all
        · intro x hs
          show lU f (f.length : Nat) s i = _
          rw [RI ha (by omega)]
          split at hs <;> simp_all)
      (fun s => by show lU f (f.length : Nat) s (f.length : Nat) = _; simp only [lU, lC, cond_false]) (OW f (-2))
    rw [key]
    cases h : chk (-2) f <;> simp [uD, hl]
  · have h1 : decide ((1024 : Int) < ((f.length : Nat) : Int)) = true := by simp; omega
    rw [h1, cond_true]
    simp [hl]

theorem UA {last : Int} {j : aB} : HL last j = false ↔ last < j.At ∧ j.At < 1125899906842624 ∧ j.Net ≠ 0 ∧ j.Net ≤ 1048576 ∧ -1048576 ≤ j.Net := by
  simp [HL, NS]
  omega

def nH (last : Int) : List aB → Prop
  | [] => True
  | j :: r => (last < j.At ∧ j.At < 1125899906842624 ∧ j.Net ≠ 0 ∧ j.Net ≤ 1048576 ∧ -1048576 ≤ j.Net) ∧ nH j.At r

theorem TU : ∀ {f : List aB} {last : Int}, chk last f = true ↔ nH last f
  | [], last => by simp [chk, nH]
  | j :: r, last => by simp [chk, nH, UA, TU]

theorem lP {f : List aB} : eW f = true ↔ f.length ≤ 1024 ∧ nH (-2) f := by simp [eW, TU]

theorem nH.above : ∀ {f : List aB} {last : Int}, nH last f → ∀ j ∈ f, last < j.At ∧ j.At < 1125899906842624 ∧ j.Net ≠ 0 ∧ j.Net ≤ 1048576 ∧ -1048576 ≤ j.Net
  | [], _, _, j, hj => by simp at hj
  | a :: r, last, h, j, hj => by
    rcases List.mem_cons.1 hj with rfl | hj
    · exact h.1
    · have := h.2.above j hj
      have h1 := h.1.1
      exact ⟨by omega, this.2⟩

def val (f : List aB) (t : Int) : Int := (f.map fun j => if j.At ≤ t then j.Net else 0).sum

theorem FE (t : Int) : val [] t = 0 := rfl

theorem gJ (j : aB) (r : List aB) (t : Int) : val (j :: r) t = (if j.At ≤ t then j.Net else 0) + val r t := by simp [val]

theorem VQ (f g : List aB) (t : Int) : val (f ++ g) t = val f t + val g t := by simp [val]

theorem DS : ∀ {f : List aB} {b : Int} (t : Int), 0 ≤ b → (∀ j ∈ f, j.Net ≤ b ∧ -b ≤ j.Net) → val f t ≤ b * f.length ∧ -(b * f.length) ≤ val f t
  | [], b, t, _, _ => by simp [val]
  | j :: r, b, t, hb, h => by
    obtain ⟨h1, h2⟩ := DS t hb (fun k hk => h k (List.mem_cons_of_mem _ hk))
    have h3 := h j (List.mem_cons_self ..)
    rw [gJ]
    simp only [List.length_cons, Int.natCast_add, Int.natCast_one, Int.mul_add, Int.mul_one]
    split <;> omega

theorem qB {f : List aB} {t : Int} (h : ∀ j ∈ f, t < j.At) : val f t = 0 := by
  induction f with
  | nil => rfl
  | cons j r ih =>
    rw [gJ, ih (fun k hk => h k (List.mem_cons_of_mem _ hk))]
    have := h j (List.mem_cons_self ..)
    rw [if_neg (by omega)]; rfl

end Go.Abs
