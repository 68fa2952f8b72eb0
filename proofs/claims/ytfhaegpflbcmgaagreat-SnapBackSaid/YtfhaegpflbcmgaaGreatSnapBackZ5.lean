/- What the law SnapBack stands on: the framework, the given functions as plain functions, their walks, and the plain laws; part 5. -/
import Derived.Test.YtfhaegpflbcmgaaGreatSnapBackZ4
set_option linter.unusedSimpArgs false
set_option linter.unusedVariables false
namespace Go.Abs
open Go Go.RowKit Go.Proofs
theorem BT (lo0p : Nat) (aA : (List aB)) (a1 : Int) (m2 : Int) (b3 : Int) (cmp4_f : Nat) (cmp4_a cmp4_c : List V) (cmp4 : aB → aB → Option Int) (cmp4_h : ∀ a0 a1 r, cmp4 a0 a1 = some r → cO Tryz.prog cmp4_f (cmp4_a ++ [(aE a0), (aE a1)] ++ cmp4_c) (eI r)) (r : List aB) (h0 : qY aA a1 m2 b3 cmp4 = some r) : iG Tryz.prog 99 lo0p 2 (List.map aE aA) (List.map aE r) [(.msl 2 lo0p 0 (List.length aA)), (eI a1), (eI m2), (eI b3), (.fn (.func cmp4_f) cmp4_a cmp4_c)] (.tup []) := by
 intro H0 hl0
 refine cP Tryz.func99 ?_
 have hO := aK.nP hl0
 clear hl0
 obtain ⟨N0, hN0⟩ : ∃ n, n = List.length aA := ⟨_, rfl⟩
 have hN : List.length aA = N0 := hN0.symm
 unfold qY at h0
 refine aS aG 4 [1] [(10, (eI (wR (m2 - a1))))] ?_
 refine aS aG 4 [3] [(11, (eI (wR (b3 - m2))))] ?_
 refine dA (fun T H => ∃ aA : List aB, ∃ i10 : Int, Has T [(0, (.msl 2 lo0p 0 (List.length aA))), (2, (eI m2)), (4, (.fn (.func cmp4_f) cmp4_a cmp4_c)), (10, (eI i10))] ∧ aK ⟨H0, [lo0p], []⟩ H [(lo0p, 2, List.map aE aA)] ∧ List.length aA = N0 ∧ mD cmp4 aA m2 i10 = some r) ?_ ?_
 ·clear hO hN h0
  rintro T H ⟨aA, i10, hT, hO, hN, h0⟩
  refine aY hT ?_
  clear hT
  unfold mD at h0
  refine aT aG 8 ?_
  refine bI 7 ?_
  obtain ⟨x1, hx2, h0⟩ := aW h0
  refine nE [(lo0p, 2, List.map aE x1)] 0 (pR lo0p aA (wR (m2 - i10)) m2 i10 cmp4_f cmp4_a cmp4_c cmp4 cmp4_h _ hx2) hO ?_
  intro H hO hl3
  simp only [List.length_map] at hl3
  replace hN := hl3.trans hN
  refine dG ?_
  refine cA (l := [(0, (.msl 2 lo0p 0 (List.length x1)))]) ⟨[(0, (.msl 2 lo0p 0 (List.length aA)))], by kernel_rfl, rfl, ⟨aL.eq (by simp [hl3]), trivial⟩⟩ ?_
  obtain rfl := oI h0
  exact aH (rY (x := (.tup [])) (by kernel_rfl) (aL.refl _) ⟨rfl, hO.ext, hO.at 0 (by kernel_rfl), by simp only [List.length_map]; exact hN.trans hN0⟩)
 refine bN 0 ?_
 refine dK [(0, (.msl 2 lo0p 0 (List.length aA))), (2, (eI m2)), (4, (.fn (.func cmp4_f) cmp4_a cmp4_c)), (10, (eI (wR (m2 - a1)))), (11, (eI (wR (b3 - m2))))] ?_
 refine cQ (fun T H => ∃ aA : List aB, ∃ i10 : Int, ∃ j11 : Int, Has T [(0, (.msl 2 lo0p 0 (List.length aA))), (2, (eI m2)), (4, (.fn (.func cmp4_f) cmp4_a cmp4_c)), (10, (eI i10)), (11, (eI j11))] ∧ aK ⟨H0, [lo0p], []⟩ H [(lo0p, 2, List.map aE aA)] ∧ List.length aA = N0 ∧ qN cmp4 aA m2 i10 j11 = some r) ?_ ⟨aA, wR (m2 - a1), wR (b3 - m2), .eq (by kernel_rfl), hO, hN, h0⟩
 clear hO hN h0
 rintro T H ⟨aA, i10, j11, hT, hO, hN, h0⟩
 refine aY hT ?_
 clear hT
 unfold qN at h0
 obtain ⟨rr0, hl0, h0⟩ := aW h0
 refine cB (by kernel_rfl) (fun (s : List aB × Int × Int) T H => Has T [(0, (.msl 2 lo0p 0 (List.length s.1))), (2, (eI m2)), (4, (.fn (.func cmp4_f) cmp4_a cmp4_c)), (10, (eI s.2.1)), (11, (eI s.2.2))] ∧ aK ⟨H0, [lo0p], []⟩ H [(lo0p, 2, List.map aE s.1)] ∧ List.length s.1 = N0) hl0 ⟨.eq (by kernel_rfl), hO, hN⟩ ?_
 clear hO hN
 rintro k0 s out1 T H ⟨hT, hO, hN⟩ h1 ho0
 obtain ⟨aA, i10, j11⟩ := s
 replace h1 : qO cmp4 m2 aA i10 j11 = some out1 := h1
 try dsimp only at hT
 refine aY hT ?_
 clear hT
 unfold qO at h1
 refine aO ?_
 refine aS aG 3 [] [(20, (aJ (!decide (i10 = j11))))] ?_
 refine bE h1 (fun h1 => ?_) (fun h1 => ?_)
 ·refine bG ?_
  refine bD [(0, (.msl 2 lo0p 0 (List.length aA))), (2, (eI m2)), (4, (.fn (.func cmp4_f) cmp4_a cmp4_c)), (10, (eI i10)), (11, (eI j11))] ?_
  refine bN 1 ?_
  refine aS aG 3 [] [(23, (aJ (decide (j11 < i10))))] ?_
  refine bE h1 (fun h1 => ?_) (fun h1 => ?_)
  ·refine aO ?_
   refine aT aG 8 ?_
   refine bI 7 ?_
   obtain ⟨x6, hx7, h1⟩ := aW h1
   refine nE [(lo0p, 2, List.map aE x6)] 0 (pR lo0p aA (wR (m2 - i10)) m2 j11 cmp4_f cmp4_a cmp4_c cmp4 cmp4_h _ hx7) hO ?_
   intro H hO hl8
   simp only [List.length_map] at hl8
   replace hN := hl8.trans hN
   refine dG ?_
   refine cA (l := [(0, (.msl 2 lo0p 0 (List.length x6))), (2, (eI m2)), (4, (.fn (.func cmp4_f) cmp4_a cmp4_c)), (10, (eI i10)), (11, (eI j11))]) ⟨[(0, (.msl 2 lo0p 0 (List.length aA))), (2, (eI m2)), (4, (.fn (.func cmp4_f) cmp4_a cmp4_c)), (10, (eI i10)), (11, (eI j11))], by kernel_rfl, rfl, ⟨aL.eq (by simp [hl8]), aL.refl _, aL.refl _, aL.refl _, aL.refl _, trivial⟩⟩ ?_
   refine aH (aF (?_))
   refine aT aG 4 ?_
   refine bC ?_
   exact aH (aU (aF (⟨rfl, _, (oI h1).symm, .eq (by kernel_rfl), hO, hN⟩)))
  refine aO ?_
  refine aT aG 12 ?_
  refine bI 11 ?_
  obtain ⟨x9, hx10, h1⟩ := aW h1
  refine nE [(lo0p, 2, List.map aE x9)] 0 (pR lo0p aA (wR (m2 - i10)) (wR ((wR (m2 + j11)) - i10)) i10 cmp4_f cmp4_a cmp4_c cmp4 cmp4_h _ hx10) hO ?_
  intro H hO hl11
  simp only [List.length_map] at hl11
  replace hN := hl11.trans hN
  refine dG ?_
  refine cA (l := [(0, (.msl 2 lo0p 0 (List.length x9))), (2, (eI m2)), (4, (.fn (.func cmp4_f) cmp4_a cmp4_c)), (10, (eI i10)), (11, (eI j11))]) ⟨[(0, (.msl 2 lo0p 0 (List.length aA))), (2, (eI m2)), (4, (.fn (.func cmp4_f) cmp4_a cmp4_c)), (10, (eI i10)), (11, (eI j11))], by kernel_rfl, rfl, ⟨aL.eq (by simp [hl11]), aL.refl _, aL.refl _, aL.refl _, aL.refl _, trivial⟩⟩ ?_
  refine aH (aF (?_))
  refine aT aG 4 ?_
  refine bC ?_
  exact aH (aU (aF (⟨rfl, _, (oI h1).symm, .eq (by kernel_rfl), hO, hN⟩)))
 refine dW 0 ?_
 obtain rfl := oI h1
 obtain rfl : _ = rr0 := ho0
 replace h0 : mD cmp4 aA m2 i10 = some r := h0
 exact aH (aR (aR (bF (aF (⟨rfl, _, _, .eq (by kernel_rfl), hO, hN, h0⟩)))))

end Go.Abs
namespace Go.Abs
open Go Go.RowKit Go.Proofs
theorem xV (cmp4_f : Nat) (cmp4_a cmp4_c : List V) (cmp4 : aB → aB → Option Int) (cmp4_h : ∀ a0 a1 r, cmp4 a0 a1 = some r → cO Tryz.prog cmp4_f (cmp4_a ++ [(aE a0), (aE a1)] ++ cmp4_c) (eI r)) (rec : (List aB) → Int → Int → Int → Option (List aB)) (ih : ∀ (lo0p : Nat) (aA : (List aB)) (a1 : Int) (m2 : Int) (b3 : Int) (r : List aB), rec aA a1 m2 b3 = some r → iG Tryz.prog 91 lo0p 2 (List.map aE aA) (List.map aE r) [(.msl 2 lo0p 0 (List.length aA)), (eI a1), (eI m2), (eI b3), (.fn (.func cmp4_f) cmp4_a cmp4_c)] (.tup [])) (lo0p : Nat) (aA : (List aB)) (a1 : Int) (m2 : Int) (b3 : Int) (r : List aB) (h0 : gH cmp4 rec aA a1 m2 b3 = some r) : iG Tryz.prog 91 lo0p 2 (List.map aE aA) (List.map aE r) [(.msl 2 lo0p 0 (List.length aA)), (eI a1), (eI m2), (eI b3), (.fn (.func cmp4_f) cmp4_a cmp4_c)] (.tup []) := by
 intro H0 hl0
 refine cP Tryz.func91 ?_
 have hO := aK.nP hl0
 clear hl0
 obtain ⟨N0, hN0⟩ : ∃ n, n = List.length aA := ⟨_, rfl⟩
 have hN : List.length aA = N0 := hN0.symm
 unfold gH at h0
 refine dA (fun T H => ∃ aA : List aB, Has T [(0, (.msl 2 lo0p 0 (List.length aA))), (1, (eI a1)), (2, (eI m2)), (3, (eI b3)), (4, (.fn (.func cmp4_f) cmp4_a cmp4_c))] ∧ aK ⟨H0, [lo0p], []⟩ H [(lo0p, 2, List.map aE aA)] ∧ List.length aA = N0 ∧ pZ cmp4 rec aA a1 m2 b3 = some r) ?_ ?_
 ·clear hO hN h0
  rintro T H ⟨aA, hT, hO, hN, h0⟩
  refine aY hT ?_
  clear hT
  unfold pZ at h0
  refine dA (fun T H => ∃ aA : List aB, Has T [(0, (.msl 2 lo0p 0 (List.length aA))), (1, (eI a1)), (2, (eI m2)), (3, (eI b3)), (4, (.fn (.func cmp4_f) cmp4_a cmp4_c))] ∧ aK ⟨H0, [lo0p], []⟩ H [(lo0p, 2, List.map aE aA)] ∧ List.length aA = N0 ∧ pP cmp4 rec aA a1 m2 b3 = some r) ?_ ?_
  ·clear hO hN h0
   rintro T H ⟨aA, hT, hO, hN, h0⟩
   refine aY hT ?_
   clear hT
   unfold pP at h0
   refine aO ?_
   refine aT aG 7 ?_
   obtain ⟨c1, h0⟩ := aX h0
   refine qL [0 ≤ (1 : Int)] ⟨c1, trivial⟩ ?_
   refine bP [] [(18, (eI (wR (Int.fdiv (IntKind.u64.wrap (wR (a1 + b3))) (2 ^ (min (Int.toNat (1 : Int)) 64))))))] ?_
   refine aS aG 4 [] [(19, (eI (wR ((wR (Int.fdiv (IntKind.u64.wrap (wR (a1 + b3))) (2 ^ (min (Int.toNat (1 : Int)) 64)))) + m2))))] ?_
   refine aS aG 2 [] [] ?_
   refine dA (fun T H => ∃ aA : List aB, ∃ bV : Int, ∃ n19 : Int, ∃ aV : Int, ∃ r21 : Int, Has T [(0, (.msl 2 lo0p 0 (List.length aA))), (1, (eI a1)), (2, (eI m2)), (3, (eI b3)), (4, (.fn (.func cmp4_f) cmp4_a cmp4_c)), (18, (eI bV)), (19, (eI n19)), (20, (eI aV)), (21, (eI r21))] ∧ aK ⟨H0, [lo0p], []⟩ H [(lo0p, 2, List.map aE aA)] ∧ List.length aA = N0 ∧ lG cmp4 rec aA a1 m2 b3 bV n19 aV r21 = some r) ?_ ?_
   ·clear hO hN h0
    rintro T H ⟨aA, bV, n19, aV, r21, hT, hO, hN, h0⟩
    refine aY hT ?_
    clear hT
    unfold lG at h0
    refine aS aG 3 [] [(22, (eI (wR (n19 - (1 : Int)))))] ?_
    refine dA (fun T H => ∃ aA : List aB, ∃ aV : Int, Has T [(0, (.msl 2 lo0p 0 (List.length aA))), (1, (eI a1)), (2, (eI m2)), (3, (eI b3)), (4, (.fn (.func cmp4_f) cmp4_a cmp4_c)), (18, (eI bV)), (19, (eI n19)), (20, (eI aV))] ∧ aK ⟨H0, [lo0p], []⟩ H [(lo0p, 2, List.map aE aA)] ∧ List.length aA = N0 ∧ lM cmp4 rec aA a1 m2 b3 bV n19 aV = some r) ?_ ?_
    ·clear hO hN h0
     rintro T H ⟨aA, aV, hT, hO, hN, h0⟩
     refine aY hT ?_
     clear hT
     unfold lM at h0
     refine aS aG 4 [19] [(24, (eI (wR (n19 - aV))))] ?_
     refine dA (fun T H => ∃ aA : List aB, ∃ gK : Int, Has T [(0, (.msl 2 lo0p 0 (List.length aA))), (1, (eI a1)), (3, (eI b3)), (4, (.fn (.func cmp4_f) cmp4_a cmp4_c)), (18, (eI bV)), (20, (eI aV)), (24, (eI gK))] ∧ aK ⟨H0, [lo0p], []⟩ H [(lo0p, 2, List.map aE aA)] ∧ List.length aA = N0 ∧ lF cmp4 rec aA a1 b3 bV aV gK = some r) ?_ ?_
     ·clear hO hN h0
      rintro T H ⟨aA, gK, hT, hO, hN, h0⟩
      refine aY hT ?_
      clear hT
      unfold lF at h0
      refine dA (fun T H => ∃ aA : List aB, Has T [(0, (.msl 2 lo0p 0 (List.length aA))), (3, (eI b3)), (4, (.fn (.func cmp4_f) cmp4_a cmp4_c)), (18, (eI bV)), (24, (eI gK))] ∧ aK ⟨H0, [lo0p], []⟩ H [(lo0p, 2, List.map aE aA)] ∧ List.length aA = N0 ∧ kW cmp4 rec aA b3 bV gK = some r) ?_ ?_
      ·clear hO hN h0
       rintro T H ⟨aA, hT, hO, hN, h0⟩
       refine aY hT ?_
       clear hT
       unfold kW at h0
       refine aS aG 8 [] [(213, (aJ ((decide (bV < gK)) && (decide (gK < b3)))))] ?_
       refine bE h0 (fun h0 => ?_) (fun h0 => ?_)
       ·refine aT aG 6 ?_
        refine bI 5 ?_
        obtain ⟨x3, hx4, h0⟩ := aW h0
        refine nE [(lo0p, 2, List.map aE x3)] 0 (ih lo0p aA bV gK b3 _ hx4) hO ?_
        intro H hO hl5
        simp only [List.length_map] at hl5
        replace hN := hl5.trans hN
        refine dG ?_
        refine cA (l := [(0, (.msl 2 lo0p 0 (List.length x3)))]) ⟨[(0, (.msl 2 lo0p 0 (List.length aA)))], by kernel_rfl, rfl, ⟨aL.eq (by simp [hl5]), trivial⟩⟩ ?_
        obtain rfl := oI h0
        exact aH (rY (x := (.tup [])) (by kernel_rfl) (aL.refl _) ⟨rfl, hO.ext, hO.at 0 (by kernel_rfl), by simp only [List.length_map]; exact hN.trans hN0⟩)
       refine bG ?_
       obtain rfl := oI h0
       exact aH (rY (x := (.tup [])) (by kernel_rfl) (aL.refl _) ⟨rfl, hO.ext, hO.at 0 (by kernel_rfl), by first | rfl | (simp only [List.length_map]; exact hN.trans hN0)⟩)
      refine aS aG 8 [] [(199, (aJ ((decide (a1 < aV)) && (decide (aV < bV)))))] ?_
      refine bE h0 (fun h0 => ?_) (fun h0 => ?_)
      ·refine aT aG 6 ?_
       refine bI 5 ?_
       obtain ⟨x7, hx8, h0⟩ := aW h0
       refine nE [(lo0p, 2, List.map aE x7)] 0 (ih lo0p aA a1 aV bV _ hx8) hO ?_
       intro H hO hl9
       simp only [List.length_map] at hl9
       replace hN := hl9.trans hN
       refine dG ?_
       refine cA (l := [(0, (.msl 2 lo0p 0 (List.length x7))), (3, (eI b3)), (4, (.fn (.func cmp4_f) cmp4_a cmp4_c)), (18, (eI bV)), (24, (eI gK))]) ⟨[(0, (.msl 2 lo0p 0 (List.length aA))), (3, (eI b3)), (4, (.fn (.func cmp4_f) cmp4_a cmp4_c)), (18, (eI bV)), (24, (eI gK))], by kernel_rfl, rfl, ⟨aL.eq (by simp [hl9]), aL.refl _, aL.refl _, aL.refl _, aL.refl _, trivial⟩⟩ ?_
       exact aH (aF (⟨rfl, _, .eq (by kernel_rfl), hO, hN, h0⟩))
      refine bG ?_
      exact aH (aF (⟨rfl, _, .eq (by kernel_rfl), hO, hN, h0⟩))
     refine aS aG 8 [] [(185, (aJ ((decide (aV < m2)) && (decide (m2 < (wR (n19 - aV)))))))] ?_
     refine bE h0 (fun h0 => ?_) (fun h0 => ?_)
     ·refine aT aG 6 ?_
      refine bI 5 ?_
      obtain ⟨x11, hx12, h0⟩ := aW h0
      refine nE [(lo0p, 2, List.map aE x11)] 0 (BT lo0p aA aV m2 (wR (n19 - aV)) cmp4_f cmp4_a cmp4_c cmp4 cmp4_h _ hx12) hO ?_
      intro H hO hl13
      simp only [List.length_map] at hl13
      replace hN := hl13.trans hN
      refine dG ?_
      refine cA (l := [(0, (.msl 2 lo0p 0 (List.length x11))), (1, (eI a1)), (3, (eI b3)), (4, (.fn (.func cmp4_f) cmp4_a cmp4_c)), (18, (eI bV)), (20, (eI aV)), (24, (eI (wR (n19 - aV))))]) ⟨[(0, (.msl 2 lo0p 0 (List.length aA))), (1, (eI a1)), (3, (eI b3)), (4, (.fn (.func cmp4_f) cmp4_a cmp4_c)), (18, (eI bV)), (20, (eI aV)), (24, (eI (wR (n19 - aV))))], by kernel_rfl, rfl, ⟨aL.eq (by simp [hl13]), aL.refl _, aL.refl _, aL.refl _, aL.refl _, aL.refl _, aL.refl _, trivial⟩⟩ ?_
      exact aH (aF (⟨rfl, _, _, .eq (by kernel_rfl), hO, hN, h0⟩))
     refine bG ?_
     exact aH (aF (⟨rfl, _, _, .eq (by kernel_rfl), hO, hN, h0⟩))
    refine bN 8 ?_
    refine dK [(0, (.msl 2 lo0p 0 (List.length aA))), (1, (eI a1)), (2, (eI m2)), (3, (eI b3)), (4, (.fn (.func cmp4_f) cmp4_a cmp4_c)), (18, (eI bV)), (19, (eI n19)), (20, (eI aV)), (21, (eI r21)), (22, (eI (wR (n19 - (1 : Int)))))] ?_
    refine cQ (fun T H => ∃ aA : List aB, ∃ aV : Int, ∃ r21 : Int, ∃ p22 : Int, Has T [(0, (.msl 2 lo0p 0 (List.length aA))), (1, (eI a1)), (2, (eI m2)), (3, (eI b3)), (4, (.fn (.func cmp4_f) cmp4_a cmp4_c)), (18, (eI bV)), (19, (eI n19)), (20, (eI aV)), (21, (eI r21)), (22, (eI p22))] ∧ aK ⟨H0, [lo0p], []⟩ H [(lo0p, 2, List.map aE aA)] ∧ List.length aA = N0 ∧ pT cmp4 rec aA a1 m2 b3 bV n19 aV r21 p22 = some r) ?_ ⟨aA, aV, r21, wR (n19 - (1 : Int)), .eq (by kernel_rfl), hO, hN, h0⟩
    clear hO hN h0
    rintro T H ⟨aA, aV, r21, p22, hT, hO, hN, h0⟩
    refine aY hT ?_
    clear hT
    unfold pT at h0
    obtain ⟨rr0, hl0, h0⟩ := aW h0
    refine cB (by kernel_rfl) (fun (s : List aB × Int × Int) T H => Has T [(0, (.msl 2 lo0p 0 (List.length s.1))), (1, (eI a1)), (2, (eI m2)), (3, (eI b3)), (4, (.fn (.func cmp4_f) cmp4_a cmp4_c)), (18, (eI bV)), (19, (eI n19)), (20, (eI s.2.1)), (21, (eI s.2.2)), (22, (eI p22))] ∧ aK ⟨H0, [lo0p], []⟩ H [(lo0p, 2, List.map aE s.1)] ∧ List.length s.1 = N0) hl0 ⟨.eq (by kernel_rfl), hO, hN⟩ ?_
    clear hO hN
    rintro k0 s out1 T H ⟨hT, hO, hN⟩ h1 ho0
    obtain ⟨aA, aV, r21⟩ := s
    replace h1 : qA cmp4 rec a1 m2 b3 bV n19 p22 aA aV r21 = some out1 := h1
    try dsimp only at hT
    refine aY hT ?_
    clear hT
    unfold qA at h1
    refine aO ?_
    refine aS aG 3 [] [(151, (aJ (decide (aV < r21))))] ?_
    refine bE h1 (fun h1 => ?_) (fun h1 => ?_)
    ·refine bG ?_
     refine bD [(0, (.msl 2 lo0p 0 (List.length aA))), (1, (eI a1)), (2, (eI m2)), (3, (eI b3)), (4, (.fn (.func cmp4_f) cmp4_a cmp4_c)), (18, (eI bV)), (19, (eI n19)), (20, (eI aV)), (21, (eI r21)), (22, (eI p22))] ?_
     refine bN 9 ?_
     refine aO ?_
     refine aT aG 7 ?_
     obtain ⟨c15, h1⟩ := aX h1
     refine qL [0 ≤ (1 : Int)] ⟨c15, trivial⟩ ?_
     refine bP [] [(23, (eI (wR (Int.fdiv (IntKind.u64.wrap (wR (aV + r21))) (2 ^ (min (Int.toNat (1 : Int)) 64))))))] ?_
     refine aO ?_
     refine eR (eP [169]) aG 14 ?_
     obtain ⟨c16, h1⟩ := aX h1
     refine bQ 6 [0 ≤ (wR (p22 - (wR (Int.fdiv (IntKind.u64.wrap (wR (aV + r21))) (2 ^ (min (Int.toNat (1 : Int)) 64)))))) ∧ (wR (p22 - (wR (Int.fdiv (IntKind.u64.wrap (wR (aV + r21))) (2 ^ (min (Int.toNat (1 : Int)) 64)))))) < (lN aA)] ⟨c16, trivial⟩ ?_
     refine dN 0 lo0p 2 (0 + Int.toNat (wR (p22 - (wR (Int.fdiv (IntKind.u64.wrap (wR (aV + r21))) (2 ^ (min (Int.toNat (1 : Int)) 64))))))) (aE (gD aA (wR (p22 - (wR (Int.fdiv (IntKind.u64.wrap (wR (aV + r21))) (2 ^ (min (Int.toNat (1 : Int)) 64)))))))) (aE (gD aA (wR (p22 - (wR (Int.fdiv (IntKind.u64.wrap (wR (aV + r21))) (2 ^ (min (Int.toNat (1 : Int)) 64)))))))) (List.map aE aA) hO (bJ c16) ?_
     obtain ⟨c17, h1⟩ := aX h1
     refine bQ 10 [0 ≤ (wR (Int.fdiv (IntKind.u64.wrap (wR (aV + r21))) (2 ^ (min (Int.toNat (1 : Int)) 64)))) ∧ (wR (Int.fdiv (IntKind.u64.wrap (wR (aV + r21))) (2 ^ (min (Int.toNat (1 : Int)) 64)))) < (lN aA)] ⟨c17, trivial⟩ ?_
     refine dN 0 lo0p 2 (0 + Int.toNat (wR (Int.fdiv (IntKind.u64.wrap (wR (aV + r21))) (2 ^ (min (Int.toNat (1 : Int)) 64))))) (aE (gD aA (wR (Int.fdiv (IntKind.u64.wrap (wR (aV + r21))) (2 ^ (min (Int.toNat (1 : Int)) 64)))))) (aE (gD aA (wR (Int.fdiv (IntKind.u64.wrap (wR (aV + r21))) (2 ^ (min (Int.toNat (1 : Int)) 64)))))) (List.map aE aA) hO (bJ c17) ?_
     obtain ⟨x18, hx19, h1⟩ := aW h1
     refine BA (cmp4_h (gD aA (wR (p22 - (wR (Int.fdiv (IntKind.u64.wrap (wR (aV + r21))) (2 ^ (min (Int.toNat (1 : Int)) 64))))))) (gD aA (wR (Int.fdiv (IntKind.u64.wrap (wR (aV + r21))) (2 ^ (min (Int.toNat (1 : Int)) 64))))) _ hx19) hO ?_
     intro H hO
     refine jI ?_
     refine bP [] [(171, (aJ (!(decide (x18 < (0 : Int))))))] ?_
     refine bE h1 (fun h1 => ?_) (fun h1 => ?_)
     ·refine aT aG 3 ?_
      refine bC ?_
      exact aH (aU (aF (⟨rfl, _, (oI h1).symm, .eq (by kernel_rfl), hO, hN⟩)))
     refine aT aG 2 ?_
     refine bC ?_
     exact aH (aU (aF (⟨rfl, _, (oI h1).symm, .eq (by kernel_rfl), hO, hN⟩)))
    refine dW 8 ?_
    obtain rfl := oI h1
    obtain rfl : _ = rr0 := ho0
    replace h0 : lM cmp4 rec aA a1 m2 b3 bV n19 aV = some r := h0
    exact aH (aR (aR (bF (aF (⟨rfl, _, _, .eq (by kernel_rfl), hO, hN, h0⟩)))))
   refine aS aG 3 [] [(140, (aJ (decide ((wR (Int.fdiv (IntKind.u64.wrap (wR (a1 + b3))) (2 ^ (min (Int.toNat (1 : Int)) 64)))) < m2))))] ?_
   refine bE h0 (fun h0 => ?_) (fun h0 => ?_)
   ·refine cH aG 4 [(0, (.msl 2 lo0p 0 (List.length aA))), (1, (eI a1)), (2, (eI m2)), (3, (eI b3)), (4, (.fn (.func cmp4_f) cmp4_a cmp4_c)), (18, (eI (wR (Int.fdiv (IntKind.u64.wrap (wR (a1 + b3))) (2 ^ (min (Int.toNat (1 : Int)) 64)))))), (19, (eI (wR ((wR (Int.fdiv (IntKind.u64.wrap (wR (a1 + b3))) (2 ^ (min (Int.toNat (1 : Int)) 64)))) + m2)))), (20, (eI (wR ((wR ((wR (Int.fdiv (IntKind.u64.wrap (wR (a1 + b3))) (2 ^ (min (Int.toNat (1 : Int)) 64)))) + m2)) - b3))))] ?_
    refine aT aG 2 ?_
    refine bC ?_
    exact aH (aF (⟨rfl, _, _, _, _, _, .eq (by kernel_rfl), hO, hN, h0⟩))
   refine cH aG 2 [(0, (.msl 2 lo0p 0 (List.length aA))), (1, (eI a1)), (2, (eI m2)), (3, (eI b3)), (4, (.fn (.func cmp4_f) cmp4_a cmp4_c)), (18, (eI (wR (Int.fdiv (IntKind.u64.wrap (wR (a1 + b3))) (2 ^ (min (Int.toNat (1 : Int)) 64)))))), (19, (eI (wR ((wR (Int.fdiv (IntKind.u64.wrap (wR (a1 + b3))) (2 ^ (min (Int.toNat (1 : Int)) 64)))) + m2)))), (20, (eI a1))] ?_
   refine aT aG 2 ?_
   refine bC ?_
   exact aH (aF (⟨rfl, _, _, _, _, _, .eq (by kernel_rfl), hO, hN, h0⟩))
  refine aS aG 4 [] [(80, (aJ (decide ((wR (b3 - m2)) = (1 : Int)))))] ?_
  refine bE h0 (fun h0 => ?_) (fun h0 => ?_)
  ·refine aS aG 2 [1, 3, 80] [(14, (eI a1))] ?_
   refine aS aG 2 [] [(15, (eI m2))] ?_
   refine dA (fun T H => ∃ aA : List aB, ∃ i14 : Int, Has T [(0, (.msl 2 lo0p 0 (List.length aA))), (2, (eI m2)), (14, (eI i14))] ∧ aK ⟨H0, [lo0p], []⟩ H [(lo0p, 2, List.map aE aA)] ∧ List.length aA = N0 ∧ kV cmp4 rec aA m2 i14 = some r) ?_ ?_
   ·clear hO hN h0
    rintro T H ⟨aA, i14, hT, hO, hN, h0⟩
    refine aY hT ?_
    clear hT
    unfold kV at h0
    refine dA (fun T H => ∃ aA : List aB, Has T [(0, (.msl 2 lo0p 0 (List.length aA)))] ∧ aK ⟨H0, [lo0p], []⟩ H [(lo0p, 2, List.map aE aA)] ∧ List.length aA = N0 ∧ lB cmp4 rec aA = some r) ?_ ?_
    ·clear hO hN h0
     rintro T H ⟨aA, hT, hO, hN, h0⟩
     refine aY hT ?_
     clear hT
     unfold lB at h0
     refine bL ?_
     obtain rfl := oI h0
     exact aH (bB (mB (x := (.tup [])) (by kernel_rfl) (aL.refl _) ⟨rfl, hO.ext, hO.at 0 (by kernel_rfl), by first | rfl | (simp only [List.length_map]; exact hN.trans hN0)⟩))
    refine aS aG 2 [2] [(17, (eI m2))] ?_
    refine bN 6 ?_
    refine dK [(0, (.msl 2 lo0p 0 (List.length aA))), (14, (eI i14)), (17, (eI m2))] ?_
    refine cQ (fun T H => ∃ aA : List aB, ∃ k17 : Int, Has T [(0, (.msl 2 lo0p 0 (List.length aA))), (14, (eI i14)), (17, (eI k17))] ∧ aK ⟨H0, [lo0p], []⟩ H [(lo0p, 2, List.map aE aA)] ∧ List.length aA = N0 ∧ pI cmp4 rec aA i14 k17 = some r) ?_ ⟨aA, m2, .eq (by kernel_rfl), hO, hN, h0⟩
    clear hO hN h0
    rintro T H ⟨aA, k17, hT, hO, hN, h0⟩
    refine aY hT ?_
    clear hT
    unfold pI at h0
    obtain ⟨rr0, hl0, h0⟩ := aW h0
    refine cB (by kernel_rfl) (fun (s : List aB × Int) T H => Has T [(0, (.msl 2 lo0p 0 (List.length s.1))), (14, (eI i14)), (17, (eI s.2))] ∧ aK ⟨H0, [lo0p], []⟩ H [(lo0p, 2, List.map aE s.1)] ∧ List.length s.1 = N0) hl0 ⟨.eq (by kernel_rfl), hO, hN⟩ ?_
    clear hO hN
    rintro k0 s out1 T H ⟨hT, hO, hN⟩ h1 ho0
    obtain ⟨aA, k17⟩ := s
    replace h1 : pF cmp4 rec i14 aA k17 = some out1 := h1
    try dsimp only at hT
    refine aY hT ?_
    clear hT
    unfold pF at h1
    refine aO ?_
    refine aS aG 3 [] [(110, (aJ (decide (i14 < k17))))] ?_
    refine bE h1 (fun h1 => ?_) (fun h1 => ?_)
    ·refine bG ?_
     refine bD [(0, (.msl 2 lo0p 0 (List.length aA))), (14, (eI i14)), (17, (eI k17))] ?_
     refine aO ?_
     refine bN 7 ?_
     refine eR (eP []) aG 18 ?_
     obtain ⟨c25, h1⟩ := aX h1
     refine bQ 9 [0 ≤ (wR (k17 - (1 : Int))) ∧ (wR (k17 - (1 : Int))) < (lN aA)] ⟨c25, trivial⟩ ?_
     refine dN 0 lo0p 2 (0 + Int.toNat (wR (k17 - (1 : Int)))) (aE (gD aA (wR (k17 - (1 : Int))))) (aE (gD aA (wR (k17 - (1 : Int))))) (List.map aE aA) hO (bJ c25) ?_
     obtain ⟨c26, h1⟩ := aX h1
     refine bQ 13 [0 ≤ k17 ∧ k17 < (lN aA)] ⟨c26, trivial⟩ ?_
     refine dN 0 lo0p 2 (0 + Int.toNat k17) (aE (gD aA k17)) (aE (gD aA k17)) (List.map aE aA) hO (bJ c26) ?_
     obtain ⟨c27, h1⟩ := aX h1
     refine bQ 15 [0 ≤ k17 ∧ k17 < (lN aA)] ⟨c27, trivial⟩ ?_
     refine iD 0 lo0p 2 (0 + Int.toNat k17) (aE (gD aA k17)) (aE (gD aA (wR (k17 - (1 : Int))))) (List.map aE aA) [(lo0p, 2, List.map aE (List.set aA (Int.toNat k17) (gD aA (wR (k17 - (1 : Int))))))] hO (bJ c27) (by simp only [List.set, eA]) ?_
     intro H hO
     replace hN : List.length (List.set aA (Int.toNat k17) (gD aA (wR (k17 - (1 : Int))))) = N0 := by simpa using hN
     obtain ⟨c28, h1⟩ := aX h1
     refine bQ 17 [0 ≤ (wR (k17 - (1 : Int))) ∧ (wR (k17 - (1 : Int))) < (lN aA)] ⟨c28, trivial⟩ ?_
     refine iD 0 lo0p 2 (0 + Int.toNat (wR (k17 - (1 : Int)))) (aE (gD (List.set aA (Int.toNat k17) (gD aA (wR (k17 - (1 : Int))))) (wR (k17 - (1 : Int))))) (aE (gD aA k17)) (List.map aE (List.set aA (Int.toNat k17) (gD aA (wR (k17 - (1 : Int)))))) [(lo0p, 2, List.map aE (List.set (List.set aA (Int.toNat k17) (gD aA (wR (k17 - (1 : Int))))) (Int.toNat (wR (k17 - (1 : Int)))) (gD aA k17)))] hO (lQ c28 (by simp [])) (by simp only [List.set, eA]) ?_
     intro H hO
     replace hN : List.length (List.set (List.set aA (Int.toNat k17) (gD aA (wR (k17 - (1 : Int))))) (Int.toNat (wR (k17 - (1 : Int)))) (gD aA k17)) = N0 := by simpa using hN
     refine nU (by kernel_rfl) ?_
     refine cA (l := [(0, (.msl 2 lo0p 0 (List.length (List.set (List.set aA (Int.toNat k17) (gD aA (wR (k17 - (1 : Int))))) (Int.toNat (wR (k17 - (1 : Int)))) (gD aA k17))))), (14, (eI i14)), (17, (eI k17))]) ⟨[(0, (.msl 2 lo0p 0 (List.length aA))), (14, (eI i14)), (17, (eI k17))], by kernel_rfl, rfl, ⟨aL.eq (by simp []), aL.refl _, aL.refl _, trivial⟩⟩ ?_
     refine aH (aU (aF (?_)))
     refine aT aG 3 ?_
     refine bC ?_
     exact aH (aF (⟨rfl, _, (oI h1).symm, .eq (by kernel_rfl), hO, hN⟩))
    refine dW 6 ?_
    obtain rfl := oI h1
    obtain rfl : _ = rr0 := ho0
    replace h0 : lB cmp4 rec aA = some r := h0
    exact aH (aR (aR (bF (aF (⟨rfl, _, .eq (by kernel_rfl), hO, hN, h0⟩)))))
   refine bN 4 ?_
   refine dK [(0, (.msl 2 lo0p 0 (List.length aA))), (2, (eI m2)), (4, (.fn (.func cmp4_f) cmp4_a cmp4_c)), (14, (eI a1)), (15, (eI m2))] ?_
   refine cQ (fun T H => ∃ aA : List aB, ∃ i14 : Int, ∃ j15 : Int, Has T [(0, (.msl 2 lo0p 0 (List.length aA))), (2, (eI m2)), (4, (.fn (.func cmp4_f) cmp4_a cmp4_c)), (14, (eI i14)), (15, (eI j15))] ∧ aK ⟨H0, [lo0p], []⟩ H [(lo0p, 2, List.map aE aA)] ∧ List.length aA = N0 ∧ pJ cmp4 rec aA m2 i14 j15 = some r) ?_ ⟨aA, a1, m2, .eq (by kernel_rfl), hO, hN, h0⟩
   clear hO hN h0
   rintro T H ⟨aA, i14, j15, hT, hO, hN, h0⟩
   refine aY hT ?_
   clear hT
   unfold pJ at h0
   obtain ⟨rr0, hl0, h0⟩ := aW h0
   refine cB (by kernel_rfl) (fun (s : List aB × Int × Int) T H => Has T [(0, (.msl 2 lo0p 0 (List.length s.1))), (2, (eI m2)), (4, (.fn (.func cmp4_f) cmp4_a cmp4_c)), (14, (eI s.2.1)), (15, (eI s.2.2))] ∧ aK ⟨H0, [lo0p], []⟩ H [(lo0p, 2, List.map aE s.1)] ∧ List.length s.1 = N0) hl0 ⟨.eq (by kernel_rfl), hO, hN⟩ ?_
   clear hO hN
   rintro k0 s out1 T H ⟨hT, hO, hN⟩ h1 ho0
   obtain ⟨aA, i14, j15⟩ := s
   replace h1 : oO cmp4 rec m2 aA i14 j15 = some out1 := h1
   try dsimp only at hT
   refine aY hT ?_
   clear hT
   unfold oO at h1
   refine aO ?_
   refine aS aG 3 [] [(85, (aJ (decide (i14 < j15))))] ?_
   refine bE h1 (fun h1 => ?_) (fun h1 => ?_)
   ·refine bG ?_
    refine bD [(0, (.msl 2 lo0p 0 (List.length aA))), (2, (eI m2)), (4, (.fn (.func cmp4_f) cmp4_a cmp4_c)), (14, (eI i14)), (15, (eI j15))] ?_
    refine bN 5 ?_
    refine aO ?_
    refine aT aG 7 ?_
    obtain ⟨c30, h1⟩ := aX h1
    refine qL [0 ≤ (1 : Int)] ⟨c30, trivial⟩ ?_
    refine bP [] [(16, (eI (wR (Int.fdiv (IntKind.u64.wrap (wR (i14 + j15))) (2 ^ (min (Int.toNat (1 : Int)) 64))))))] ?_
    refine aO ?_
    refine eR (eP [101]) aG 12 ?_
    obtain ⟨c31, h1⟩ := aX h1
    refine bQ 4 [0 ≤ m2 ∧ m2 < (lN aA)] ⟨c31, trivial⟩ ?_
    refine dN 0 lo0p 2 (0 + Int.toNat m2) (aE (gD aA m2)) (aE (gD aA m2)) (List.map aE aA) hO (bJ c31) ?_
    obtain ⟨c32, h1⟩ := aX h1
    refine bQ 8 [0 ≤ (wR (Int.fdiv (IntKind.u64.wrap (wR (i14 + j15))) (2 ^ (min (Int.toNat (1 : Int)) 64)))) ∧ (wR (Int.fdiv (IntKind.u64.wrap (wR (i14 + j15))) (2 ^ (min (Int.toNat (1 : Int)) 64)))) < (lN aA)] ⟨c32, trivial⟩ ?_
    refine dN 0 lo0p 2 (0 + Int.toNat (wR (Int.fdiv (IntKind.u64.wrap (wR (i14 + j15))) (2 ^ (min (Int.toNat (1 : Int)) 64))))) (aE (gD aA (wR (Int.fdiv (IntKind.u64.wrap (wR (i14 + j15))) (2 ^ (min (Int.toNat (1 : Int)) 64)))))) (aE (gD aA (wR (Int.fdiv (IntKind.u64.wrap (wR (i14 + j15))) (2 ^ (min (Int.toNat (1 : Int)) 64)))))) (List.map aE aA) hO (bJ c32) ?_
    obtain ⟨x33, hx34, h1⟩ := aW h1
    refine BA (cmp4_h (gD aA m2) (gD aA (wR (Int.fdiv (IntKind.u64.wrap (wR (i14 + j15))) (2 ^ (min (Int.toNat (1 : Int)) 64))))) _ hx34) hO ?_
    intro H hO
    refine jI ?_
    refine bP [] [(103, (aJ (!(decide (x33 < (0 : Int))))))] ?_
    refine bE h1 (fun h1 => ?_) (fun h1 => ?_)
    ·refine aT aG 3 ?_
     refine bC ?_
     exact aH (aU (aF (⟨rfl, _, (oI h1).symm, .eq (by kernel_rfl), hO, hN⟩)))
    refine aT aG 2 ?_
    refine bC ?_
    exact aH (aU (aF (⟨rfl, _, (oI h1).symm, .eq (by kernel_rfl), hO, hN⟩)))
   refine dW 4 ?_
   obtain rfl := oI h1
   obtain rfl : _ = rr0 := ho0
   replace h0 : kV cmp4 rec aA m2 i14 = some r := h0
   exact aH (aR (aR (bF (aF (⟨rfl, _, _, .eq (by kernel_rfl), hO, hN, h0⟩)))))
  refine bG ?_
  exact aH (aF (⟨rfl, _, .eq (by kernel_rfl), hO, hN, h0⟩))
 refine aS aG 4 [] [(28, (aJ (decide ((wR (m2 - a1)) = (1 : Int)))))] ?_
 refine bE h0 (fun h0 => ?_) (fun h0 => ?_)
 ·refine aS aG 2 [2, 28] [(10, (eI m2))] ?_
  refine aS aG 2 [3] [(11, (eI b3))] ?_
  refine dA (fun T H => ∃ aA : List aB, ∃ i10 : Int, Has T [(0, (.msl 2 lo0p 0 (List.length aA))), (1, (eI a1)), (10, (eI i10))] ∧ aK ⟨H0, [lo0p], []⟩ H [(lo0p, 2, List.map aE aA)] ∧ List.length aA = N0 ∧ kI cmp4 rec aA a1 i10 = some r) ?_ ?_
  ·clear hO hN h0
   rintro T H ⟨aA, i10, hT, hO, hN, h0⟩
   refine aY hT ?_
   clear hT
   unfold kI at h0
   refine dA (fun T H => ∃ aA : List aB, Has T [(0, (.msl 2 lo0p 0 (List.length aA)))] ∧ aK ⟨H0, [lo0p], []⟩ H [(lo0p, 2, List.map aE aA)] ∧ List.length aA = N0 ∧ kF cmp4 rec aA = some r) ?_ ?_
   ·clear hO hN h0
    rintro T H ⟨aA, hT, hO, hN, h0⟩
    refine aY hT ?_
    clear hT
    unfold kF at h0
    refine bL ?_
    obtain rfl := oI h0
    exact aH (bB (mB (x := (.tup [])) (by kernel_rfl) (aL.refl _) ⟨rfl, hO.ext, hO.at 0 (by kernel_rfl), by first | rfl | (simp only [List.length_map]; exact hN.trans hN0)⟩))
   refine aS aG 2 [1] [(13, (eI a1))] ?_
   refine bN 2 ?_
   refine dK [(0, (.msl 2 lo0p 0 (List.length aA))), (10, (eI i10)), (13, (eI a1))] ?_
   refine cQ (fun T H => ∃ aA : List aB, ∃ k13 : Int, Has T [(0, (.msl 2 lo0p 0 (List.length aA))), (10, (eI i10)), (13, (eI k13))] ∧ aK ⟨H0, [lo0p], []⟩ H [(lo0p, 2, List.map aE aA)] ∧ List.length aA = N0 ∧ oU cmp4 rec aA i10 k13 = some r) ?_ ⟨aA, a1, .eq (by kernel_rfl), hO, hN, h0⟩
   clear hO hN h0
   rintro T H ⟨aA, k13, hT, hO, hN, h0⟩
   refine aY hT ?_
   clear hT
   unfold oU at h0
   obtain ⟨rr0, hl0, h0⟩ := aW h0
   refine cB (by kernel_rfl) (fun (s : List aB × Int) T H => Has T [(0, (.msl 2 lo0p 0 (List.length s.1))), (10, (eI i10)), (13, (eI s.2))] ∧ aK ⟨H0, [lo0p], []⟩ H [(lo0p, 2, List.map aE s.1)] ∧ List.length s.1 = N0) hl0 ⟨.eq (by kernel_rfl), hO, hN⟩ ?_
   clear hO hN
   rintro k0 s out1 T H ⟨hT, hO, hN⟩ h1 ho0
   obtain ⟨aA, k13⟩ := s
   replace h1 : oW cmp4 rec i10 aA k13 = some out1 := h1
   try dsimp only at hT
   refine aY hT ?_
   clear hT
   unfold oW at h1
   refine aO ?_
   refine aS aG 4 [] [(58, (aJ (decide (k13 < (wR (i10 - (1 : Int)))))))] ?_
   refine bE h1 (fun h1 => ?_) (fun h1 => ?_)
   ·refine bG ?_
    refine bD [(0, (.msl 2 lo0p 0 (List.length aA))), (10, (eI i10)), (13, (eI k13))] ?_
    refine aO ?_
    refine bN 3 ?_
    refine eR (eP []) aG 18 ?_
    obtain ⟨c39, h1⟩ := aX h1
    refine bQ 9 [0 ≤ (wR (k13 + (1 : Int))) ∧ (wR (k13 + (1 : Int))) < (lN aA)] ⟨c39, trivial⟩ ?_
    refine dN 0 lo0p 2 (0 + Int.toNat (wR (k13 + (1 : Int)))) (aE (gD aA (wR (k13 + (1 : Int))))) (aE (gD aA (wR (k13 + (1 : Int))))) (List.map aE aA) hO (bJ c39) ?_
    obtain ⟨c40, h1⟩ := aX h1
    refine bQ 13 [0 ≤ k13 ∧ k13 < (lN aA)] ⟨c40, trivial⟩ ?_
    refine dN 0 lo0p 2 (0 + Int.toNat k13) (aE (gD aA k13)) (aE (gD aA k13)) (List.map aE aA) hO (bJ c40) ?_
    obtain ⟨c41, h1⟩ := aX h1
    refine bQ 15 [0 ≤ k13 ∧ k13 < (lN aA)] ⟨c41, trivial⟩ ?_
    refine iD 0 lo0p 2 (0 + Int.toNat k13) (aE (gD aA k13)) (aE (gD aA (wR (k13 + (1 : Int))))) (List.map aE aA) [(lo0p, 2, List.map aE (List.set aA (Int.toNat k13) (gD aA (wR (k13 + (1 : Int))))))] hO (bJ c41) (by simp only [List.set, eA]) ?_
    intro H hO
    replace hN : List.length (List.set aA (Int.toNat k13) (gD aA (wR (k13 + (1 : Int))))) = N0 := by simpa using hN
    obtain ⟨c42, h1⟩ := aX h1
    refine bQ 17 [0 ≤ (wR (k13 + (1 : Int))) ∧ (wR (k13 + (1 : Int))) < (lN aA)] ⟨c42, trivial⟩ ?_
    refine iD 0 lo0p 2 (0 + Int.toNat (wR (k13 + (1 : Int)))) (aE (gD (List.set aA (Int.toNat k13) (gD aA (wR (k13 + (1 : Int))))) (wR (k13 + (1 : Int))))) (aE (gD aA k13)) (List.map aE (List.set aA (Int.toNat k13) (gD aA (wR (k13 + (1 : Int)))))) [(lo0p, 2, List.map aE (List.set (List.set aA (Int.toNat k13) (gD aA (wR (k13 + (1 : Int))))) (Int.toNat (wR (k13 + (1 : Int)))) (gD aA k13)))] hO (lQ c42 (by simp [])) (by simp only [List.set, eA]) ?_
    intro H hO
    replace hN : List.length (List.set (List.set aA (Int.toNat k13) (gD aA (wR (k13 + (1 : Int))))) (Int.toNat (wR (k13 + (1 : Int)))) (gD aA k13)) = N0 := by simpa using hN
    refine nU (by kernel_rfl) ?_
    refine cA (l := [(0, (.msl 2 lo0p 0 (List.length (List.set (List.set aA (Int.toNat k13) (gD aA (wR (k13 + (1 : Int))))) (Int.toNat (wR (k13 + (1 : Int)))) (gD aA k13))))), (10, (eI i10)), (13, (eI k13))]) ⟨[(0, (.msl 2 lo0p 0 (List.length aA))), (10, (eI i10)), (13, (eI k13))], by kernel_rfl, rfl, ⟨aL.eq (by simp []), aL.refl _, aL.refl _, trivial⟩⟩ ?_
    refine aH (aU (aF (?_)))
    refine aT aG 3 ?_
    refine bC ?_
    exact aH (aF (⟨rfl, _, (oI h1).symm, .eq (by kernel_rfl), hO, hN⟩))
   refine dW 2 ?_
   obtain rfl := oI h1
   obtain rfl : _ = rr0 := ho0
   replace h0 : kF cmp4 rec aA = some r := h0
   exact aH (aR (aR (bF (aF (⟨rfl, _, .eq (by kernel_rfl), hO, hN, h0⟩)))))
  refine bN 0 ?_
  refine dK [(0, (.msl 2 lo0p 0 (List.length aA))), (1, (eI a1)), (4, (.fn (.func cmp4_f) cmp4_a cmp4_c)), (10, (eI m2)), (11, (eI b3))] ?_
  refine cQ (fun T H => ∃ aA : List aB, ∃ i10 : Int, ∃ j11 : Int, Has T [(0, (.msl 2 lo0p 0 (List.length aA))), (1, (eI a1)), (4, (.fn (.func cmp4_f) cmp4_a cmp4_c)), (10, (eI i10)), (11, (eI j11))] ∧ aK ⟨H0, [lo0p], []⟩ H [(lo0p, 2, List.map aE aA)] ∧ List.length aA = N0 ∧ pK cmp4 rec aA a1 i10 j11 = some r) ?_ ⟨aA, m2, b3, .eq (by kernel_rfl), hO, hN, h0⟩
  clear hO hN h0
  rintro T H ⟨aA, i10, j11, hT, hO, hN, h0⟩
  refine aY hT ?_
  clear hT
  unfold pK at h0
  obtain ⟨rr0, hl0, h0⟩ := aW h0
  refine cB (by kernel_rfl) (fun (s : List aB × Int × Int) T H => Has T [(0, (.msl 2 lo0p 0 (List.length s.1))), (1, (eI a1)), (4, (.fn (.func cmp4_f) cmp4_a cmp4_c)), (10, (eI s.2.1)), (11, (eI s.2.2))] ∧ aK ⟨H0, [lo0p], []⟩ H [(lo0p, 2, List.map aE s.1)] ∧ List.length s.1 = N0) hl0 ⟨.eq (by kernel_rfl), hO, hN⟩ ?_
  clear hO hN
  rintro k0 s out1 T H ⟨hT, hO, hN⟩ h1 ho0
  obtain ⟨aA, i10, j11⟩ := s
  replace h1 : pG cmp4 rec a1 aA i10 j11 = some out1 := h1
  try dsimp only at hT
  refine aY hT ?_
  clear hT
  unfold pG at h1
  refine aO ?_
  refine aS aG 3 [] [(33, (aJ (decide (i10 < j11))))] ?_
  refine bE h1 (fun h1 => ?_) (fun h1 => ?_)
  ·refine bG ?_
   refine bD [(0, (.msl 2 lo0p 0 (List.length aA))), (1, (eI a1)), (4, (.fn (.func cmp4_f) cmp4_a cmp4_c)), (10, (eI i10)), (11, (eI j11))] ?_
   refine bN 1 ?_
   refine aO ?_
   refine aT aG 7 ?_
   obtain ⟨c44, h1⟩ := aX h1
   refine qL [0 ≤ (1 : Int)] ⟨c44, trivial⟩ ?_
   refine bP [] [(12, (eI (wR (Int.fdiv (IntKind.u64.wrap (wR (i10 + j11))) (2 ^ (min (Int.toNat (1 : Int)) 64))))))] ?_
   refine aO ?_
   refine eR (eP [49]) aG 11 ?_
   obtain ⟨c45, h1⟩ := aX h1
   refine bQ 4 [0 ≤ (wR (Int.fdiv (IntKind.u64.wrap (wR (i10 + j11))) (2 ^ (min (Int.toNat (1 : Int)) 64)))) ∧ (wR (Int.fdiv (IntKind.u64.wrap (wR (i10 + j11))) (2 ^ (min (Int.toNat (1 : Int)) 64)))) < (lN aA)] ⟨c45, trivial⟩ ?_
   refine dN 0 lo0p 2 (0 + Int.toNat (wR (Int.fdiv (IntKind.u64.wrap (wR (i10 + j11))) (2 ^ (min (Int.toNat (1 : Int)) 64))))) (aE (gD aA (wR (Int.fdiv (IntKind.u64.wrap (wR (i10 + j11))) (2 ^ (min (Int.toNat (1 : Int)) 64)))))) (aE (gD aA (wR (Int.fdiv (IntKind.u64.wrap (wR (i10 + j11))) (2 ^ (min (Int.toNat (1 : Int)) 64)))))) (List.map aE aA) hO (bJ c45) ?_
   obtain ⟨c46, h1⟩ := aX h1
   refine bQ 8 [0 ≤ a1 ∧ a1 < (lN aA)] ⟨c46, trivial⟩ ?_
   refine dN 0 lo0p 2 (0 + Int.toNat a1) (aE (gD aA a1)) (aE (gD aA a1)) (List.map aE aA) hO (bJ c46) ?_
   obtain ⟨x47, hx48, h1⟩ := aW h1
   refine BA (cmp4_h (gD aA (wR (Int.fdiv (IntKind.u64.wrap (wR (i10 + j11))) (2 ^ (min (Int.toNat (1 : Int)) 64))))) (gD aA a1) _ hx48) hO ?_
   intro H hO
   refine jI ?_
   refine bP [] [(50, (aJ (decide (x47 < (0 : Int)))))] ?_
   refine bE h1 (fun h1 => ?_) (fun h1 => ?_)
   ·refine aT aG 3 ?_
    refine bC ?_
    exact aH (aU (aF (⟨rfl, _, (oI h1).symm, .eq (by kernel_rfl), hO, hN⟩)))
   refine aT aG 2 ?_
   refine bC ?_
   exact aH (aU (aF (⟨rfl, _, (oI h1).symm, .eq (by kernel_rfl), hO, hN⟩)))
  refine dW 0 ?_
  obtain rfl := oI h1
  obtain rfl : _ = rr0 := ho0
  replace h0 : kI cmp4 rec aA a1 i10 = some r := h0
  exact aH (aR (aR (bF (aF (⟨rfl, _, _, .eq (by kernel_rfl), hO, hN, h0⟩)))))
 refine bG ?_
 exact aH (aF (⟨rfl, _, .eq (by kernel_rfl), hO, hN, h0⟩))

theorem sU (cmp4_f : Nat) (cmp4_a cmp4_c : List V) (cmp4 : aB → aB → Option Int) (cmp4_h : ∀ a0 a1 r, cmp4 a0 a1 = some r → cO Tryz.prog cmp4_f (cmp4_a ++ [(aE a0), (aE a1)] ++ cmp4_c) (eI r)) : ∀ (k : Nat) (lo0p : Nat) (aA : (List aB)) (a1 : Int) (m2 : Int) (b3 : Int) (r : List aB), kQ cmp4 k aA a1 m2 b3 = some r → iG Tryz.prog 91 lo0p 2 (List.map aE aA) (List.map aE r) [(.msl 2 lo0p 0 (List.length aA)), (eI a1), (eI m2), (eI b3), (.fn (.func cmp4_f) cmp4_a cmp4_c)] (.tup [])
 | 0, _, _, _, _, _, _, h => by cases h
 | k + 1, lo0p, aA, a1, m2, b3, r, h => xV cmp4_f cmp4_a cmp4_c cmp4 cmp4_h _ (sU cmp4_f cmp4_a cmp4_c cmp4 cmp4_h k) lo0p aA a1 m2 b3 r h

theorem tS (lo0p : Nat) (aA : (List aB)) (a1 : Int) (m2 : Int) (b3 : Int) (cmp4_f : Nat) (cmp4_a cmp4_c : List V) (cmp4 : aB → aB → Option Int) (cmp4_h : ∀ a0 a1 r, cmp4 a0 a1 = some r → cO Tryz.prog cmp4_f (cmp4_a ++ [(aE a0), (aE a1)] ++ cmp4_c) (eI r)) (r : List aB) (h0 : iN aA a1 m2 b3 cmp4 = some r) : iG Tryz.prog 91 lo0p 2 (List.map aE aA) (List.map aE r) [(.msl 2 lo0p 0 (List.length aA)), (eI a1), (eI m2), (eI b3), (.fn (.func cmp4_f) cmp4_a cmp4_c)] (.tup []) := by
 obtain ⟨k, hk⟩ := EJ h0
 exact sU cmp4_f cmp4_a cmp4_c cmp4 cmp4_h k lo0p aA a1 m2 b3 r hk

theorem BQ (lo0p : Nat) (aA : (List aB)) (n1 : Int) (cmp2_f : Nat) (cmp2_a cmp2_c : List V) (cmp2 : aB → aB → Option Int) (cmp2_h : ∀ a0 a1 r, cmp2 a0 a1 = some r → cO Tryz.prog cmp2_f (cmp2_a ++ [(aE a0), (aE a1)] ++ cmp2_c) (eI r)) (r : List aB) (h0 : jN aA n1 cmp2 = some r) : iG Tryz.prog 74 lo0p 2 (List.map aE aA) (List.map aE r) [(.msl 2 lo0p 0 (List.length aA)), (eI n1), (.fn (.func cmp2_f) cmp2_a cmp2_c)] (.tup []) := by
 intro H0 hl0
 refine cP Tryz.func74 ?_
 have hO := aK.nP hl0
 clear hl0
 obtain ⟨N0, hN0⟩ : ∃ n, n = List.length aA := ⟨_, rfl⟩
 have hN : List.length aA = N0 := hN0.symm
 unfold jN at h0
 refine aS aG 1 [] [(6, (eI (20 : Int)))] ?_
 refine aS aG 3 [] [(7, (eI (0 : Int))), (8, (eI (20 : Int)))] ?_
 refine dA (fun T H => ∃ aA : List aB, ∃ aP : Int, ∃ a7 : Int, Has T [(0, (.msl 2 lo0p 0 (List.length aA))), (1, (eI n1)), (2, (.fn (.func cmp2_f) cmp2_a cmp2_c)), (6, (eI aP)), (7, (eI a7))] ∧ aK ⟨H0, [lo0p], []⟩ H [(lo0p, 2, List.map aE aA)] ∧ List.length aA = N0 ∧ jA cmp2 aA n1 aP a7 = some r) ?_ ?_
 ·clear hO hN h0
  rintro T H ⟨aA, aP, a7, hT, hO, hN, h0⟩
  refine aY hT ?_
  clear hT
  unfold jA at h0
  refine aO ?_
  refine aT aG 5 ?_
  refine bI 4 ?_
  obtain ⟨x1, hx2, h0⟩ := aW h0
  refine nE [(lo0p, 2, List.map aE x1)] 0 (sC lo0p aA a7 n1 cmp2_f cmp2_a cmp2_c cmp2 cmp2_h _ hx2) hO ?_
  intro H hO hl3
  simp only [List.length_map] at hl3
  replace hN := hl3.trans hN
  refine dG ?_
  refine cA (l := [(0, (.msl 2 lo0p 0 (List.length x1))), (1, (eI n1)), (2, (.fn (.func cmp2_f) cmp2_a cmp2_c)), (6, (eI aP))]) ⟨[(0, (.msl 2 lo0p 0 (List.length aA))), (1, (eI n1)), (2, (.fn (.func cmp2_f) cmp2_a cmp2_c)), (6, (eI aP))], by kernel_rfl, rfl, ⟨aL.eq (by simp [hl3]), aL.refl _, aL.refl _, aL.refl _, trivial⟩⟩ ?_
  refine aH (aF (?_))
  refine bN 2 ?_
  refine dK [(0, (.msl 2 lo0p 0 (List.length x1))), (1, (eI n1)), (2, (.fn (.func cmp2_f) cmp2_a cmp2_c)), (6, (eI aP))] ?_
  refine cQ (fun T H => ∃ aA : List aB, ∃ aP : Int, Has T [(0, (.msl 2 lo0p 0 (List.length aA))), (1, (eI n1)), (2, (.fn (.func cmp2_f) cmp2_a cmp2_c)), (6, (eI aP))] ∧ aK ⟨H0, [lo0p], []⟩ H [(lo0p, 2, List.map aE aA)] ∧ List.length aA = N0 ∧ mN cmp2 aA n1 aP = some r) ?_ ⟨x1, aP, .eq (by kernel_rfl), hO, hN, h0⟩
  clear hO hN h0
  rintro T H ⟨aA, aP, hT, hO, hN, h0⟩
  refine aY hT ?_
  clear hT
  unfold mN at h0
  obtain ⟨rr0, hl0, h0⟩ := aW h0
  refine cB (by kernel_rfl) (fun (s : List aB × Int) T H => Has T [(0, (.msl 2 lo0p 0 (List.length s.1))), (1, (eI n1)), (2, (.fn (.func cmp2_f) cmp2_a cmp2_c)), (6, (eI s.2))] ∧ aK ⟨H0, [lo0p], []⟩ H [(lo0p, 2, List.map aE s.1)] ∧ List.length s.1 = N0) hl0 ⟨.eq (by kernel_rfl), hO, hN⟩ ?_
  clear hO hN
  rintro k0 s out1 T H ⟨hT, hO, hN⟩ h1 ho0
  obtain ⟨aA, aP⟩ := s
  replace h1 : mE cmp2 n1 aA aP = some out1 := h1
  try dsimp only at hT
  refine aY hT ?_
  clear hT
  unfold mE at h1
  refine aO ?_
  refine aS aG 3 [] [(30, (aJ (decide (aP < n1))))] ?_
  refine bE h1 (fun h1 => ?_) (fun h1 => ?_)
  ·refine bG ?_
   refine bD [(0, (.msl 2 lo0p 0 (List.length aA))), (1, (eI n1)), (2, (.fn (.func cmp2_f) cmp2_a cmp2_c)), (6, (eI aP))] ?_
   refine bN 3 ?_
   refine aS aG 4 [] [(7, (eI (0 : Int))), (8, (eI (wR ((2 : Int) * aP))))] ?_
   refine dA (fun T H => ∃ aA : List aB, ∃ a7 : Int, Has T [(0, (.msl 2 lo0p 0 (List.length aA))), (1, (eI n1)), (2, (.fn (.func cmp2_f) cmp2_a cmp2_c)), (6, (eI aP)), (7, (eI a7))] ∧ aK ⟨H0, [lo0p], []⟩ H [(lo0p, 2, List.map aE aA)] ∧ List.length aA = N0 ∧ jD cmp2 aA n1 aP a7 = some out1) ?_ ?_
   ·clear hO hN h1
    rintro T H ⟨aA, a7, hT, hO, hN, h1⟩
    refine aY hT ?_
    clear hT
    unfold jD at h1
    refine dA (fun T H => ∃ aA : List aB, Has T [(0, (.msl 2 lo0p 0 (List.length aA))), (1, (eI n1)), (2, (.fn (.func cmp2_f) cmp2_a cmp2_c)), (6, (eI aP))] ∧ aK ⟨H0, [lo0p], []⟩ H [(lo0p, 2, List.map aE aA)] ∧ List.length aA = N0 ∧ lX cmp2 aA n1 aP = some out1) ?_ ?_
    ·clear hO hN h1
     rintro T H ⟨aA, hT, hO, hN, h1⟩
     refine aY hT ?_
     clear hT
     unfold lX at h1
     refine aT aG 3 ?_
     refine bC ?_
     exact aH (aU (aF (⟨rfl, _, (oI h1).symm, .eq (by kernel_rfl), hO, hN⟩)))
    refine aS aG 4 [] [(9, (eI (wR (a7 + aP))))] ?_
    refine aS aG 3 [] [(54, (aJ (decide ((wR (a7 + aP)) < n1))))] ?_
    refine bE h1 (fun h1 => ?_) (fun h1 => ?_)
    ·refine aT aG 6 ?_
     refine bI 5 ?_
     obtain ⟨x6, hx7, h1⟩ := aW h1
     refine nE [(lo0p, 2, List.map aE x6)] 0 (tS lo0p aA a7 (wR (a7 + aP)) n1 cmp2_f cmp2_a cmp2_c cmp2 cmp2_h _ hx7) hO ?_
     intro H hO hl8
     simp only [List.length_map] at hl8
     replace hN := hl8.trans hN
     refine dG ?_
     refine cA (l := [(0, (.msl 2 lo0p 0 (List.length x6))), (1, (eI n1)), (2, (.fn (.func cmp2_f) cmp2_a cmp2_c)), (6, (eI aP))]) ⟨[(0, (.msl 2 lo0p 0 (List.length aA))), (1, (eI n1)), (2, (.fn (.func cmp2_f) cmp2_a cmp2_c)), (6, (eI aP))], by kernel_rfl, rfl, ⟨aL.eq (by simp [hl8]), aL.refl _, aL.refl _, aL.refl _, trivial⟩⟩ ?_
     exact aH (aF (⟨rfl, _, .eq (by kernel_rfl), hO, hN, h1⟩))
    refine bG ?_
    exact aH (aF (⟨rfl, _, .eq (by kernel_rfl), hO, hN, h1⟩))
   refine bN 4 ?_
   refine dK [(0, (.msl 2 lo0p 0 (List.length aA))), (1, (eI n1)), (2, (.fn (.func cmp2_f) cmp2_a cmp2_c)), (6, (eI aP)), (7, (eI (0 : Int))), (8, (eI (wR ((2 : Int) * aP))))] ?_
   refine cQ (fun T H => ∃ aA : List aB, ∃ a7 : Int, ∃ b8 : Int, Has T [(0, (.msl 2 lo0p 0 (List.length aA))), (1, (eI n1)), (2, (.fn (.func cmp2_f) cmp2_a cmp2_c)), (6, (eI aP)), (7, (eI a7)), (8, (eI b8))] ∧ aK ⟨H0, [lo0p], []⟩ H [(lo0p, 2, List.map aE aA)] ∧ List.length aA = N0 ∧ mH cmp2 aA n1 aP a7 b8 = some out1) ?_ ⟨aA, (0 : Int), wR ((2 : Int) * aP), .eq (by kernel_rfl), hO, hN, h1⟩
   clear hO hN h1
   rintro T H ⟨aA, a7, b8, hT, hO, hN, h1⟩
   refine aY hT ?_
   clear hT
   unfold mH at h1
   obtain ⟨rr1, hl1, h1⟩ := aW h1
   refine cB (by kernel_rfl) (fun (s : List aB × Int × Int) T H => Has T [(0, (.msl 2 lo0p 0 (List.length s.1))), (1, (eI n1)), (2, (.fn (.func cmp2_f) cmp2_a cmp2_c)), (6, (eI aP)), (7, (eI s.2.1)), (8, (eI s.2.2))] ∧ aK ⟨H0, [lo0p], []⟩ H [(lo0p, 2, List.map aE s.1)] ∧ List.length s.1 = N0) hl1 ⟨.eq (by kernel_rfl), hO, hN⟩ ?_
   clear hO hN
   rintro k1 s out2 T H ⟨hT, hO, hN⟩ h2 ho1
   obtain ⟨aA, a7, b8⟩ := s
   replace h2 : mP cmp2 n1 aP aA a7 b8 = some out2 := h2
   try dsimp only at hT
   refine aY hT ?_
   clear hT
   unfold mP at h2
   refine aO ?_
   refine aS aG 3 [] [(35, (aJ (decide (b8 ≤ n1))))] ?_
   refine bE h2 (fun h2 => ?_) (fun h2 => ?_)
   ·refine bG ?_
    refine bD [(0, (.msl 2 lo0p 0 (List.length aA))), (1, (eI n1)), (2, (.fn (.func cmp2_f) cmp2_a cmp2_c)), (6, (eI aP)), (7, (eI a7)), (8, (eI b8))] ?_
    refine bN 5 ?_
    refine aO ?_
    refine aT aG 8 ?_
    refine bI 7 ?_
    obtain ⟨x10, hx11, h2⟩ := aW h2
    refine nE [(lo0p, 2, List.map aE x10)] 0 (tS lo0p aA a7 (wR (a7 + aP)) b8 cmp2_f cmp2_a cmp2_c cmp2 cmp2_h _ hx11) hO ?_
    intro H hO hl12
    simp only [List.length_map] at hl12
    replace hN := hl12.trans hN
    refine dG ?_
    refine cA (l := [(0, (.msl 2 lo0p 0 (List.length x10))), (1, (eI n1)), (2, (.fn (.func cmp2_f) cmp2_a cmp2_c)), (6, (eI aP)), (8, (eI b8))]) ⟨[(0, (.msl 2 lo0p 0 (List.length aA))), (1, (eI n1)), (2, (.fn (.func cmp2_f) cmp2_a cmp2_c)), (6, (eI aP)), (8, (eI b8))], by kernel_rfl, rfl, ⟨aL.eq (by simp [hl12]), aL.refl _, aL.refl _, aL.refl _, aL.refl _, trivial⟩⟩ ?_
    refine aH (aF (?_))
    refine aS aG 2 [] [(7, (eI b8))] ?_
    refine aT aG 5 ?_
    refine bC ?_
    exact aH (aU (aF (⟨rfl, _, (oI h2).symm, .eq (by kernel_rfl), hO, hN⟩)))
   refine dW 4 ?_
   obtain rfl := oI h2
   obtain rfl : _ = rr1 := ho1
   replace h1 : jD cmp2 aA n1 aP a7 = some out1 := h1
   exact aH (aR (aR (bF (aF (⟨rfl, _, _, .eq (by kernel_rfl), hO, hN, h1⟩)))))
  refine dW 2 ?_
  obtain rfl := oI h1
  obtain rfl : _ = rr0 := ho0
  replace h0 : some aA = some r := h0
  obtain rfl := oI h0
  exact aH (aR (aR (bF (rY (x := (.tup [])) (by kernel_rfl) (aL.refl _) ⟨rfl, hO.ext, hO.at 0 (by kernel_rfl), by first | rfl | (simp only [List.length_map]; exact hN.trans hN0)⟩))))
 refine bN 0 ?_
 refine dK [(0, (.msl 2 lo0p 0 (List.length aA))), (1, (eI n1)), (2, (.fn (.func cmp2_f) cmp2_a cmp2_c)), (6, (eI (20 : Int))), (7, (eI (0 : Int))), (8, (eI (20 : Int)))] ?_
 refine cQ (fun T H => ∃ aA : List aB, ∃ aP : Int, ∃ a7 : Int, ∃ b8 : Int, Has T [(0, (.msl 2 lo0p 0 (List.length aA))), (1, (eI n1)), (2, (.fn (.func cmp2_f) cmp2_a cmp2_c)), (6, (eI aP)), (7, (eI a7)), (8, (eI b8))] ∧ aK ⟨H0, [lo0p], []⟩ H [(lo0p, 2, List.map aE aA)] ∧ List.length aA = N0 ∧ mO cmp2 aA n1 aP a7 b8 = some r) ?_ ⟨aA, (20 : Int), (0 : Int), (20 : Int), .eq (by kernel_rfl), hO, hN, h0⟩
 clear hO hN h0
 rintro T H ⟨aA, aP, a7, b8, hT, hO, hN, h0⟩
 refine aY hT ?_
 clear hT
 unfold mO at h0
 obtain ⟨rr0, hl0, h0⟩ := aW h0
 refine cB (by kernel_rfl) (fun (s : List aB × Int × Int) T H => Has T [(0, (.msl 2 lo0p 0 (List.length s.1))), (1, (eI n1)), (2, (.fn (.func cmp2_f) cmp2_a cmp2_c)), (6, (eI aP)), (7, (eI s.2.1)), (8, (eI s.2.2))] ∧ aK ⟨H0, [lo0p], []⟩ H [(lo0p, 2, List.map aE s.1)] ∧ List.length s.1 = N0) hl0 ⟨.eq (by kernel_rfl), hO, hN⟩ ?_
 clear hO hN
 rintro k0 s out1 T H ⟨hT, hO, hN⟩ h1 ho0
 obtain ⟨aA, a7, b8⟩ := s
 replace h1 : lW cmp2 n1 aP aA a7 b8 = some out1 := h1
 try dsimp only at hT
 refine aY hT ?_
 clear hT
 unfold lW at h1
 refine aO ?_
 refine aS aG 3 [] [(13, (aJ (decide (b8 ≤ n1))))] ?_
 refine bE h1 (fun h1 => ?_) (fun h1 => ?_)
 ·refine bG ?_
  refine bD [(0, (.msl 2 lo0p 0 (List.length aA))), (1, (eI n1)), (2, (.fn (.func cmp2_f) cmp2_a cmp2_c)), (6, (eI aP)), (7, (eI a7)), (8, (eI b8))] ?_
  refine bN 1 ?_
  refine aO ?_
  refine aT aG 5 ?_
  refine bI 4 ?_
  obtain ⟨x14, hx15, h1⟩ := aW h1
  refine nE [(lo0p, 2, List.map aE x14)] 0 (sC lo0p aA a7 b8 cmp2_f cmp2_a cmp2_c cmp2 cmp2_h _ hx15) hO ?_
  intro H hO hl16
  simp only [List.length_map] at hl16
  replace hN := hl16.trans hN
  refine dG ?_
  refine cA (l := [(0, (.msl 2 lo0p 0 (List.length x14))), (1, (eI n1)), (2, (.fn (.func cmp2_f) cmp2_a cmp2_c)), (6, (eI aP)), (8, (eI b8))]) ⟨[(0, (.msl 2 lo0p 0 (List.length aA))), (1, (eI n1)), (2, (.fn (.func cmp2_f) cmp2_a cmp2_c)), (6, (eI aP)), (8, (eI b8))], by kernel_rfl, rfl, ⟨aL.eq (by simp [hl16]), aL.refl _, aL.refl _, aL.refl _, aL.refl _, trivial⟩⟩ ?_
  refine aH (aF (?_))
  refine aS aG 2 [] [(7, (eI b8))] ?_
  refine aT aG 4 ?_
  refine bC ?_
  exact aH (aU (aF (⟨rfl, _, (oI h1).symm, .eq (by kernel_rfl), hO, hN⟩)))
 refine dW 0 ?_
 obtain rfl := oI h1
 obtain rfl : _ = rr0 := ho0
 replace h0 : jA cmp2 aA n1 aP a7 = some r := h0
 exact aH (aR (aR (bF (aF (⟨rfl, _, _, _, .eq (by kernel_rfl), hO, hN, h0⟩)))))

theorem vY (lo0p : Nat) (x0 : (List aB)) (cmp1_f : Nat) (cmp1_a cmp1_c : List V) (cmp1 : aB → aB → Option Int) (cmp1_h : ∀ a0 a1 r, cmp1 a0 a1 = some r → cO Tryz.prog cmp1_f (cmp1_a ++ [(aE a0), (aE a1)] ++ cmp1_c) (eI r)) (r : List aB) (h0 : fD x0 cmp1 = some r) : iG Tryz.prog 56 lo0p 2 (List.map aE x0) (List.map aE r) [(.msl 2 lo0p 0 (List.length x0)), (.fn (.func cmp1_f) cmp1_a cmp1_c)] (.tup []) := by
 intro H0 hl0
 refine cP Tryz.func56 ?_
 have hO := aK.nP hl0
 clear hl0
 obtain ⟨N0, hN0⟩ : ∃ n, n = List.length x0 := ⟨_, rfl⟩
 have hN : List.length x0 = N0 := hN0.symm
 unfold fD at h0
 refine aT aG 5 ?_
 refine bI 4 ?_
 obtain ⟨x1, hx2, h0⟩ := aW h0
 refine nE [(lo0p, 2, List.map aE x1)] 0 (BQ lo0p x0 (lN x0) cmp1_f cmp1_a cmp1_c cmp1 cmp1_h _ hx2) hO ?_
 intro H hO hl3
 simp only [List.length_map] at hl3
 replace hN := hl3.trans hN
 refine dG ?_
 refine cA (l := [(0, (.msl 2 lo0p 0 (List.length x1)))]) ⟨[(0, (.msl 2 lo0p 0 (List.length x0)))], by kernel_rfl, rfl, ⟨aL.eq (by simp [hl3]), trivial⟩⟩ ?_
 obtain rfl := oI h0
 exact aH (rY (x := (.tup [])) (by kernel_rfl) (aL.refl _) ⟨rfl, hO.ext, hO.at 0 (by kernel_rfl), by simp only [List.length_map]; exact hN.trans hN0⟩)

theorem UN (a0 : aB) (b1 : aB) (r : Int) (h0 : rQ a0 b1 = some r) : cO Tryz.prog 57 [(aE a0), (aE b1)] (eI r) := by
 intro H0
 refine cP Tryz.func57 ?_
 have hO := aK.start H0
 unfold rQ at h0
 refine aO ?_
 refine aT aG 3 ?_
 refine qG 2 (aE a0) (by kernel_rfl) (by kernel_rfl) ?_
 refine qG 2 (aE b1) (by kernel_rfl) (by kernel_rfl) ?_
 refine bC ?_
 refine bD [(2, (.rp (aE a0))), (3, (.rp (aE b1)))] ?_
 refine aO ?_
 refine aT aG 6 ?_
 refine bI 4 ?_
 obtain ⟨x1, hx2, h0⟩ := aW h0
 refine dS (zU a0.At b1.At _ hx2) hO ?_
 intro H hO
 refine bC ?_
 refine bD [(4, (eI x1))] ?_
 refine bL ?_
 obtain rfl := oI h0
 exact aH (Q_r hO)

theorem NL (f0 : (List aB)) (r : ((List aB) × Int)) (h0 : vC f0 = some r) : cO Tryz.prog 58 [(eL aE f0)] (.tup [(eL aE r.1), (eI r.2)]) := by
 intro H0
 refine cP Tryz.func58 ?_
 have hO := aK.start H0
 unfold vC at h0
 refine aS aG 2 [] [] ?_
 refine aO ?_
 refine aO ?_
 refine aT aG 3 ?_
 refine bI 1 ?_
 obtain ⟨x1, hx2, h0⟩ := aW h0
 refine dS (zK f0 _ hx2) hO ?_
 intro H hO
 refine bC ?_
 refine bP [] [(6, (aJ (!x1)))] ?_
 refine bE h0 (fun h0 => ?_) (fun h0 => ?_)
 ·refine cH aG 2 [(2, (.sl true 0 (fun _ => .bad))), (3, (eI (7 : Int)))] ?_
  refine bL ?_
  refine cA (l := [(2, (eL aE ([]))), (3, (eI (7 : Int)))]) ⟨[(2, (.sl true 0 (fun _ => .bad))), (3, (eI (7 : Int)))], by kernel_rfl, rfl, ⟨kL, aL.refl _, trivial⟩⟩ ?_
  obtain rfl := oI h0
  exact aH (bB (Q_r hO))
 refine bG ?_
 refine bD [(0, (eL aE f0))] ?_
 refine cH aG 3 [(2, (eL aE f0)), (3, (eI (0 : Int)))] ?_
 refine bL ?_
 obtain rfl := oI h0
 exact aH (Q_r hO)

theorem ZM (l0 : (List aB)) (r : ((List aB) × Int)) (h0 : AF l0 = some r) : cO Tryz.prog 28 [(eL aE l0)] (.tup [(eL aE r.1), (eI r.2)]) := by
 intro H0
 refine cP Tryz.func28 ?_
 have hO := aK.start H0
 unfold AF at h0
 refine aS aG 2 [] [] ?_
 refine aO ?_
 refine aO ?_
 refine aT aG 2 ?_
 refine bI 1 ?_
 obtain ⟨x1, hx2, h0⟩ := aW h0
 refine dS (rP l0 52 [] [] (fun y0 => wU y0) (fun y0 r h => UT y0 r h) _ hx2) hO ?_
 intro H hO
 refine dG ?_
 refine bP [] [(9, (aJ x1))] ?_
 refine bE h0 (fun h0 => ?_) (fun h0 => ?_)
 ·refine cH aG 2 [(2, (.sl true 0 (fun _ => .bad))), (3, (eI (2 : Int)))] ?_
  refine bL ?_
  refine cA (l := [(2, (eL aE ([]))), (3, (eI (2 : Int)))]) ⟨[(2, (.sl true 0 (fun _ => .bad))), (3, (eI (2 : Int)))], by kernel_rfl, rfl, ⟨kL, aL.refl _, trivial⟩⟩ ?_
  obtain rfl := oI h0
  exact aH (bB (Q_r hO))
 refine bG ?_
 refine bD [(0, (eL aE l0))] ?_
 refine aO ?_
 refine aO ?_
 refine aT aG 2 ?_
 refine bI 1 ?_
 obtain ⟨x5, hx6, h0⟩ := aW h0
 refine dS (rP l0 54 [] [] (fun y0 => wQ y0) (fun y0 r h => VA y0 r h) _ hx6) hO ?_
 intro H hO
 refine dG ?_
 refine bP [] [(11, (aJ x5))] ?_
 refine bE h0 (fun h0 => ?_) (fun h0 => ?_)
 ·refine cH aG 2 [(2, (.sl true 0 (fun _ => .bad))), (3, (eI (13 : Int)))] ?_
  refine bL ?_
  refine cA (l := [(2, (eL aE ([]))), (3, (eI (13 : Int)))]) ⟨[(2, (.sl true 0 (fun _ => .bad))), (3, (eI (13 : Int)))], by kernel_rfl, rfl, ⟨kL, aL.refl _, trivial⟩⟩ ?_
  obtain rfl := oI h0
  exact aH (bB (Q_r hO))
 refine bG ?_
 refine bD [(0, (eL aE l0))] ?_
 refine aO ?_
 refine aT aG 3 ?_
 refine bI 1 ?_
 obtain ⟨x9, hx10, h0⟩ := aW h0
 refine HT (L' := fun lo11 => [(lo11, 2, List.map aE x9)]) 2 (List.map aE x9) 55 [(eL aE l0)] (fun lo11 => (.msl 2 lo11 0 (List.length x9))) (by kernel_rfl) (by kernel_rfl) (uH l0 _ hx10) hO (fun _ => by kernel_rfl) ?_
 intro lo11 H hO
 refine bC ?_
 refine bD [(4, (.msl 2 lo11 0 (List.length x9)))] ?_
 refine aO ?_
 refine aT aG 2 ?_
 refine bI 1 ?_
 obtain ⟨x12, hx13, h0⟩ := aW h0
 refine nE [(lo11, 2, List.map aE x12)] 0 (vY lo11 x9 57 [] [] (fun y0 y1 => rQ y0 y1) (fun y0 y1 r h => UN y0 y1 r h) _ hx13) hO ?_
 intro H hO hl14
 simp only [List.length_map] at hl14
 refine dG ?_
 refine cA (l := [(4, (.msl 2 lo11 0 (List.length x12)))]) ⟨[(4, (.msl 2 lo11 0 (List.length x9)))], by kernel_rfl, rfl, ⟨aL.eq (by simp [hl14]), trivial⟩⟩ ?_
 refine aH (aF (?_))
 refine aO ?_
 refine aT aG 2 ?_
 refine rX (xs := []) (k := 2) (by kernel_rfl) (by kernel_rfl) ?_
 refine bC ?_
 refine bP [] [(5, (.sl true 0 (fun _ => .bad)))] ?_
 refine dA (fun T H => ∃ out5 : List aB, ∃ lo15 : Nat, Has T [(5, (.msl 2 lo15 0 (List.length out5)))] ∧ aK ⟨H0, [], []⟩ H [(lo15, 2, List.map aE out5)] ∧ yR out5 = some r) ?_ ?_
 ·clear hO h0
  rintro T H ⟨out5, lo15, hT, hO, h0⟩
  refine aY hT ?_
  clear hT
  unfold yR at h0
  refine aO ?_
  refine aT aG 6 ?_
  refine BO (e := aE) out5 0 5 2 lo15 (List.length out5) [] (by kernel_rfl) hO (by kernel_rfl) (by kernel_rfl) (by kernel_rfl) (by kernel_rfl) ?_
  intro H hO
  refine bI 1 ?_
  obtain ⟨x16, hx17, h0⟩ := aW h0
  refine dS (NL out5 _ hx17) hO ?_
  intro H hO
  refine bC ?_
  refine bD [(2, (eL aE x16.1)), (3, (eI x16.2))] ?_
  refine bL ?_
  obtain rfl := oI h0
  exact aH (Q_r hO)
 refine aS aG 1 [] [(6, (eI (0 : Int)))] ?_
 refine bN 0 ?_
 refine dK [(4, (.msl 2 lo11 0 (List.length x12))), (5, (.sl true 0 (fun _ => .bad))), (6, (eI (0 : Int)))] ?_
 refine IK (el := (fun _ => .bad)) 1 5 2 hO (by kernel_rfl) ?_
 intro lo40 H41 hO
 refine cQ (fun T H => ∃ all4 : List aB, ∃ out5 : List aB, ∃ i6 : Int, ∃ lo21 : Nat, ∃ lo22 : Nat, Has T [(4, (.msl 2 lo21 0 (List.length all4))), (5, (.msl 2 lo22 0 (List.length out5))), (6, (eI i6))] ∧ aK ⟨H0, [], []⟩ H [(lo21, 2, List.map aE all4), (lo22, 2, List.map aE out5)] ∧ CG all4 out5 i6 = some r) ?_ ⟨x12, ([] : List aB), (0 : Int), lo11, lo40, .eq (by kernel_rfl), hO, h0⟩
 clear hO h0
 rintro T H ⟨all4, out5, i6, lo21, lo22, hT, hO, h0⟩
 refine aY hT ?_
 clear hT
 unfold CG at h0
 obtain ⟨rr0, hl0, h0⟩ := aW h0
 refine cB (by kernel_rfl) (fun (s : List aB × List aB × Int) T H => ∃ lo21 : Nat, ∃ lo22 : Nat, Has T [(4, (.msl 2 lo21 0 (List.length s.1))), (5, (.msl 2 lo22 0 (List.length s.2.1))), (6, (eI s.2.2))] ∧ aK ⟨H0, [], []⟩ H [(lo21, 2, List.map aE s.1), (lo22, 2, List.map aE s.2.1)]) hl0 ⟨lo21, lo22, .eq (by kernel_rfl), hO⟩ ?_
 clear hO
 rintro k0 s out1 T H ⟨lo21, lo22, hT, hO⟩ h1 ho0
 obtain ⟨all4, out5, i6⟩ := s
 replace h1 : qH all4 out5 i6 = some out1 := h1
 try dsimp only at hT
 refine aY hT ?_
 clear hT
 unfold qH at h1
 refine aO ?_
 refine aS aG 4 [] [(20, (aJ (decide (i6 < (lN all4)))))] ?_
 refine bE h1 (fun h1 => ?_) (fun h1 => ?_)
 ·refine bG ?_
  refine bD [(4, (.msl 2 lo21 0 (List.length all4))), (5, (.msl 2 lo22 0 (List.length out5))), (6, (eI i6))] ?_
  refine bN 1 ?_
  refine aO ?_
  refine aT aG 8 ?_
  obtain ⟨c24, h1⟩ := aX h1
  refine BC 4 [0 ≤ i6 ∧ i6 < (lN all4)] ⟨c24, trivial⟩ ?_
  refine uC 0 lo21 2 (0 + Int.toNat i6) (aE (gD all4 i6)) (eI ((gD all4 i6).At)) (List.map aE all4) hO (bJ c24) ?_
  refine bI 6 ?_
  refine tE 2 (aE (aB.mk 0 0)) (by kernel_rfl) (by kernel_rfl) hO ?_
  intro lo25 H hO
  refine rK 2 lo25 2 0 (aE (aB.mk 0 0)) (aE (aB.mk ((gD all4 i6).At) 0)) [(aE (aB.mk 0 0))] [(lo21, 2, List.map aE all4), (lo22, 2, List.map aE out5), (lo25, 2, [(aE (aB.mk ((gD all4 i6).At) 0))])] hO rfl (by kernel_rfl) ?_
  intro H hO
  refine dG ?_
  refine bP [] [(7, (.lp lo25 0 0))] ?_
  refine dA (fun T H => ∃ all4 : List aB, ∃ out5 : List aB, ∃ i6 : Int, ∃ j7 : aB, ∃ lo26 : Nat, ∃ lo27 : Nat, Has T [(4, (.msl 2 lo26 0 (List.length all4))), (5, (.msl 2 lo27 0 (List.length out5))), (6, (eI i6)), (7, (.lp lo25 0 0))] ∧ aK ⟨H0, [], []⟩ H [(lo26, 2, List.map aE all4), (lo27, 2, List.map aE out5), (lo25, 2, [(aE j7)])] ∧ yV all4 out5 i6 j7 = some out1) ?_ ?_
  ·clear hO h1
   rintro T H ⟨all4, out5, i6, j7, lo26, lo27, hT, hO, h1⟩
   refine aY hT ?_
   clear hT
   unfold yV at h1
   refine aO ?_
   refine aT aG 8 ?_
   refine bI 1 ?_
   refine uC 2 lo25 2 0 (aE j7) (eI j7.Net) [(aE j7)] hO rfl ?_
   refine bI 5 ?_
   refine DF [(55, true)] 2 lo25 2 0 (aE j7) (eI j7.At) [(aE j7)] (by kernel_rfl) (by kernel_rfl) hO (by kernel_rfl) (!decide (j7.Net = (0 : Int))) (by kernel_rfl) (fun hb28 => rfl) ?_
   refine bC ?_
   refine bP [] [(59, (aJ ((!decide (j7.Net = (0 : Int))) && (decide (j7.At < (1125899906842624 : Int))))))] ?_
   refine bE h1 (fun h1 => ?_) (fun h1 => ?_)
   ·refine aT aG 5 ?_
    refine bI 1 ?_
    refine uC 2 lo25 2 0 (aE j7) (aE j7) [(aE j7)] hO rfl ?_
    refine rX (xs := [(aE j7)]) (k := 2) (by kernel_rfl) (by kernel_rfl) ?_
    obtain ⟨c31, h1⟩ := aX h1
    refine zP (e := aE) out5 ([j7]) 1 lo27 2 16 (kD [(aE j7)]) (fun lo30 => [(lo26, 2, List.map aE all4), (lo30, 2, List.map aE (out5 ++ ([j7]))), (lo25, 2, [(aE j7)])]) (by kernel_rfl) (by kernel_rfl) hO (by kernel_rfl) (by kernel_rfl) c31 (fun _ => by kernel_rfl) ?_
    intro lo30 H hO
    refine bC ?_
    replace hO := hO.pick (L' := [(lo26, 2, List.map aE all4), (lo30, 2, List.map aE (out5 ++ ([j7])))]) [0, 1] (by decide) (by kernel_rfl)
    exact aH (aU (aF (⟨rfl, _, (oI h1).symm, _, _, .eq (by kernel_rfl), hO⟩)))
   refine bG ?_
   replace hO := hO.pick (L' := [(lo26, 2, List.map aE all4), (lo27, 2, List.map aE out5)]) [0, 1] (by decide) (by kernel_rfl)
   exact aH (aU (aF (⟨rfl, _, (oI h1).symm, _, _, .eq (by kernel_rfl), hO⟩)))
  refine bN 2 ?_
  refine dK [(4, (.msl 2 lo21 0 (List.length all4))), (5, (.msl 2 lo22 0 (List.length out5))), (6, (eI i6)), (7, (.lp lo25 0 0))] ?_
  refine cQ (fun T H => ∃ all4 : List aB, ∃ out5 : List aB, ∃ i6 : Int, ∃ j7 : aB, ∃ lo34 : Nat, ∃ lo35 : Nat, Has T [(4, (.msl 2 lo34 0 (List.length all4))), (5, (.msl 2 lo35 0 (List.length out5))), (6, (eI i6)), (7, (.lp lo25 0 0))] ∧ aK ⟨H0, [], []⟩ H [(lo34, 2, List.map aE all4), (lo35, 2, List.map aE out5), (lo25, 2, [(aE j7)])] ∧ CY all4 out5 i6 j7 = some out1) ?_ ⟨all4, out5, i6, aB.mk ((gD all4 i6).At) 0, lo21, lo22, .eq (by kernel_rfl), hO, h1⟩
  clear hO h1
  rintro T H ⟨all4, out5, i6, j7, lo34, lo35, hT, hO, h1⟩
  refine aY hT ?_
  clear hT
  unfold CY at h1
  obtain ⟨rr1, hl1, h1⟩ := aW h1
  refine cB (by kernel_rfl) (fun (s : List aB × List aB × Int × aB) T H => ∃ lo34 : Nat, ∃ lo35 : Nat, Has T [(4, (.msl 2 lo34 0 (List.length s.1))), (5, (.msl 2 lo35 0 (List.length s.2.1))), (6, (eI s.2.2.1)), (7, (.lp lo25 0 0))] ∧ aK ⟨H0, [], []⟩ H [(lo34, 2, List.map aE s.1), (lo35, 2, List.map aE s.2.1), (lo25, 2, [(aE s.2.2.2)])]) hl1 ⟨lo34, lo35, .eq (by kernel_rfl), hO⟩ ?_
  clear hO
  rintro k1 s out2 T H ⟨lo34, lo35, hT, hO⟩ h2 ho1
  obtain ⟨all4, out5, i6, j7⟩ := s
  replace h2 : oC all4 out5 i6 j7 = some out2 := h2
  try dsimp only at hT
  refine aY hT ?_
  clear hT
  unfold oC at h2
  refine aO ?_
  refine aO ?_
  obtain ⟨c36, h2⟩ := aX h2
  refine eR (eP []) aG 14 ?_
  refine uF (K := fun T H => Has (lift T) [(4, (.msl 2 lo34 0 (List.length all4))), (5, (.msl 2 lo35 0 (List.length out5))), (6, (eI i6)), (7, (.lp lo25 0 0)), (40, (aJ ((decide (i6 < (lN all4))) && (decide (((gD all4 i6).At) = j7.At)))))] ∧ aK ⟨H0, [], []⟩ H [(lo34, 2, List.map aE all4), (lo35, 2, List.map aE out5), (lo25, 2, [(aE j7)])]) ?_ ?_
  ·refine qV 5 ?_
   refine sE (t := 31) (e := decide (i6 < (lN all4))) (by kernel_rfl) (fun hg37 => ?_) (fun hg37 => ?_)
   ·refine bQ 9 [0 ≤ i6 ∧ i6 < (lN all4)] ⟨(c36 hg37), trivial⟩ ?_
    refine jH 0 lo34 2 (0 + Int.toNat i6) (aE (gD all4 i6)) (eI ((gD all4 i6).At)) (List.map aE all4) (by kernel_rfl) (by kernel_rfl) (by kernel_rfl) hO (by kernel_rfl) (bJ (c36 hg37)) ?_
    refine qV 11 ?_
    refine jH 2 lo25 2 0 (aE j7) (eI j7.At) [(aE j7)] (by kernel_rfl) (by kernel_rfl) (by kernel_rfl) hO (by kernel_rfl) rfl ?_
    refine jI ?_
    exact ⟨⟨[(4, (.msl 2 lo34 0 (List.length all4))), (5, (.msl 2 lo35 0 (List.length out5))), (6, (eI i6)), (7, (.lp lo25 0 0)), (40, (aJ (decide (((gD all4 i6).At) = j7.At))))], by kernel_rfl, rfl, ⟨aL.refl _, aL.refl _, aL.refl _, aL.refl _, aL.eq (congrArg aJ (qD hg37 rfl).symm), trivial⟩⟩, hO⟩
   refine jI ?_
   exact ⟨⟨[(4, (.msl 2 lo34 0 (List.length all4))), (5, (.msl 2 lo35 0 (List.length out5))), (6, (eI i6)), (7, (.lp lo25 0 0)), (40, (aJ false))], by kernel_rfl, rfl, ⟨aL.refl _, aL.refl _, aL.refl _, aL.refl _, aL.eq (congrArg aJ (qD hg37 rfl).symm), trivial⟩⟩, hO⟩
  ·rintro T H ⟨hT, hO⟩
   refine cA hT ?_
   clear hT
   refine aH (aF ?_)
   refine bE h2 (fun h2 => ?_) (fun h2 => ?_)
   ·refine bG ?_
    refine bD [(4, (.msl 2 lo34 0 (List.length all4))), (5, (.msl 2 lo35 0 (List.length out5))), (6, (eI i6)), (7, (.lp lo25 0 0))] ?_
    refine aO ?_
    refine bN 3 ?_
    refine eR (eP []) aG 10 ?_
    refine qV 1 ?_
    refine dN 2 lo25 2 0 (aE j7) (eI j7.Net) [(aE j7)] hO rfl ?_
    obtain ⟨c39, h2⟩ := aX h2
    refine bQ 6 [0 ≤ i6 ∧ i6 < (lN all4)] ⟨c39, trivial⟩ ?_
    refine dN 0 lo34 2 (0 + Int.toNat i6) (aE (gD all4 i6)) (eI ((gD all4 i6).Net)) (List.map aE all4) hO (bJ c39) ?_
    refine qV 9 ?_
    refine iD 2 lo25 2 0 (aE j7) (aE (aB.mk j7.At (wR (j7.Net + ((gD all4 i6).Net))))) [(aE j7)] [(lo34, 2, List.map aE all4), (lo35, 2, List.map aE out5), (lo25, 2, [(aE (aB.mk j7.At (wR (j7.Net + ((gD all4 i6).Net)))))])] hO rfl (by kernel_rfl) ?_
    intro H hO
    refine nU (by kernel_rfl) ?_
    refine gV [(4, (.msl 2 lo34 0 (List.length all4))), (5, (.msl 2 lo35 0 (List.length out5))), (6, (eI i6)), (7, (.lp lo25 0 0))] ?_
    refine aH (aU (aF (?_)))
    refine aT aG 3 ?_
    refine bC ?_
    exact aH (aF (⟨rfl, _, (oI h2).symm, _, _, .eq (by kernel_rfl), hO⟩))
   refine dW 2 ?_
   obtain rfl := oI h2
   obtain rfl : _ = rr1 := ho1
   replace h1 : yV all4 out5 i6 j7 = some out1 := h1
   exact aH (aR (aR (bF (aF (⟨rfl, _, _, _, _, _, _, .eq (by kernel_rfl), hO, h1⟩)))))
 refine dW 0 ?_
 replace hO := hO.pick (L' := [(lo22, 2, List.map aE out5)]) [1] (by decide) (by kernel_rfl)
 obtain rfl := oI h1
 obtain rfl : _ = rr0 := ho0
 replace h0 : yR out5 = some r := h0
 exact aH (aR (aR (bF (aF (⟨rfl, _, _, .eq (by kernel_rfl), hO, h0⟩)))))

theorem UR (f0 : (List aB)) (r : ((List aB) × Int)) (h0 : wN f0 = some r) : cO Tryz.prog 27 [(eL aE f0)] (.tup [(eL aE r.1), (eI r.2)]) := by
 intro H0
 refine cP Tryz.func27 ?_
 have hO := aK.start H0
 unfold wN at h0
 refine aS aG 2 [] [] ?_
 refine aO ?_
 refine aT aG 6 ?_
 refine bI 1 ?_
 obtain ⟨x1, hx2, h0⟩ := aW h0
 refine dS (ZM f0 _ hx2) hO ?_
 intro H hO
 refine bC ?_
 refine bD [(2, (eL aE x1.1)), (3, (eI x1.2))] ?_
 refine bL ?_
 obtain rfl := oI h0
 exact aH (Q_r hO)

theorem NV (l0 : (List aC)) (r : ((List aC) × Int)) (h0 : xL l0 = some r) : cO Tryz.prog 7 [(eL aD l0)] (.tup [(eL aD r.1), (eI r.2)]) := by
 intro H0
 refine cP Tryz.func7 ?_
 have hO := aK.start H0
 unfold xL at h0
 refine aS aG 2 [] [] ?_
 refine aO ?_
 refine aO ?_
 refine aT aG 2 ?_
 refine bI 1 ?_
 obtain ⟨x1, hx2, h0⟩ := aW h0
 refine dS (rU l0 17 [] [] (fun y0 => wZ y0) (fun y0 r h => UU y0 r h) _ hx2) hO ?_
 intro H hO
 refine dG ?_
 refine bP [] [(6, (aJ x1))] ?_
 refine bE h0 (fun h0 => ?_) (fun h0 => ?_)
 ·refine cH aG 2 [(2, (.sl true 0 (fun _ => .bad))), (3, (eI (2 : Int)))] ?_
  refine bL ?_
  refine cA (l := [(2, (eL aD ([]))), (3, (eI (2 : Int)))]) ⟨[(2, (.sl true 0 (fun _ => .bad))), (3, (eI (2 : Int)))], by kernel_rfl, rfl, ⟨kL, aL.refl _, trivial⟩⟩ ?_
  obtain rfl := oI h0
  exact aH (bB (Q_r hO))
 refine bG ?_
 refine bD [(0, (eL aD l0))] ?_
 refine aO ?_
 refine aO ?_
 refine aT aG 2 ?_
 refine bI 1 ?_
 obtain ⟨x5, hx6, h0⟩ := aW h0
 refine dS (rU l0 19 [] [] (fun y0 => wT y0) (fun y0 r h => UL y0 r h) _ hx6) hO ?_
 intro H hO
 refine dG ?_
 refine bP [] [(8, (aJ x5))] ?_
 refine bE h0 (fun h0 => ?_) (fun h0 => ?_)
 ·refine cH aG 2 [(2, (.sl true 0 (fun _ => .bad))), (3, (eI (13 : Int)))] ?_
  refine bL ?_
  refine cA (l := [(2, (eL aD ([]))), (3, (eI (13 : Int)))]) ⟨[(2, (.sl true 0 (fun _ => .bad))), (3, (eI (13 : Int)))], by kernel_rfl, rfl, ⟨kL, aL.refl _, trivial⟩⟩ ?_
  obtain rfl := oI h0
  exact aH (bB (Q_r hO))
 refine bG ?_
 refine bD [(0, (eL aD l0))] ?_
 refine aO ?_
 refine aT aG 3 ?_
 refine bI 1 ?_
 obtain ⟨x9, hx10, h0⟩ := aW h0
 refine HT (L' := fun lo11 => [(lo11, 3, List.map aD x9)]) 3 (List.map aD x9) 20 [(eL aD l0)] (fun lo11 => (.msl 3 lo11 0 (List.length x9))) (by kernel_rfl) (by kernel_rfl) (BI l0 _ hx10) hO (fun _ => by kernel_rfl) ?_
 intro lo11 H hO
 refine bC ?_
 refine bD [(4, (.msl 3 lo11 0 (List.length x9)))] ?_
 refine aO ?_
 refine aT aG 2 ?_
 refine bI 1 ?_
 obtain ⟨x12, hx13, h0⟩ := aW h0
 refine nE [(lo11, 3, List.map aD x12)] 0 (vX lo11 x9 22 [] [] (fun y0 y1 => rS y0 y1) (fun y0 y1 r h => US y0 y1 r h) _ hx13) hO ?_
 intro H hO hl14
 simp only [List.length_map] at hl14
 refine dG ?_
 refine cA (l := [(4, (.msl 3 lo11 0 (List.length x12)))]) ⟨[(4, (.msl 3 lo11 0 (List.length x9)))], by kernel_rfl, rfl, ⟨aL.eq (by simp [hl14]), trivial⟩⟩ ?_
 refine aH (aF (?_))
 refine aO ?_
 refine aT aG 6 ?_
 refine BO (e := aD) x12 0 4 3 lo11 (List.length x12) [] (by kernel_rfl) hO (by kernel_rfl) (by kernel_rfl) (by kernel_rfl) (by kernel_rfl) ?_
 intro H hO
 refine bI 1 ?_
 obtain ⟨x15, hx16, h0⟩ := aW h0
 refine dS (KF x12 27 [] [] (fun y0 => wN y0) (fun y0 r h => UR y0 r h) _ hx16) hO ?_
 intro H hO
 refine bC ?_
 refine bD [(2, (eL aD x15.1)), (3, (eI x15.2))] ?_
 refine bL ?_
 obtain rfl := oI h0
 exact aH (Q_r hO)

theorem aAZ (l0 : (List aC)) (by1_f : Nat) (by1_a by1_c : List V) (by1 : (List aB) → Option ((List aB) × Int)) (by1_h : ∀ a0 r, by1 a0 = some r → cO Tryz.prog by1_f (by1_a ++ [(eL aE a0)] ++ by1_c) (.tup [(eL aE r.1), (eI r.2)])) (r : ((List aC) × Int)) (h0 : CA l0 by1 = some r) : cO Tryz.prog 29 [(eL aD l0), (.fn (.func by1_f) by1_a by1_c)] (.tup [(eL aD r.1), (eI r.2)]) := by
 intro H0
 refine cP Tryz.func29 ?_
 have hO := aK.start H0
 unfold CA at h0
 refine aS aG 2 [] [] ?_
 refine aO ?_
 refine aO ?_
 refine aT aG 3 ?_
 refine bI 1 ?_
 obtain ⟨x1, hx2, h0⟩ := aW h0
 refine dS (CC l0 _ hx2) hO ?_
 intro H hO
 refine bC ?_
 refine bP [] [(8, (aJ (!x1)))] ?_
 refine bE h0 (fun h0 => ?_) (fun h0 => ?_)
 ·refine cH aG 2 [(4, (.sl true 0 (fun _ => .bad))), (5, (eI (2 : Int)))] ?_
  refine bL ?_
  refine cA (l := [(4, (eL aD ([]))), (5, (eI (2 : Int)))]) ⟨[(4, (.sl true 0 (fun _ => .bad))), (5, (eI (2 : Int)))], by kernel_rfl, rfl, ⟨kL, aL.refl _, trivial⟩⟩ ?_
  obtain rfl := oI h0
  exact aH (bB (Q_r hO))
 refine bG ?_
 refine bD [(0, (eL aD l0)), (1, (.fn (.func by1_f) by1_a by1_c))] ?_
 refine aO ?_
 refine aT aG 7 ?_
 refine bI 2 ?_
 obtain ⟨x5, hx6, h0⟩ := aW h0
 refine dS (KF l0 by1_f by1_a by1_c by1 by1_h _ hx6) hO ?_
 intro H hO
 refine bC ?_
 refine bD [(4, (eL aD x5.1)), (5, (eI x5.2))] ?_
 refine bL ?_
 obtain rfl := oI h0
 exact aH (Q_r hO)

theorem ZC (f0 : (List aB)) (t1 : Int) (r : ((List aB) × Int)) (h0 : yH f0 t1 = some r) : cO Tryz.prog 31 [(eL aE f0), (eI t1)] (.tup [(eL aE r.1), (eI r.2)]) := by
 intro H0
 refine cP Tryz.func31 ?_
 have hO := aK.start H0
 unfold yH at h0
 refine aS aG 2 [] [] ?_
 refine aO ?_
 refine aO ?_
 refine aT aG 3 ?_
 refine bI 1 ?_
 obtain ⟨x1, hx2, h0⟩ := aW h0
 refine dS (zK f0 _ hx2) hO ?_
 intro H hO
 refine bC ?_
 refine bP [] [(12, (aJ (!x1)))] ?_
 refine bE h0 (fun h0 => ?_) (fun h0 => ?_)
 ·refine cH aG 2 [(4, (.sl true 0 (fun _ => .bad))), (5, (eI (2 : Int)))] ?_
  refine bL ?_
  refine cA (l := [(4, (eL aE ([]))), (5, (eI (2 : Int)))]) ⟨[(4, (.sl true 0 (fun _ => .bad))), (5, (eI (2 : Int)))], by kernel_rfl, rfl, ⟨kL, aL.refl _, trivial⟩⟩ ?_
  obtain rfl := oI h0
  exact aH (bB (Q_r hO))
 refine bG ?_
 refine bD [(0, (eL aE f0)), (1, (eI t1))] ?_
 refine aO ?_
 refine aS aG 2 [] [(14, (aJ (decide ((1125899906842624 : Int) ≤ t1))))] ?_
 refine bE h0 (fun h0 => ?_) (fun h0 => ?_)
 ·refine aO ?_
  refine aT aG 4 ?_
  refine bI 1 ?_
  obtain ⟨x6, hx7, h0⟩ := aW h0
  refine HT (L' := fun lo8 => [(lo8, 2, List.map aE x6)]) 2 (List.map aE x6) 55 [(eL aE f0)] (fun lo8 => (.msl 2 lo8 0 (List.length x6))) (by kernel_rfl) (by kernel_rfl) (uH f0 _ hx7) hO (fun _ => by kernel_rfl) ?_
  intro lo8 H hO
  refine bC ?_
  refine bD [(4, (.msl 2 lo8 0 (List.length x6))), (5, (eI (0 : Int)))] ?_
  refine bL ?_
  refine gV [(4, (.msl 2 lo8 0 (List.length x6))), (5, (eI (0 : Int)))] ?_
  refine BM (en := aE) x6 0 0 4 2 lo8 (List.length x6) hO (by kernel_rfl) (by kernel_rfl) (by kernel_rfl) (L' := []) (by kernel_rfl) ?_
  intro H9 hO
  obtain rfl := oI h0
  exact aH (bB (Q_r hO))
 refine bG ?_
 refine bD [(0, (eL aE f0)), (1, (eI t1))] ?_
 refine aO ?_
 refine aT aG 3 ?_
 refine rX (xs := []) (k := 2) (by kernel_rfl) (by kernel_rfl) ?_
 refine bC ?_
 refine bP [] [(6, (.sl true 0 (fun _ => .bad))), (7, (eI (0 : Int)))] ?_
 refine dA (fun T H => ∃ out6 : List aB, ∃ v7 : Int, ∃ lo10 : Nat, Has T [(1, (eI t1)), (6, (.msl 2 lo10 0 (List.length out6))), (7, (eI v7))] ∧ aK ⟨H0, [], []⟩ H [(lo10, 2, List.map aE out6)] ∧ uS t1 out6 v7 = some r) ?_ ?_
 ·clear hO h0
  rintro T H ⟨out6, v7, lo10, hT, hO, h0⟩
  refine aY hT ?_
  clear hT
  unfold uS at h0
  refine dA (fun T H => ∃ out6 : List aB, ∃ lo11 : Nat, Has T [(6, (.msl 2 lo11 0 (List.length out6)))] ∧ aK ⟨H0, [], []⟩ H [(lo11, 2, List.map aE out6)] ∧ wS out6 = some r) ?_ ?_
  ·clear hO h0
   rintro T H ⟨out6, lo11, hT, hO, h0⟩
   refine aY hT ?_
   clear hT
   unfold wS at h0
   refine aO ?_
   refine aT aG 6 ?_
   refine BO (e := aE) out6 0 6 2 lo11 (List.length out6) [] (by kernel_rfl) hO (by kernel_rfl) (by kernel_rfl) (by kernel_rfl) (by kernel_rfl) ?_
   intro H hO
   refine bI 1 ?_
   obtain ⟨x12, hx13, h0⟩ := aW h0
   refine dS (NL out6 _ hx13) hO ?_
   intro H hO
   refine bC ?_
   refine bD [(4, (eL aE x12.1)), (5, (eI x12.2))] ?_
   refine bL ?_
   obtain rfl := oI h0
   exact aH (Q_r hO)
  refine aS aG 2 [] [(38, (aJ (!decide (v7 = (0 : Int)))))] ?_
  refine bE h0 (fun h0 => ?_) (fun h0 => ?_)
  ·refine aT aG 8 ?_
   refine bI 5 ?_
   refine rX (xs := [(aE (aB.mk t1 (wR (0 - v7))))]) (k := 2) (by kernel_rfl) (by kernel_rfl) ?_
   obtain ⟨c17, h0⟩ := aX h0
   refine zP (e := aE) out6 ([aB.mk t1 (wR (0 - v7))]) 0 lo10 2 16 (kD [(aE (aB.mk t1 (wR (0 - v7))))]) (fun lo16 => [(lo16, 2, List.map aE (out6 ++ ([aB.mk t1 (wR (0 - v7))])))]) (by kernel_rfl) (by kernel_rfl) hO (by kernel_rfl) (by kernel_rfl) c17 (fun _ => by kernel_rfl) ?_
   intro lo16 H hO
   refine bC ?_
   exact aH (aF (⟨rfl, _, _, .eq (by kernel_rfl), hO, h0⟩))
  refine bG ?_
  exact aH (aF (⟨rfl, _, _, .eq (by kernel_rfl), hO, h0⟩))
 refine aS aG 3 [0] [(18, (eL aE f0)), (19, (eI (lN f0))), (20, (eI (0 : Int)))] ?_
 refine bN 0 ?_
 refine dK [(1, (eI t1)), (6, (.sl true 0 (fun _ => .bad))), (7, (eI (0 : Int))), (18, (eL aE f0)), (19, (eI (lN f0))), (20, (eI (0 : Int)))] ?_
 refine IK (el := (fun _ => .bad)) 1 6 2 hO (by kernel_rfl) ?_
 intro lo26 H27 hO
 refine cQ (fun T H => ∃ out6 : List aB, ∃ v7 : Int, ∃ t18 : (List aB), ∃ t19 : Int, ∃ t20 : Int, ∃ lo19 : Nat, Has T [(1, (eI t1)), (6, (.msl 2 lo19 0 (List.length out6))), (7, (eI v7)), (18, (eL aE t18)), (19, (eI t19)), (20, (eI t20))] ∧ aK ⟨H0, [], []⟩ H [(lo19, 2, List.map aE out6)] ∧ AW t1 out6 v7 t18 t19 t20 = some r) ?_ ⟨([] : List aB), (0 : Int), f0, (lN f0), (0 : Int), lo26, .eq (by kernel_rfl), hO, h0⟩
 clear hO h0
 rintro T H ⟨out6, v7, t18, t19, t20, lo19, hT, hO, h0⟩
 refine aY hT ?_
 clear hT
 unfold AW at h0
 obtain ⟨rr0, hl0, h0⟩ := aW h0
 refine cB (by kernel_rfl) (fun (s : List aB × Int × Int) T H => ∃ lo19 : Nat, Has T [(1, (eI t1)), (6, (.msl 2 lo19 0 (List.length s.1))), (7, (eI s.2.1)), (18, (eL aE t18)), (19, (eI t19)), (20, (eI s.2.2))] ∧ aK ⟨H0, [], []⟩ H [(lo19, 2, List.map aE s.1)]) hl0 ⟨lo19, .eq (by kernel_rfl), hO⟩ ?_
 clear hO
 rintro k0 s out1 T H ⟨lo19, hT, hO⟩ h1 ho0
 obtain ⟨out6, v7, t20⟩ := s
 replace h1 : oK t1 t18 t19 out6 v7 t20 = some out1 := h1
 try dsimp only at hT
 refine aY hT ?_
 clear hT
 unfold oK at h1
 refine aS aG 1 [] [(21, (aJ (decide (t20 < t19))))] ?_
 refine aO ?_
 refine bE h1 (fun h1 => ?_) (fun h1 => ?_)
 ·refine bG ?_
  refine bD [(1, (eI t1)), (6, (.msl 2 lo19 0 (List.length out6))), (7, (eI v7)), (18, (eL aE t18)), (19, (eI t19)), (20, (eI t20))] ?_
  refine aO ?_
  refine bN 1 ?_
  refine aO ?_
  refine aT aG 4 ?_
  obtain ⟨c21, h1⟩ := aX h1
  refine BC 2 [0 ≤ t20 ∧ t20 < (lN t18)] ⟨c21, trivial⟩ ?_
  refine tE 2 (aE (aB.mk 0 0)) (by kernel_rfl) (by kernel_rfl) hO ?_
  intro lo22 H hO
  refine rK 1 lo22 2 0 (aE (aB.mk 0 0)) (aE (gD t18 t20)) [(aE (aB.mk 0 0))] [(lo19, 2, List.map aE out6), (lo22, 2, [(aE (gD t18 t20))])] hO rfl (by kernel_rfl) ?_
  intro H hO
  refine dG ?_
  refine bP [] [(9, (.lp lo22 0 0))] ?_
  refine aO ?_
  refine aO ?_
  refine aT aG 4 ?_
  refine bI 1 ?_
  refine uC 1 lo22 2 0 (aE (gD t18 t20)) (eI ((gD t18 t20).At)) [(aE (gD t18 t20))] hO rfl ?_
  refine bC ?_
  refine bP [] [(27, (aJ (decide (t1 ≤ ((gD t18 t20).At)))))] ?_
  refine bE h1 (fun h1 => ?_) (fun h1 => ?_)
  ·refine dW 0 ?_
   replace hO := hO.pick (L' := [(lo19, 2, List.map aE out6)]) [0] (by decide) (by kernel_rfl)
   obtain rfl := oI h1
   obtain rfl : _ = rr0 := ho0
   replace h0 : uS t1 out6 v7 = some r := h0
   exact aH (aR (vF (by kernel_rfl) (aR (aR (bF (aF (⟨rfl, _, _, _, .eq (by kernel_rfl), hO, h0⟩)))))))
  refine bG ?_
  refine bD [(1, (eI t1)), (6, (.msl 2 lo19 0 (List.length out6))), (7, (eI v7)), (9, (.lp lo22 0 0)), (18, (eL aE t18)), (19, (eI t19)), (20, (eI t20))] ?_
  refine aO ?_
  refine aT aG 5 ?_
  refine bI 1 ?_
  refine uC 1 lo22 2 0 (aE (gD t18 t20)) (aE (gD t18 t20)) [(aE (gD t18 t20))] hO rfl ?_
  refine rX (xs := [(aE (gD t18 t20))]) (k := 2) (by kernel_rfl) (by kernel_rfl) ?_
  obtain ⟨c25, h1⟩ := aX h1
  refine zP (e := aE) out6 ([gD t18 t20]) 0 lo19 2 16 (kD [(aE (gD t18 t20))]) (fun lo24 => [(lo24, 2, List.map aE (out6 ++ ([gD t18 t20]))), (lo22, 2, [(aE (gD t18 t20))])]) (by kernel_rfl) (by kernel_rfl) hO (by kernel_rfl) (by kernel_rfl) c25 (fun _ => by kernel_rfl) ?_
  intro lo24 H hO
  refine bC ?_
  refine bP [6] [(6, (.msl 2 lo24 0 (List.length (out6 ++ ([gD t18 t20])))))] ?_
  refine aT aG 5 ?_
  refine bI 2 ?_
  refine uC 1 lo22 2 0 (aE (gD t18 t20)) (eI ((gD t18 t20).Net)) [(aE (gD t18 t20))] hO rfl ?_
  refine bC ?_
  refine gV [(1, (eI t1)), (6, (.msl 2 lo24 0 (List.length (out6 ++ ([gD t18 t20]))))), (7, (eI (wR (v7 + ((gD t18 t20).Net))))), (18, (eL aE t18)), (19, (eI t19)), (20, (eI t20))] ?_
  replace hO := hO.pick (L' := [(lo24, 2, List.map aE (out6 ++ ([gD t18 t20])))]) [0] (by decide) (by kernel_rfl)
  refine aH (aU (aF (?_)))
  refine aT aG 2 ?_
  refine bC ?_
  exact aH (aF (⟨rfl, _, (oI h1).symm, _, .eq (by kernel_rfl), hO⟩))
 refine dW 0 ?_
 obtain rfl := oI h1
 obtain rfl : _ = rr0 := ho0
 replace h0 : uS t1 out6 v7 = some r := h0
 exact aH (aR (aR (bF (aF (⟨rfl, _, _, _, .eq (by kernel_rfl), hO, h0⟩)))))

theorem SL (f0 : (List aB)) (t1 : Int) (r : ((List aB) × Int)) (h0 : tY f0 t1 = some r) : cO Tryz.prog 30 [(eL aE f0), (.rp (eI t1))] (.tup [(eL aE r.1), (eI r.2)]) := by
 intro H0
 refine cP Tryz.func30 ?_
 have hO := aK.start H0
 unfold tY at h0
 refine aS aG 2 [] [] ?_
 refine aO ?_
 refine aT aG 7 ?_
 refine bI 2 ?_
 obtain ⟨x1, hx2, h0⟩ := aW h0
 refine dS (ZC f0 t1 _ hx2) hO ?_
 intro H hO
 refine bC ?_
 refine bD [(3, (eL aE x1.1)), (4, (eI x1.2))] ?_
 refine bL ?_
 obtain rfl := oI h0
 exact aH (Q_r hO)

theorem WK (l0 : (List aC)) (t1 : Int) (r : ((List aC) × Int)) (h0 : yJ l0 t1 = some r) : cO Tryz.prog 8 [(eL aD l0), (eI t1)] (.tup [(eL aD r.1), (eI r.2)]) := by
 intro H0
 refine cP Tryz.func8 ?_
 have hO := aK.start H0
 unfold yJ at h0
 refine aO ?_
 refine aT aG 3 ?_
 refine qG 1 (eI t1) (by kernel_rfl) (by kernel_rfl) ?_
 refine bC ?_
 refine bP [1] [(3, (.rp (eI t1)))] ?_
 refine aO ?_
 refine aT aG 7 ?_
 refine bI 2 ?_
 obtain ⟨x1, hx2, h0⟩ := aW h0
 refine dS (aAZ l0 30 [] [(.rp (eI t1))] (fun y0 => tY y0 t1) (fun y0 r h => SL y0 t1 r h) _ hx2) hO ?_
 intro H hO
 refine bC ?_
 refine bD [(4, (eL aD x1.1)), (5, (eI x1.2))] ?_
 refine bL ?_
 obtain rfl := oI h0
 exact aH (Q_r hO)

theorem BR (n1 : Int) (r : (List aC)) (h0 : jM n1 = some r) : CM Tryz.prog 60 [(.sl true 0 (fun _ => .bad)), (eI n1)] (fun lo => (.msl 3 lo 0 (List.length r))) 3 (List.map aD r) := by
 intro H0
 refine cP Tryz.func60 ?_
 have hO := aK.start H0
 unfold jM at h0
 refine aS aG 1 [] [] ?_
 refine aO ?_
 refine aS aG 2 [] [(6, (aJ (decide (n1 < (0 : Int)))))] ?_
 refine bE h0 (fun h0 => ?_) (fun h0 => ?_)
 ·cases h0
 refine bG ?_
 refine bD [(0, (.sl true 0 (fun _ => .bad))), (1, (eI n1))] ?_
 refine dA (fun T H => ∃ s0 : List aC, ∃ lo2 : Nat, Has T [(0, (.msl 3 lo2 0 (List.length s0)))] ∧ aK ⟨H0, [], []⟩ H [(lo2, 3, List.map aD s0)] ∧ lV s0 = some r) ?_ ?_
 ·clear hO h0
  rintro T H ⟨s0, lo2, hT, hO, h0⟩
  refine aY hT ?_
  clear hT
  unfold lV at h0
  refine cH aG 2 [(4, (.msl 3 lo2 0 (List.length s0)))] ?_
  refine bL ?_
  obtain rfl := oI h0
  exact aH (mB (x := (.msl 3 lo2 0 (List.length s0))) (by kernel_rfl) (aL.refl _) ⟨lo2, rfl, hO⟩)
 refine aS aG 8 [1] [(1, (eI (wR (n1 - (wR ((0 : Int) - ((0 : Nat) : Int)))))))] ?_
 refine aS aG 2 [] [(16, (aJ (decide ((0 : Int) < (wR (n1 - (wR ((0 : Int) - ((0 : Nat) : Int)))))))))] ?_
 refine bE h0 (fun h0 => ?_) (fun h0 => ?_)
 ·refine aT aG 10 ?_
  obtain ⟨c4, h0⟩ := aX h0
  refine BC 5 [0 ≤ (0 : Int) ∧ (0 : Int) ≤ ((0 : Nat) : Int)] ⟨c4, trivial⟩ ?_
  obtain ⟨c5, h0⟩ := aX h0
  refine aBs 3 40 (wR (n1 - (wR ((0 : Int) - ((0 : Nat) : Int))))) (by kernel_rfl) (by kernel_rfl) c5 hO ?_
  intro lo6 H hO
  obtain ⟨c7, h0⟩ := aX h0
  refine qL [0 ≤ ((0 : Nat) : Int) ∧ ((0 : Nat) : Int) ≤ (((Int.toNat (wR (n1 - (wR ((0 : Int) - ((0 : Nat) : Int)))))) : Nat) : Int)] ⟨c7, trivial⟩ ?_
  exact aH (aF (⟨rfl, ([] : List aC), _, .eq (by kernel_rfl), hO, h0⟩))
 refine bG ?_
 refine gV [(0, (.sl true 0 (fun _ => .bad)))] ?_
 refine QU (el := (fun _ => .bad)) 0 0 3 hO (by kernel_rfl) ?_
 intro lo8 H9 hO
 exact aH (aF (⟨rfl, ([] : List aC), _, .eq (by kernel_rfl), hO, h0⟩))

theorem AH (eW : (List (List aC))) (r : (List aC)) (h0 : iM eW = some r) : cO Tryz.prog 33 [(eL (eL aD) eW)] (eL aD r) := by
 intro H0
 refine cP Tryz.func33 ?_
 have hO := aK.start H0
 unfold iM at h0
 refine aS aG 1 [] [] ?_
 refine aS aG 1 [] [(3, (eI (0 : Int)))] ?_
 refine dA (fun T H => ∃ qU : Int, Has T [(0, (eL (eL aD) eW)), (3, (eI qU))] ∧ aK ⟨H0, [], []⟩ H [] ∧ hU eW qU = some r) ?_ ?_
 ·clear hO h0
  rintro T H ⟨qU, hT, hO, h0⟩
  refine aY hT ?_
  clear hT
  unfold hU at h0
  refine aO ?_
  refine aT aG 3 ?_
  refine bI 1 ?_
  obtain ⟨x1, hx2, h0⟩ := aW h0
  refine HT (L' := fun lo3 => [(lo3, 3, List.map aD x1)]) 3 (List.map aD x1) 60 [(.sl true 0 (fun _ => .bad)), (eI qU)] (fun lo3 => (.msl 3 lo3 0 (List.length x1))) (by kernel_rfl) (by kernel_rfl) (BR qU _ hx2) hO (fun _ => by kernel_rfl) ?_
  intro lo3 H hO
  refine bC ?_
  refine bP [3] [(6, (.msl 3 lo3 0 (List.length x1)))] ?_
  refine dA (fun T H => ∃ eM : List aC, ∃ lo4 : Nat, Has T [(6, (.msl 3 lo4 0 (List.length eM)))] ∧ aK ⟨H0, [], []⟩ H [(lo4, 3, List.map aD eM)] ∧ iC eM = some r) ?_ ?_
  ·clear hO h0
   rintro T H ⟨eM, lo4, hT, hO, h0⟩
   refine aY hT ?_
   clear hT
   unfold iC at h0
   refine cH aG 2 [(2, (.msl 3 lo4 0 (List.length eM)))] ?_
   refine bL ?_
   refine gV [(2, (.msl 3 lo4 0 (List.length eM)))] ?_
   refine BM (en := aD) eM 0 0 2 3 lo4 (List.length eM) hO (by kernel_rfl) (by kernel_rfl) (by kernel_rfl) (L' := []) (by kernel_rfl) ?_
   intro H5 hO
   obtain rfl := oI h0
   exact aH (Q_r hO)
  refine aS aG 3 [0] [(25, (eL (eL aD) eW)), (26, (eI (lN eW))), (27, (eI (0 : Int)))] ?_
  refine bN 2 ?_
  refine dK [(6, (.msl 3 lo3 0 (List.length x1))), (25, (eL (eL aD) eW)), (26, (eI (lN eW))), (27, (eI (0 : Int)))] ?_
  refine cQ (fun T H => ∃ eM : List aC, ∃ t25 : (List (List aC)), ∃ t26 : Int, ∃ t27 : Int, ∃ lo7 : Nat, Has T [(6, (.msl 3 lo7 0 (List.length eM))), (25, (eL (eL aD) t25)), (26, (eI t26)), (27, (eI t27))] ∧ aK ⟨H0, [], []⟩ H [(lo7, 3, List.map aD eM)] ∧ kS eM t25 t26 t27 = some r) ?_ ⟨x1, eW, (lN eW), (0 : Int), lo3, .eq (by kernel_rfl), hO, h0⟩
  clear hO h0
  rintro T H ⟨eM, t25, t26, t27, lo7, hT, hO, h0⟩
  refine aY hT ?_
  clear hT
  unfold kS at h0
  obtain ⟨rr0, hl0, h0⟩ := aW h0
  refine cB (by kernel_rfl) (fun (s : List aC × Int) T H => ∃ lo7 : Nat, Has T [(6, (.msl 3 lo7 0 (List.length s.1))), (25, (eL (eL aD) t25)), (26, (eI t26)), (27, (eI s.2))] ∧ aK ⟨H0, [], []⟩ H [(lo7, 3, List.map aD s.1)]) hl0 ⟨lo7, .eq (by kernel_rfl), hO⟩ ?_
  clear hO
  rintro k0 s out1 T H ⟨lo7, hT, hO⟩ h1 ho0
  obtain ⟨eM, t27⟩ := s
  replace h1 : dB t25 t26 eM t27 = some out1 := h1
  try dsimp only at hT
  refine aY hT ?_
  clear hT
  unfold dB at h1
  refine aS aG 1 [] [(28, (aJ (decide (t27 < t26))))] ?_
  refine aO ?_
  refine bE h1 (fun h1 => ?_) (fun h1 => ?_)
  ·refine bG ?_
   refine bD [(6, (.msl 3 lo7 0 (List.length eM))), (25, (eL (eL aD) t25)), (26, (eI t26)), (27, (eI t27))] ?_
   refine aO ?_
   refine bN 3 ?_
   refine aO ?_
   refine aT aG 3 ?_
   obtain ⟨c9, h1⟩ := aX h1
   refine qL [0 ≤ t27 ∧ t27 < (lN t25)] ⟨c9, trivial⟩ ?_
   refine bP [] [(8, (eL aD (gD t25 t27)))] ?_
   refine aT aG 4 ?_
   refine bI 2 ?_
   obtain ⟨c11, h1⟩ := aX h1
   refine zP (e := aD) eM (gD t25 t27) 0 lo7 3 40 (eL aD (gD t25 t27)) (fun lo10 => [(lo10, 3, List.map aD (eM ++ (gD t25 t27)))]) (by kernel_rfl) (by kernel_rfl) hO (by kernel_rfl) (HP (fun _ => by kernel_rfl)) c11 (fun _ => by kernel_rfl) ?_
   intro lo10 H hO
   refine bC ?_
   refine gV [(6, (.msl 3 lo10 0 (List.length (eM ++ (gD t25 t27))))), (25, (eL (eL aD) t25)), (26, (eI t26)), (27, (eI t27))] ?_
   refine aH (aU (aF (?_)))
   refine aT aG 2 ?_
   refine bC ?_
   exact aH (aF (⟨rfl, _, (oI h1).symm, _, .eq (by kernel_rfl), hO⟩))
  refine dW 2 ?_
  obtain rfl := oI h1
  obtain rfl : _ = rr0 := ho0
  replace h0 : iC eM = some r := h0
  exact aH (aR (aR (bF (aF (⟨rfl, _, _, .eq (by kernel_rfl), hO, h0⟩)))))
 refine aS aG 3 [] [(9, (eL (eL aD) eW)), (10, (eI (lN eW))), (11, (eI (0 : Int)))] ?_
 refine bN 0 ?_
 refine dK [(0, (eL (eL aD) eW)), (3, (eI (0 : Int))), (9, (eL (eL aD) eW)), (10, (eI (lN eW))), (11, (eI (0 : Int)))] ?_
 refine cQ (fun T H => ∃ qU : Int, ∃ t9 : (List (List aC)), ∃ t10 : Int, ∃ t11 : Int, Has T [(0, (eL (eL aD) eW)), (3, (eI qU)), (9, (eL (eL aD) t9)), (10, (eI t10)), (11, (eI t11))] ∧ aK ⟨H0, [], []⟩ H [] ∧ kY eW qU t9 t10 t11 = some r) ?_ ⟨(0 : Int), eW, (lN eW), (0 : Int), .eq (by kernel_rfl), hO, h0⟩
 clear hO h0
 rintro T H ⟨qU, t9, t10, t11, hT, hO, h0⟩
 refine aY hT ?_
 clear hT
 unfold kY at h0
 obtain ⟨rr0, hl0, h0⟩ := aW h0
 refine cB (by kernel_rfl) (fun (s : Int × Int) T H => Has T [(0, (eL (eL aD) eW)), (3, (eI s.1)), (9, (eL (eL aD) t9)), (10, (eI t10)), (11, (eI s.2))] ∧ aK ⟨H0, [], []⟩ H []) hl0 ⟨.eq (by kernel_rfl), hO⟩ ?_
 clear hO
 rintro k0 s out1 T H ⟨hT, hO⟩ h1 ho0
 obtain ⟨qU, t11⟩ := s
 replace h1 : dD eW t9 t10 qU t11 = some out1 := h1
 try dsimp only at hT
 refine aY hT ?_
 clear hT
 unfold dD at h1
 refine aS aG 1 [] [(12, (aJ (decide (t11 < t10))))] ?_
 refine aO ?_
 refine bE h1 (fun h1 => ?_) (fun h1 => ?_)
 ·refine bG ?_
  refine bD [(0, (eL (eL aD) eW)), (3, (eI qU)), (9, (eL (eL aD) t9)), (10, (eI t10)), (11, (eI t11))] ?_
  refine aO ?_
  refine bN 1 ?_
  refine aO ?_
  refine aT aG 3 ?_
  obtain ⟨c13, h1⟩ := aX h1
  refine qL [0 ≤ t11 ∧ t11 < (lN t9)] ⟨c13, trivial⟩ ?_
  refine bP [] [(5, (eL aD (gD t9 t11)))] ?_
  refine aS aG 5 [3, 5] [(3, (eI (wR (qU + (lN (gD t9 t11))))))] ?_
  refine aS aG 2 [] [(20, (aJ (decide ((wR (qU + (lN (gD t9 t11)))) < (0 : Int)))))] ?_
  refine bE h1 (fun h1 => ?_) (fun h1 => ?_)
  ·cases h1
  refine bG ?_
  refine gV [(0, (eL (eL aD) eW)), (3, (eI (wR (qU + (lN (gD t9 t11)))))), (9, (eL (eL aD) t9)), (10, (eI t10)), (11, (eI t11))] ?_
  refine aH (aU (aF (?_)))
  refine aT aG 2 ?_
  refine bC ?_
  exact aH (aF (⟨rfl, _, (oI h1).symm, .eq (by kernel_rfl), hO⟩))
 refine dW 0 ?_
 obtain rfl := oI h1
 obtain rfl : _ = rr0 := ho0
 replace h0 : hU eW qU = some r := h0
 exact aH (aR (aR (bF (aF (⟨rfl, _, .eq (by kernel_rfl), hO, h0⟩)))))

theorem aBE (a0 : (List aC)) (b1 : (List aC)) (r : ((List aC) × Int)) (h0 : BX a0 b1 = some r) : cO Tryz.prog 9 [(eL aD a0), (eL aD b1)] (.tup [(eL aD r.1), (eI r.2)]) := by
 intro H0
 refine cP Tryz.func9 ?_
 have hO := aK.start H0
 unfold BX at h0
 refine aS aG 2 [] [] ?_
 refine aO ?_
 refine aO ?_
 refine aT aG 8 ?_
 refine bI 1 ?_
 obtain ⟨x1, hx2, h0⟩ := aW h0
 refine dS (CC a0 _ hx2) hO ?_
 intro H hO
 refine bI 5 ?_
 obtain ⟨x4, hx5, h0⟩ := aW h0
 refine vN [(9, false)] 32 [(eL aD b1)] (aJ x4) (!(!x1)) (by kernel_rfl) (by kernel_rfl) (by kernel_rfl) (fun hb6 => (CC b1 _ (pN hx5 hb6))) hO ?_
 intro H hO
 refine bC ?_
 refine bP [] [(13, (aJ ((!x1) || (!x4))))] ?_
 refine bE h0 (fun h0 => ?_) (fun h0 => ?_)
 ·refine cH aG 2 [(4, (.sl true 0 (fun _ => .bad))), (5, (eI (2 : Int)))] ?_
  refine bL ?_
  refine cA (l := [(4, (eL aD ([]))), (5, (eI (2 : Int)))]) ⟨[(4, (.sl true 0 (fun _ => .bad))), (5, (eI (2 : Int)))], by kernel_rfl, rfl, ⟨kL, aL.refl _, trivial⟩⟩ ?_
  obtain rfl := oI h0
  exact aH (bB (Q_r hO))
 refine bG ?_
 refine bD [(0, (eL aD a0)), (1, (eL aD b1))] ?_
 refine aO ?_
 refine aT aG 9 ?_
 refine bI 2 ?_
 refine rX (xs := [(eL aD a0), (eL aD b1)]) (k := 1) (by kernel_rfl) (by kernel_rfl) ?_
 obtain ⟨x8, hx9, h0⟩ := aW h0
 refine aGq 33 [(kD [(eL aD a0), (eL aD b1)])] (eL aD x8) (cO.sub (AH ([a0, b1]) _ hx9) ⟨LK (l := [a0, b1]), trivial⟩) hO ?_
 intro H hO
 obtain ⟨x11, hx12, h0⟩ := aW h0
 refine dS (NV x8 _ hx12) hO ?_
 intro H hO
 refine bC ?_
 refine bD [(4, (eL aD x11.1)), (5, (eI x11.2))] ?_
 refine bL ?_
 obtain rfl := oI h0
 exact aH (Q_r hO)

theorem WQ (a0 : (List aI)) (b1 : (List aI)) (r : Bool) (h0 : yM a0 b1 = some r) : cO Tryz.prog 34 [(eL aN a0), (eL aN b1)] (aJ r) := by
 intro H0
 refine cP Tryz.func34 ?_
 have hO := aK.start H0
 unfold yM at h0
 refine aS aG 1 [] [] ?_
 refine aO ?_
 refine aS aG 5 [] [(10, (aJ (!decide ((lN a0) = (lN b1)))))] ?_
 refine bE h0 (fun h0 => ?_) (fun h0 => ?_)
 ·refine cH aG 1 [(4, (aJ false))] ?_
  refine bL ?_
  obtain rfl := oI h0
  exact aH (bB (Q_r hO))
 refine bG ?_
 refine bD [(0, (eL aN a0)), (1, (eL aN b1))] ?_
 refine dA (fun T H => Has T [] ∧ aK ⟨H0, [], []⟩ H [] ∧ xF  = some r) ?_ ?_
 ·clear hO h0
  rintro T H ⟨hT, hO, h0⟩
  refine aY hT ?_
  clear hT
  unfold xF at h0
  refine cH aG 1 [(4, (aJ true))] ?_
  refine bL ?_
  obtain rfl := oI h0
  exact aH (Q_r hO)
 refine aS aG 1 [] [(5, (eI (0 : Int)))] ?_
 refine bN 0 ?_
 refine dK [(0, (eL aN a0)), (1, (eL aN b1)), (5, (eI (0 : Int)))] ?_
 refine cQ (fun T H => ∃ i5 : Int, Has T [(0, (eL aN a0)), (1, (eL aN b1)), (5, (eI i5))] ∧ aK ⟨H0, [], []⟩ H [] ∧ AS a0 b1 i5 = some r) ?_ ⟨(0 : Int), .eq (by kernel_rfl), hO, h0⟩
 clear hO h0
 rintro T H ⟨i5, hT, hO, h0⟩
 refine aY hT ?_
 clear hT
 unfold AS at h0
 obtain ⟨rr0, hl0, h0⟩ := aW h0
 refine cB (by kernel_rfl) (fun (s : Int) T H => Has T [(0, (eL aN a0)), (1, (eL aN b1)), (5, (eI s))] ∧ aK ⟨H0, [], []⟩ H []) hl0 ⟨.eq (by kernel_rfl), hO⟩ ?_
 clear hO
 rintro k0 s out1 T H ⟨hT, hO⟩ h1 ho0
 obtain ⟨i5, rfl⟩ : ∃ x, x = s := ⟨_, rfl⟩
 replace h1 : uL a0 b1 i5 = some out1 := h1
 refine aY hT ?_
 clear hT
 unfold uL at h1
 refine aO ?_
 refine aS aG 4 [] [(14, (aJ (decide (i5 < (lN a0)))))] ?_
 refine bE h1 (fun h1 => ?_) (fun h1 => ?_)
 ·refine bG ?_
  refine bD [(0, (eL aN a0)), (1, (eL aN b1)), (5, (eI i5))] ?_
  refine aO ?_
  refine bN 1 ?_
  refine aO ?_
  refine eR (eP [20, 24]) aG 9 ?_
  obtain ⟨c3, h1⟩ := aX h1
  obtain ⟨c4, h1⟩ := aX h1
  refine VJ (Ds := [0 ≤ i5 ∧ i5 < (lN a0), 0 ≤ i5 ∧ i5 < (lN b1)]) (by kernel_rfl) ⟨c3, c4, trivial⟩ ?_
  refine bP [] [(25, (aJ (!((decide (((gD a0 i5).Kind) = ((gD b1 i5).Kind))) && ((decide (((gD a0 i5).Num) = ((gD b1 i5).Num))) && ((tP ((gD a0 i5).Text) ((gD b1 i5).Text)) && true))))))] ?_
  refine bE h1 (fun h1 => ?_) (fun h1 => ?_)
  ·refine cH aG 1 [(4, (aJ false))] ?_
   refine bL ?_
   obtain rfl := oI h1
   obtain rfl : _ = rr0 := ho0
   replace h0 : some false = some r := h0
   obtain rfl := oI h0
   exact aH (bT (bB (bB (bT (bB (Q_r hO))))))
  refine bG ?_
  refine gV [(0, (eL aN a0)), (1, (eL aN b1)), (5, (eI i5))] ?_
  refine aH (aU (aF (?_)))
  refine aT aG 3 ?_
  refine bC ?_
  exact aH (aF (⟨rfl, _, (oI h1).symm, .eq (by kernel_rfl), hO⟩))
 refine dW 0 ?_
 obtain rfl := oI h1
 obtain rfl : _ = rr0 := ho0
 replace h0 : xF  = some r := h0
 exact aH (aR (aR (bF (aF (⟨rfl, .eq (by kernel_rfl), hO, h0⟩)))))

theorem XE (a0 : (List aC)) (b1 : (List aC)) (r : Bool) (h0 : yG a0 b1 = some r) : cO Tryz.prog 10 [(eL aD a0), (eL aD b1)] (aJ r) := by
 intro H0
 refine cP Tryz.func10 ?_
 have hO := aK.start H0
 unfold yG at h0
 refine aS aG 1 [] [] ?_
 refine aO ?_
 refine aS aG 5 [] [(10, (aJ (!decide ((lN a0) = (lN b1)))))] ?_
 refine bE h0 (fun h0 => ?_) (fun h0 => ?_)
 ·refine cH aG 1 [(4, (aJ false))] ?_
  refine bL ?_
  obtain rfl := oI h0
  exact aH (bB (Q_r hO))
 refine bG ?_
 refine bD [(0, (eL aD a0)), (1, (eL aD b1))] ?_
 refine dA (fun T H => Has T [] ∧ aK ⟨H0, [], []⟩ H [] ∧ wV  = some r) ?_ ?_
 ·clear hO h0
  rintro T H ⟨hT, hO, h0⟩
  refine aY hT ?_
  clear hT
  unfold wV at h0
  refine cH aG 1 [(4, (aJ true))] ?_
  refine bL ?_
  obtain rfl := oI h0
  exact aH (Q_r hO)
 refine aS aG 1 [] [(5, (eI (0 : Int)))] ?_
 refine bN 0 ?_
 refine dK [(0, (eL aD a0)), (1, (eL aD b1)), (5, (eI (0 : Int)))] ?_
 refine cQ (fun T H => ∃ i5 : Int, Has T [(0, (eL aD a0)), (1, (eL aD b1)), (5, (eI i5))] ∧ aK ⟨H0, [], []⟩ H [] ∧ AX a0 b1 i5 = some r) ?_ ⟨(0 : Int), .eq (by kernel_rfl), hO, h0⟩
 clear hO h0
 rintro T H ⟨i5, hT, hO, h0⟩
 refine aY hT ?_
 clear hT
 unfold AX at h0
 obtain ⟨rr0, hl0, h0⟩ := aW h0
 refine cB (by kernel_rfl) (fun (s : Int) T H => Has T [(0, (eL aD a0)), (1, (eL aD b1)), (5, (eI s))] ∧ aK ⟨H0, [], []⟩ H []) hl0 ⟨.eq (by kernel_rfl), hO⟩ ?_
 clear hO
 rintro k0 s out1 T H ⟨hT, hO⟩ h1 ho0
 obtain ⟨i5, rfl⟩ : ∃ x, x = s := ⟨_, rfl⟩
 replace h1 : uO a0 b1 i5 = some out1 := h1
 refine aY hT ?_
 clear hT
 unfold uO at h1
 refine aO ?_
 refine aS aG 4 [] [(14, (aJ (decide (i5 < (lN a0)))))] ?_
 refine bE h1 (fun h1 => ?_) (fun h1 => ?_)
 ·refine bG ?_
  refine bD [(0, (eL aD a0)), (1, (eL aD b1)), (5, (eI i5))] ?_
  refine aO ?_
  refine bN 1 ?_
  refine aO ?_
  obtain ⟨c3, h1⟩ := aX h1
  obtain ⟨c4, h1⟩ := aX h1
  obtain ⟨c5, h1⟩ := aX h1
  obtain ⟨c6, h1⟩ := aX h1
  obtain ⟨c7, h1⟩ := aX h1
  obtain ⟨c8, h1⟩ := aX h1
  obtain ⟨x9, hx10, h1⟩ := aW h1
  refine eR (eP [21, 26, 33, 38, 46, 51]) aG 38 ?_
  refine uF (K := fun T H => Has (lift T) [(0, (eL aD a0)), (1, (eL aD b1)), (5, (eI i5)), (54, (aJ (((!decide (((gD a0 i5).At) = ((gD b1 i5).At))) || (!decide (((gD a0 i5).Net) = ((gD b1 i5).Net)))) || (!x9))))] ∧ aK ⟨H0, [], []⟩ H []) ?_ ?_
  ·refine bQ 12 [0 ≤ i5 ∧ i5 < (lN a0), 0 ≤ i5 ∧ i5 < (lN b1)] ⟨c3, c4, trivial⟩ ?_
   refine sE (t := 28) (e := !decide (((gD a0 i5).At) = ((gD b1 i5).At))) (by kernel_rfl) (fun hg11 => ?_) (fun hg11 => ?_)
   ·refine jI ?_
    exact ⟨⟨[(0, (eL aD a0)), (1, (eL aD b1)), (5, (eI i5)), (54, (aJ true))], by kernel_rfl, rfl, ⟨aL.refl _, aL.refl _, aL.refl _, aL.eq (congrArg aJ (IZ (IZ hg11 rfl) rfl).symm), trivial⟩⟩, hO⟩
   refine bQ 25 [0 ≤ i5 ∧ i5 < (lN a0), 0 ≤ i5 ∧ i5 < (lN b1)] ⟨(c5 (PM hg11)), (c6 (PM hg11)), trivial⟩ ?_
   refine sE (t := 41) (e := !decide (((gD a0 i5).Net) = ((gD b1 i5).Net))) (by kernel_rfl) (fun hg12 => ?_) (fun hg12 => ?_)
   ·refine jI ?_
    exact ⟨⟨[(0, (eL aD a0)), (1, (eL aD b1)), (5, (eI i5)), (54, (aJ true))], by kernel_rfl, rfl, ⟨aL.refl _, aL.refl _, aL.refl _, aL.eq (congrArg aJ (IZ (IZ hg11 hg12) rfl).symm), trivial⟩⟩, hO⟩
   refine bQ 35 [0 ≤ i5 ∧ i5 < (lN a0), 0 ≤ i5 ∧ i5 < (lN b1)] ⟨(c7 (PM (IZ hg11 hg12))), (c8 (PM (IZ hg11 hg12))), trivial⟩ ?_
   refine tX 34 [(eL aN ((gD a0 i5).Row)), (eL aN ((gD b1 i5).Row))] (aJ x9) (by kernel_rfl) (by kernel_rfl) (WQ ((gD a0 i5).Row) ((gD b1 i5).Row) _ (pN hx10 (PM (IZ hg11 hg12)))) hO ?_
   intro H hO
   refine jI ?_
   exact ⟨⟨[(0, (eL aD a0)), (1, (eL aD b1)), (5, (eI i5)), (54, (aJ (!x9)))], by kernel_rfl, rfl, ⟨aL.refl _, aL.refl _, aL.refl _, aL.eq (congrArg aJ (IZ (IZ hg11 hg12) rfl).symm), trivial⟩⟩, hO⟩
  ·rintro T H ⟨hT, hO⟩
   refine cA hT ?_
   clear hT
   refine aH (aF ?_)
   refine bE h1 (fun h1 => ?_) (fun h1 => ?_)
   ·refine cH aG 1 [(4, (aJ false))] ?_
    refine bL ?_
    obtain rfl := oI h1
    obtain rfl : _ = rr0 := ho0
    replace h0 : some false = some r := h0
    obtain rfl := oI h0
    exact aH (bT (bB (bB (bT (bB (Q_r hO))))))
   refine bG ?_
   refine gV [(0, (eL aD a0)), (1, (eL aD b1)), (5, (eI i5))] ?_
   refine aH (aU (aF (?_)))
   refine aT aG 3 ?_
   refine bC ?_
   exact aH (aF (⟨rfl, _, (oI h1).symm, .eq (by kernel_rfl), hO⟩))
 refine dW 0 ?_
 obtain rfl := oI h1
 obtain rfl : _ = rr0 := ho0
 replace h0 : wV  = some r := h0
 exact aH (aR (aR (bF (aF (⟨rfl, .eq (by kernel_rfl), hO, h0⟩)))))

theorem OU (l0 : (List aC)) (cJ : Int) (r : Bool) (h0 : wL l0 cJ = some r) : cO Tryz.prog 3 [(eL aD l0), (eI cJ)] (aJ r) := by
 intro H0
 refine cP Tryz.func3 ?_
 have hO := aK.start H0
 unfold wL at h0
 refine aS aG 1 [] [] ?_
 refine aO ?_
 refine aO ?_
 refine aT aG 3 ?_
 refine bI 1 ?_
 obtain ⟨x1, hx2, h0⟩ := aW h0
 refine dS (aAe l0 _ hx2) hO ?_
 intro H hO
 refine bC ?_
 refine bP [] [(19, (aJ (!x1)))] ?_
 refine bE h0 (fun h0 => ?_) (fun h0 => ?_)
 ·refine aO ?_
  refine aT aG 2 ?_
  obtain ⟨x5, hx6, h0⟩ := aW h0
  refine dS (CZ  _ hx6) hO ?_
  intro H hO
  refine bC ?_
  refine bD [(4, (aJ x5))] ?_
  refine bL ?_
  obtain rfl := oI h0
  exact aH (bB (Q_r hO))
 refine bG ?_
 refine bD [(0, (eL aD l0)), (1, (eI cJ))] ?_
 refine aO ?_
 refine aT aG 8 ?_
 refine bI 2 ?_
 obtain ⟨x8, hx9, h0⟩ := aW h0
 refine dS (KX l0 cJ _ hx9) hO ?_
 intro H hO
 refine bC ?_
 refine bP [] [(5, (eL cR x8.1)), (6, (eI x8.2))] ?_
 refine aO ?_
 refine aS aG 2 [6] [(28, (aJ (!decide (x8.2 = (0 : Int)))))] ?_
 refine bE h0 (fun h0 => ?_) (fun h0 => ?_)
 ·refine aO ?_
  refine aT aG 7 ?_
  obtain ⟨x12, hx13, h0⟩ := aW h0
  refine dS (CZ  _ hx13) hO ?_
  intro H hO
  refine bC ?_
  refine bD [(4, (aJ (x12 && (decide ((lN x8.1) = (0 : Int))))))] ?_
  refine bL ?_
  obtain rfl := oI h0
  exact aH (bB (Q_r hO))
 refine bG ?_
 refine bD [(0, (eL aD l0)), (1, (eI cJ)), (5, (eL cR x8.1))] ?_
 refine aO ?_
 refine aT aG 2 ?_
 refine rX (xs := []) (k := 3) (by kernel_rfl) (by kernel_rfl) ?_
 refine bC ?_
 refine bP [] [(7, (.sl true 0 (fun _ => .bad)))] ?_
 refine dA (fun T H => ∃ dV : List aC, ∃ lo15 : Nat, Has T [(0, (eL aD l0)), (1, (eI cJ)), (7, (.msl 3 lo15 0 (List.length dV)))] ∧ aK ⟨H0, [], []⟩ H [(lo15, 3, List.map aD dV)] ∧ tI l0 cJ dV = some r) ?_ ?_
 ·clear hO h0
  rintro T H ⟨dV, lo15, hT, hO, h0⟩
  refine aY hT ?_
  clear hT
  unfold tI at h0
  refine aO ?_
  refine aT aG 7 ?_
  refine BO (e := aD) dV 0 7 3 lo15 (List.length dV) [] (by kernel_rfl) hO (by kernel_rfl) (by kernel_rfl) (by kernel_rfl) (by kernel_rfl) ?_
  intro H hO
  refine bI 1 ?_
  obtain ⟨x16, hx17, h0⟩ := aW h0
  refine dS (NV dV _ hx17) hO ?_
  intro H hO
  refine bC ?_
  refine bP [7] [(11, (eL aD x16.1)), (12, (eI x16.2))] ?_
  refine aO ?_
  refine aT aG 8 ?_
  refine bI 2 ?_
  obtain ⟨x19, hx20, h0⟩ := aW h0
  refine dS (WK l0 cJ _ hx20) hO ?_
  intro H hO
  refine bC ?_
  refine bP [] [(13, (eL aD x19.1)), (14, (eI x19.2))] ?_
  refine aO ?_
  refine aS aG 10 [1, 12, 14] [(109, (aJ (((!decide (x16.2 = (0 : Int))) || (!decide (x19.2 = (0 : Int)))) || (decide (cJ = (1125899906842624 : Int))))))] ?_
  refine bE h0 (fun h0 => ?_) (fun h0 => ?_)
  ·refine aO ?_
   refine aT aG 2 ?_
   obtain ⟨x23, hx24, h0⟩ := aW h0
   refine dS (CZ  _ hx24) hO ?_
   intro H hO
   refine bC ?_
   refine bD [(4, (aJ x23))] ?_
   refine bL ?_
   obtain rfl := oI h0
   exact aH (bB (Q_r hO))
  refine bG ?_
  refine bD [(0, (eL aD l0)), (11, (eL aD x16.1)), (13, (eL aD x19.1))] ?_
  refine aO ?_
  refine aT aG 8 ?_
  refine bI 2 ?_
  obtain ⟨x26, hx27, h0⟩ := aW h0
  refine dS (aBE x19.1 x16.1 _ hx27) hO ?_
  intro H hO
  refine bC ?_
  refine bP [11, 13] [(15, (eL aD x26.1)), (16, (eI x26.2))] ?_
  refine aO ?_
  refine aT aG 15 ?_
  obtain ⟨x29, hx30, h0⟩ := aW h0
  refine dS (CZ  _ hx30) hO ?_
  intro H hO
  refine bI 10 ?_
  obtain ⟨x32, hx33, h0⟩ := aW h0
  refine vN [(124, true), (121, false), (118, true)] 10 [(eL aD x26.1), (eL aD l0)] (aJ x32) ((decide (x26.2 = (0 : Int))) && ((!(decide (x26.2 = (7 : Int)))) && x29)) (by kernel_rfl) (by kernel_rfl) (by kernel_rfl) (fun hb34 => (XE x26.1 l0 _ (pN hx33 hb34))) hO ?_
  intro H hO
  refine bC ?_
  refine bD [(4, (aJ (x29 && ((decide (x26.2 = (7 : Int))) || ((decide (x26.2 = (0 : Int))) && x32)))))] ?_
  refine bL ?_
  obtain rfl := oI h0
  exact aH (Q_r hO)
 refine aS aG 1 [] [(8, (eI (0 : Int)))] ?_
 refine bN 0 ?_
 refine dK [(0, (eL aD l0)), (1, (eI cJ)), (5, (eL cR x8.1)), (7, (.sl true 0 (fun _ => .bad))), (8, (eI (0 : Int)))] ?_
 refine IK (el := (fun _ => .bad)) 3 7 3 hO (by kernel_rfl) ?_
 intro lo52 H53 hO
 refine cQ (fun T H => ∃ p5 : (List bX), ∃ dV : List aC, ∃ i8 : Int, ∃ lo36 : Nat, Has T [(0, (eL aD l0)), (1, (eI cJ)), (5, (eL cR p5)), (7, (.msl 3 lo36 0 (List.length dV))), (8, (eI i8))] ∧ aK ⟨H0, [], []⟩ H [(lo36, 3, List.map aD dV)] ∧ vH l0 cJ p5 dV i8 = some r) ?_ ⟨x8.1, ([] : List aC), (0 : Int), lo52, .eq (by kernel_rfl), hO, h0⟩
 clear hO h0
 rintro T H ⟨p5, dV, i8, lo36, hT, hO, h0⟩
 refine aY hT ?_
 clear hT
 unfold vH at h0
 obtain ⟨rr0, hl0, h0⟩ := aW h0
 refine cB (by kernel_rfl) (fun (s : List aC × Int) T H => ∃ lo36 : Nat, Has T [(0, (eL aD l0)), (1, (eI cJ)), (5, (eL cR p5)), (7, (.msl 3 lo36 0 (List.length s.1))), (8, (eI s.2))] ∧ aK ⟨H0, [], []⟩ H [(lo36, 3, List.map aD s.1)]) hl0 ⟨lo36, .eq (by kernel_rfl), hO⟩ ?_
 clear hO
 rintro k0 s out1 T H ⟨lo36, hT, hO⟩ h1 ho0
 obtain ⟨dV, i8⟩ := s
 replace h1 : pY l0 cJ p5 dV i8 = some out1 := h1
 try dsimp only at hT
 refine aY hT ?_
 clear hT
 unfold pY at h1
 refine aO ?_
 refine aS aG 4 [] [(39, (aJ (decide (i8 < (lN p5)))))] ?_
 refine bE h1 (fun h1 => ?_) (fun h1 => ?_)
 ·refine bG ?_
  refine bD [(0, (eL aD l0)), (1, (eI cJ)), (5, (eL cR p5)), (7, (.msl 3 lo36 0 (List.length dV))), (8, (eI i8))] ?_
  refine dA (fun T H => ∃ dV : List aC, ∃ lo38 : Nat, Has T [(0, (eL aD l0)), (1, (eI cJ)), (5, (eL cR p5)), (7, (.msl 3 lo38 0 (List.length dV))), (8, (eI i8))] ∧ aK ⟨H0, [], []⟩ H [(lo38, 3, List.map aD dV)] ∧ tH l0 cJ p5 dV i8 = some out1) ?_ ?_
  ·clear hO h1
   rintro T H ⟨dV, lo38, hT, hO, h1⟩
   refine aY hT ?_
   clear hT
   unfold tH at h1
   refine aT aG 3 ?_
   refine bC ?_
   exact aH (aF (⟨rfl, _, (oI h1).symm, _, .eq (by kernel_rfl), hO⟩))
  refine bN 1 ?_
  refine aS aG 1 [] [(9, (eI (0 : Int)))] ?_
  refine bN 2 ?_
  refine dK [(0, (eL aD l0)), (1, (eI cJ)), (5, (eL cR p5)), (7, (.msl 3 lo36 0 (List.length dV))), (8, (eI i8)), (9, (eI (0 : Int)))] ?_
  refine cQ (fun T H => ∃ dV : List aC, ∃ k9 : Int, ∃ lo40 : Nat, Has T [(0, (eL aD l0)), (1, (eI cJ)), (5, (eL cR p5)), (7, (.msl 3 lo40 0 (List.length dV))), (8, (eI i8)), (9, (eI k9))] ∧ aK ⟨H0, [], []⟩ H [(lo40, 3, List.map aD dV)] ∧ vK l0 cJ p5 dV i8 k9 = some out1) ?_ ⟨dV, (0 : Int), lo36, .eq (by kernel_rfl), hO, h1⟩
  clear hO h1
  rintro T H ⟨dV, k9, lo40, hT, hO, h1⟩
  refine aY hT ?_
  clear hT
  unfold vK at h1
  obtain ⟨rr1, hl1, h1⟩ := aW h1
  refine cB (by kernel_rfl) (fun (s : List aC × Int) T H => ∃ lo40 : Nat, Has T [(0, (eL aD l0)), (1, (eI cJ)), (5, (eL cR p5)), (7, (.msl 3 lo40 0 (List.length s.1))), (8, (eI i8)), (9, (eI s.2))] ∧ aK ⟨H0, [], []⟩ H [(lo40, 3, List.map aD s.1)]) hl1 ⟨lo40, .eq (by kernel_rfl), hO⟩ ?_
  clear hO
  rintro k1 s out2 T H ⟨lo40, hT, hO⟩ h2 ho1
  obtain ⟨dV, k9⟩ := s
  replace h2 : pX l0 cJ p5 i8 dV k9 = some out2 := h2
  try dsimp only at hT
  refine aY hT ?_
  clear hT
  unfold pX at h2
  refine aO ?_
  refine aO ?_
  refine aT aG 8 ?_
  obtain ⟨c41, h2⟩ := aX h2
  refine qL [0 ≤ i8 ∧ i8 < (lN p5)] ⟨c41, trivial⟩ ?_
  refine bP [] [(49, (aJ (decide (k9 < (lN ((gD p5 i8).Rows))))))] ?_
  refine bE h2 (fun h2 => ?_) (fun h2 => ?_)
  ·refine bG ?_
   refine bD [(0, (eL aD l0)), (1, (eI cJ)), (5, (eL cR p5)), (7, (.msl 3 lo40 0 (List.length dV))), (8, (eI i8)), (9, (eI k9))] ?_
   refine aO ?_
   refine bN 3 ?_
   refine aO ?_
   refine aT aG 10 ?_
   obtain ⟨c43, h2⟩ := aX h2
   obtain ⟨c44, h2⟩ := aX h2
   refine BC 8 [0 ≤ i8 ∧ i8 < (lN p5), 0 ≤ k9 ∧ k9 < (lN ((gD p5 i8).Rows))] ⟨c43, c44, trivial⟩ ?_
   refine BG 2 (.agg [(.sl true 0 (fun _ => .bad)), (eI 0)]) (dL (cU.mk ([]) 0)) (by kernel_rfl) (by kernel_rfl) (by kernel_rfl) (XA (xs := [(.sl true 0 (fun _ => .bad)), (eI 0)]) (ys := [(eL aN ([])), (eI 0)]) ⟨kL, aL.refl _, trivial⟩) (by kernel_rfl) (by kernel_rfl) hO ?_
   intro lo45 H hO
   refine rK 1 lo45 2 0 (dL (cU.mk ([]) 0)) (dL (gD ((gD p5 i8).Rows) k9)) [(dL (cU.mk ([]) 0))] [(lo40, 3, List.map aD dV), (lo45, 2, [(dL (gD ((gD p5 i8).Rows) k9))])] hO rfl (by kernel_rfl) ?_
   intro H hO
   refine dG ?_
   refine bP [] [(10, (.lp lo45 0 0))] ?_
   refine aO ?_
   refine eR (eP [68, 72]) aG 15 ?_
   refine qV 2 ?_
   refine dN 1 lo45 2 0 (dL (gD ((gD p5 i8).Rows) k9)) (eL aN ((gD ((gD p5 i8).Rows) k9).Row)) [(dL (gD ((gD p5 i8).Rows) k9))] hO rfl ?_
   obtain ⟨c46, h2⟩ := aX h2
   refine bQ 10 [0 ≤ i8 ∧ i8 < (lN p5)] ⟨c46, trivial⟩ ?_
   refine dN 1 lo45 2 0 (dL (gD ((gD p5 i8).Rows) k9)) (eI ((gD ((gD p5 i8).Rows) k9).N)) [(dL (gD ((gD p5 i8).Rows) k9))] hO rfl ?_
   refine qV 12 ?_
   refine PU (xs := [(aD (aC.mk ((gD ((gD p5 i8).Rows) k9).Row) (((gD p5 i8).Span).From) ((gD ((gD p5 i8).Rows) k9).N)))]) (k := 3) (by kernel_rfl) (by kernel_rfl) ?_
   obtain ⟨c48, h2⟩ := aX h2
   refine MT (e := aD) dV ([aC.mk ((gD ((gD p5 i8).Rows) k9).Row) (((gD p5 i8).Span).From) ((gD ((gD p5 i8).Rows) k9).N)]) 0 lo40 3 40 (kD [(aD (aC.mk ((gD ((gD p5 i8).Rows) k9).Row) (((gD p5 i8).Span).From) ((gD ((gD p5 i8).Rows) k9).N)))]) (fun lo47 => [(lo47, 3, List.map aD (dV ++ ([aC.mk ((gD ((gD p5 i8).Rows) k9).Row) (((gD p5 i8).Span).From) ((gD ((gD p5 i8).Rows) k9).N)]))), (lo45, 2, [(dL (gD ((gD p5 i8).Rows) k9))])]) (by kernel_rfl) (by kernel_rfl) hO (by kernel_rfl) (by kernel_rfl) c48 (fun _ => by kernel_rfl) ?_
   intro lo47 H hO
   refine jI ?_
   refine bP [7] [(7, (.msl 3 lo47 0 (List.length (dV ++ ([aC.mk ((gD ((gD p5 i8).Rows) k9).Row) (((gD p5 i8).Span).From) ((gD ((gD p5 i8).Rows) k9).N)])))))] ?_
   refine dK [(0, (eL aD l0)), (1, (eI cJ)), (5, (eL cR p5)), (7, (.msl 3 lo47 0 (List.length (dV ++ ([aC.mk ((gD ((gD p5 i8).Rows) k9).Row) (((gD p5 i8).Span).From) ((gD ((gD p5 i8).Rows) k9).N)]))))), (8, (eI i8)), (9, (eI k9)), (10, (.lp lo45 0 0))] ?_
   refine LR 6 1 10 2 lo45 (dL (gD ((gD p5 i8).Rows) k9)) [(lo47, 3, List.map aD (dV ++ ([aC.mk ((gD ((gD p5 i8).Rows) k9).Row) (((gD p5 i8).Span).From) ((gD ((gD p5 i8).Rows) k9).N)])))] hO (by kernel_rfl) (by kernel_rfl) (by kernel_rfl) ?_
   intro H hO
   refine eR (eP [76, 82, 84, 87]) aG 16 ?_
   obtain ⟨c49, h2⟩ := aX h2
   refine bQ 13 [0 ≤ i8 ∧ i8 < (lN p5)] ⟨c49, trivial⟩ ?_
   refine PU (xs := [(aD (aC.mk ((gD ((gD p5 i8).Rows) k9).Row) (((gD p5 i8).Span).To) (wR (0 - ((gD ((gD p5 i8).Rows) k9).N)))))]) (k := 3) (by kernel_rfl) (by kernel_rfl) ?_
   obtain ⟨c51, h2⟩ := aX h2
   refine MT (e := aD) (dV ++ ([aC.mk ((gD ((gD p5 i8).Rows) k9).Row) (((gD p5 i8).Span).From) ((gD ((gD p5 i8).Rows) k9).N)])) ([aC.mk ((gD ((gD p5 i8).Rows) k9).Row) (((gD p5 i8).Span).To) (wR (0 - ((gD ((gD p5 i8).Rows) k9).N)))]) 0 lo47 3 40 (kD [(aD (aC.mk ((gD ((gD p5 i8).Rows) k9).Row) (((gD p5 i8).Span).To) (wR (0 - ((gD ((gD p5 i8).Rows) k9).N)))))]) (fun lo50 => [(lo50, 3, List.map aD ((dV ++ ([aC.mk ((gD ((gD p5 i8).Rows) k9).Row) (((gD p5 i8).Span).From) ((gD ((gD p5 i8).Rows) k9).N)])) ++ ([aC.mk ((gD ((gD p5 i8).Rows) k9).Row) (((gD p5 i8).Span).To) (wR (0 - ((gD ((gD p5 i8).Rows) k9).N)))])))]) (by kernel_rfl) (by kernel_rfl) hO (by kernel_rfl) (by kernel_rfl) c51 (fun _ => by kernel_rfl) ?_
   intro lo50 H hO
   refine jI ?_
   refine gV [(0, (eL aD l0)), (1, (eI cJ)), (5, (eL cR p5)), (7, (.msl 3 lo50 0 (List.length ((dV ++ ([aC.mk ((gD ((gD p5 i8).Rows) k9).Row) (((gD p5 i8).Span).From) ((gD ((gD p5 i8).Rows) k9).N)])) ++ ([aC.mk ((gD ((gD p5 i8).Rows) k9).Row) (((gD p5 i8).Span).To) (wR (0 - ((gD ((gD p5 i8).Rows) k9).N)))]))))), (8, (eI i8)), (9, (eI k9))] ?_
   refine aH (aU (aF (?_)))
   refine aT aG 3 ?_
   refine bC ?_
   exact aH (aF (⟨rfl, _, (oI h2).symm, _, .eq (by kernel_rfl), hO⟩))
  refine dW 2 ?_
  obtain rfl := oI h2
  obtain rfl : _ = rr1 := ho1
  replace h1 : tH l0 cJ p5 dV i8 = some out1 := h1
  exact aH (aR (aR (bF (aU (aF (⟨rfl, _, _, .eq (by kernel_rfl), hO, h1⟩))))))
 refine dW 0 ?_
 obtain rfl := oI h1
 obtain rfl : _ = rr0 := ho0
 replace h0 : tI l0 cJ dV = some r := h0
 exact aH (aR (aR (bF (aF (⟨rfl, _, _, .eq (by kernel_rfl), hO, h0⟩)))))

end Go.Abs
namespace Go.Abs
open Go Go.RowKit Go.Proofs
theorem ME {H : Type} {enc : TypeId × Value → H} {w : World} : CE enc Tryz.prog w 48 aN FT :=
  MN Tryz.underlying48 (by kernel_rfl) (xJ (c' := OA) (ok' := FT) (fun (a : Int) (b : Int × ByteArray × Unit) => (aI.mk a b.1 b.2.1 : aI)) (by kernel_rfl) (HA Tryz.underlying46) (xJ (c' := fun (b : Int × ByteArray × Unit) => (V.cells (cZ .i64 b.1) ++ (V.cells (DL b.2.1) ++ []))) (ok' := fun b => (EV b.1 ∧ ((fun s => s.size ≤ maxLen) b.2.1 ∧ True))) (fun a b => (a, b)) (by kernel_rfl) (HA Tryz.underlying3) (xJ (c' := fun (b : ByteArray × Unit) => (V.cells (DL b.1) ++ [])) (ok' := fun b => ((fun s => s.size ≤ maxLen) b.1 ∧ True)) (fun a b => (a, b)) (by kernel_rfl) (WO Tryz.underlying9) (QM ()) (fun _ _ => rfl) (fun _ _ h1 h2 => ⟨h1, h2⟩)) (fun _ _ => rfl) (fun _ _ h1 h2 => ⟨h1, h2⟩)) (fun _ _ => rfl) (fun _ _ h1 h2 => ⟨h1, h2⟩))

theorem NI {H : Type} {enc : TypeId × Value → H} {w : World} : CE enc Tryz.prog w 39 aD AK :=
  MN Tryz.underlying39 (by kernel_rfl) (xJ (c' := PZ) (ok' := AK) (fun (a : (List aI)) (b : Int × Int × Unit) => (aC.mk a b.1 b.2.1 : aC)) (by kernel_rfl) (aAd Tryz.underlying35 (by decide +kernel) (fun _ => by kernel_rfl) (fun _ => rfl) ME (by kernel_rfl)) (xJ (c' := fun (b : Int × Int × Unit) => (V.cells (cZ .i64 b.1) ++ (V.cells (cZ .i64 b.2.1) ++ []))) (ok' := fun b => (EV b.1 ∧ (EV b.2.1 ∧ True))) (fun a b => (a, b)) (by kernel_rfl) (HA Tryz.underlying3) (xJ (c' := fun (b : Int × Unit) => (V.cells (cZ .i64 b.1) ++ [])) (ok' := fun b => (EV b.1 ∧ True)) (fun a b => (a, b)) (by kernel_rfl) (HA Tryz.underlying3) (QM ()) (fun _ _ => rfl) (fun _ _ h1 h2 => ⟨h1, h2⟩)) (fun _ _ => rfl) (fun _ _ h1 h2 => ⟨h1, h2⟩)) (fun _ _ => rfl) (fun _ _ h1 h2 => ⟨h1, h2⟩))

end Go.Abs
namespace Go.Abs
open Go
theorem fV {n : Int} (h1 : -9223372036854775808 ≤ n) (h2 : n ≤ 9223372036854775807) : IntKind.i64.wrap n = n := by
 simp only [IntKind.wrap, IntKind.bits, IntKind.signed]
 simp
 split <;> omega

def sZ {α st R : Type} (step : st → α → Option (st ⊕ R)) (fin : st → R) : st → List α → Option R
 | s, [] => some (fin s)
 | s, a :: r => match step s a with
  | some (.inl s') => sZ step fin s' r
  | some (.inr x) => some x
  | none => none

theorem JZ {α st R : Type} {step : st → α → Option (st ⊕ R)} {fin : st → R} {s s' : st} {a : α} {r : List α} (h : step s a = some (.inl s')) : sZ step fin s (a :: r) = sZ step fin s' r := by
 simp only [sZ, h]

theorem JX {α st R : Type} {step : st → α → Option (st ⊕ R)} {fin : st → R} {s : st} {x : R} {a : α} {r : List α} (h : step s a = some (.inr x)) : sZ step fin s (a :: r) = some x := by
 simp only [sZ, h]

theorem aAp {α S st R : Type} {body : S → Option (S ⊕ R)} {l : List α} (mk : st → Int → S) (step : st → α → Option (st ⊕ R)) (fin : st → R)
  (hn : ∀ (i : Nat) a s, l[i]? = some a → (∀ s', step s a = some (.inl s') → body (mk s i) = some (.inl (mk s' ((i + 1 : Nat) : Int)))) ∧ (∀ x, step s a = some (.inr x) → body (mk s i) = some (.inr x)))
  (he : ∀ s, body (mk s (l.length : Nat)) = some (.inr (fin s))) : ∀ (m k : Nat) (s : st) (r : R), l.length - k = m → k ≤ l.length → sZ step fin s (l.drop k) = some r → lp body (mk s k) = some r
 | 0, k, s, r, hm, hk, h => by
  have : k = l.length := by omega
  subst this
  rw [List.drop_length] at h
  simp only [sZ, Option.some.injEq] at h
  subst h
  exact cE (he s)
 | m + 1, k, s, r, hm, hk, h => by
  have hlt : k < l.length := by omega
  have hd : l.drop k = l[k] :: l.drop (k + 1) := List.drop_eq_getElem_cons hlt
  rw [hd] at h
  simp only [sZ] at h
  obtain ⟨h1, h2⟩ := hn k l[k] s (List.getElem?_eq_getElem hlt)
  split at h
  ·rename_i s' hs
   rw [dO (h1 s' hs)]
   exact aAp mk step fin hn he m (k + 1) s' r (by omega) (by omega) h
  ·rename_i x hs
   simp at h; subst h
   exact cE (h2 x hs)
  ·cases h

theorem WH {α S st R : Type} {body : S → Option (S ⊕ R)} {l : List α} (mk : st → Int → S) (step : st → α → Option (st ⊕ R)) (fin : st → R)
  (hn : ∀ (i : Nat) a s, l[i]? = some a → (∀ s', step s a = some (.inl s') → body (mk s i) = some (.inl (mk s' ((i + 1 : Nat) : Int)))) ∧ (∀ x, step s a = some (.inr x) → body (mk s i) = some (.inr x)))
  (he : ∀ s, body (mk s (l.length : Nat)) = some (.inr (fin s))) {s : st} {r : R} (h : sZ step fin s l = some r) : lp body (mk s 0) = some r :=
 aAp mk step fin hn he _ 0 s r rfl (Nat.zero_le _) (by simpa using h)

theorem XC {α S st R : Type} {body : S → Option (S ⊕ R)} {l : List α} (mk : st → Int → S) (step : st → α → Option (st ⊕ R)) (fin : st → R) (Inv : Nat → st → Prop)
  (hn : ∀ (i : Nat) a s, Inv i s → l[i]? = some a → (∀ s', step s a = some (.inl s') → Inv (i + 1) s' ∧ body (mk s i) = some (.inl (mk s' ((i + 1 : Nat) : Int)))) ∧ (∀ x, step s a = some (.inr x) → body (mk s i) = some (.inr x)))
  (he : ∀ s, Inv l.length s → body (mk s (l.length : Nat)) = some (.inr (fin s))) : ∀ (m k : Nat) (s : st) (r : R), l.length - k = m → k ≤ l.length → Inv k s → sZ step fin s (l.drop k) = some r → lp body (mk s k) = some r
 | 0, k, s, r, hm, hk, hi, h => by
  have : k = l.length := by omega
  subst this
  rw [List.drop_length] at h
  simp only [sZ, Option.some.injEq] at h
  subst h
  exact cE (he s hi)
 | m + 1, k, s, r, hm, hk, hi, h => by
  have hlt : k < l.length := by omega
  have hd : l.drop k = l[k] :: l.drop (k + 1) := List.drop_eq_getElem_cons hlt
  rw [hd] at h
  simp only [sZ] at h
  obtain ⟨h1, h2⟩ := hn k l[k] s hi (List.getElem?_eq_getElem hlt)
  split at h
  ·rename_i s' hs
   obtain ⟨hi', hb⟩ := h1 s' hs
   rw [dO hb]
   exact XC mk step fin Inv hn he m (k + 1) s' r (by omega) (by omega) hi' h
  ·rename_i x hs
   simp at h; subst h
   exact cE (h2 x hs)
  ·cases h

theorem aCs {α S st R : Type} {body : S → Option (S ⊕ R)} {l : List α} (mk : st → Int → S) (step : st → α → Option (st ⊕ R)) (fin : st → R) (Inv : Nat → st → Prop)
  (hn : ∀ (i : Nat) a s, Inv i s → l[i]? = some a → (∀ s', step s a = some (.inl s') → Inv (i + 1) s' ∧ body (mk s i) = some (.inl (mk s' ((i + 1 : Nat) : Int)))) ∧ (∀ x, step s a = some (.inr x) → body (mk s i) = some (.inr x)))
  (he : ∀ s, Inv l.length s → body (mk s (l.length : Nat)) = some (.inr (fin s))) {s : st} {r : R} (hi : Inv 0 s) (h : sZ step fin s l = some r) : lp body (mk s 0) = some r :=
 XC mk step fin Inv hn he _ 0 s r rfl (Nat.zero_le _) hi (by simpa using h)

theorem idx {α : Type} [Inhabited α] {l : List α} {i : Nat} {a : α} (h : l[i]? = some a) (hl : l.length < 4611686018427387904) :
  decide ((i : Int) < ((l.length : Nat) : Int)) = true ∧ (0 ≤ (i : Int) ∧ (i : Int) < ((l.length : Nat) : Int)) ∧ l.getD (Int.toNat (i : Int)) default = a ∧ IntKind.i64.wrap ((i : Int) + 1) = ((i + 1 : Nat) : Int) := by
 have hlt : i < l.length := (List.getElem?_eq_some_iff.1 h).1
 refine ⟨by simpa using hlt, ⟨by omega, by omega⟩, ?_, ?_⟩
 ·rw [Int.toNat_natCast, List.getD_eq_getElem?_getD, h]; rfl
 ·rw [fV (by omega) (by omega)]; omega

theorem mY {n : Nat} : decide (((n : Nat) : Int) < ((n : Nat) : Int)) = false := by simp

theorem aGo {α : Type} {j : α} {r : List α} : (0 : Int) ≤ 0 ∧ (0 : Int) < ((List.length (j :: r) : Nat) : Int) := ⟨by omega, by simp⟩

theorem aFv {α : Type} [Inhabited α] {j : α} {r : List α} : List.getD (j :: r) (Int.toNat (0 : Int)) default = j := rfl

end Go.Abs
namespace Go.Abs
open Go
theorem drop_cons {α : Type} {l r : List α} {a : α} {k : Nat} (h : l.drop k = a :: r) : l[k]? = some a ∧ l.drop (k + 1) = r := by
 have hk : k < l.length := by
  apply Classical.byContradiction; intro hn
  rw [List.drop_eq_nil_of_le (by omega)] at h; cases h
 rw [List.drop_eq_getElem_cons hk] at h
 obtain ⟨h1, h2⟩ := List.cons.inj h
 exact ⟨by rw [List.getElem?_eq_getElem hk, h1], h2⟩

theorem aC4 {α S st R : Type} {body : S → Option (S ⊕ R)} {l : List α} (mk : st → Int → S) (G : st → List α → R) (Inv : st → List α → Prop)
  (hn : ∀ (i : Nat) a r s, l[i]? = some a → Inv s (a :: r) → (∃ s', body (mk s i) = some (.inl (mk s' ((i + 1 : Nat) : Int))) ∧ Inv s' r ∧ G s' r = G s (a :: r)) ∨ body (mk s i) = some (.inr (G s (a :: r))))
  (he : ∀ s, Inv s [] → body (mk s (l.length : Nat)) = some (.inr (G s []))) : ∀ (r : List α) (k : Nat) (s : st), l.drop k = r → k ≤ l.length → Inv s r → lp body (mk s k) = some (G s r)
 | [], k, s, hd, hk, hi => by
  have : k = l.length := by
   have := congrArg List.length hd
   simp only [List.length_drop, List.length_nil] at this; omega
  subst this
  exact cE (he s hi)
 | a :: r, k, s, hd, hk, hi => by
  obtain ⟨h1, h2⟩ := drop_cons hd
  have hlt : k < l.length := (List.getElem?_eq_some_iff.1 h1).1
  rcases hn k a r s h1 hi with ⟨s', hb, hi', hg⟩ | hb
  ·rw [dO hb, aC4 mk G Inv hn he r (k + 1) s' h2 (by omega) hi', hg]
  ·exact cE hb

theorem BP {α S st R : Type} {body : S → Option (S ⊕ R)} {l : List α} (mk : st → Int → S) (G : st → List α → R) (Inv : st → List α → Prop) (s : st)
  (hn : ∀ (i : Nat) a r s, l[i]? = some a → Inv s (a :: r) → (∃ s', body (mk s i) = some (.inl (mk s' ((i + 1 : Nat) : Int))) ∧ Inv s' r ∧ G s' r = G s (a :: r)) ∨ body (mk s i) = some (.inr (G s (a :: r))))
  (he : ∀ s, Inv s [] → body (mk s (l.length : Nat)) = some (.inr (G s []))) (hi : Inv s l) : lp body (mk s 0) = some (G s l) :=
 aC4 mk G Inv hn he l 0 s rfl (Nat.zero_le _) hi

end Go.Abs
namespace Go.Abs
open Go
noncomputable def EF {α : Type} [Inhabited α] (cmp3 : α → α → Option Int) (aA : List α) (a1 : Int) (b2 : Int) (i8 : Int) : Option ((List α × Int) ⊕ ((List α))) :=
 some (.inl (aA, IntKind.i64.wrap (i8 + (1 : Int))))

noncomputable def qT {α : Type} [Inhabited α] (cmp3 : α → α → Option Int) (a1 : Int) (b2 : Int) (i8 : Int) (aA : List α) (j9 : Int) : Option ((List α × Int) ⊕ ((List α))) :=
 bA ((((decide (a1 < j9))) = true → 0 ≤ j9 ∧ j9 < ((List.length aA : Nat) : Int))) <|
 bA ((((decide (a1 < j9))) = true → 0 ≤ (IntKind.i64.wrap (j9 - (1 : Int))) ∧ (IntKind.i64.wrap (j9 - (1 : Int))) < ((List.length aA : Nat) : Int))) <|
 (eD (decide (a1 < j9)) (cmp3 (List.getD aA (Int.toNat j9) default) (List.getD aA (Int.toNat (IntKind.i64.wrap (j9 - (1 : Int)))) default))).bind fun x3 =>
 cond ((decide (a1 < j9)) && (decide (x3 < (0 : Int))))
 (bA (0 ≤ (IntKind.i64.wrap (j9 - (1 : Int))) ∧ (IntKind.i64.wrap (j9 - (1 : Int))) < ((List.length aA : Nat) : Int)) <|
 bA (0 ≤ j9 ∧ j9 < ((List.length aA : Nat) : Int)) <|
 bA (0 ≤ j9 ∧ j9 < ((List.length aA : Nat) : Int)) <|
 bA (0 ≤ (IntKind.i64.wrap (j9 - (1 : Int))) ∧ (IntKind.i64.wrap (j9 - (1 : Int))) < ((List.length aA : Nat) : Int)) <|
 some (.inl (List.set (List.set aA (Int.toNat j9) (List.getD aA (Int.toNat (IntKind.i64.wrap (j9 - (1 : Int)))) default)) (Int.toNat (IntKind.i64.wrap (j9 - (1 : Int)))) (List.getD aA (Int.toNat j9) default), IntKind.i64.wrap (j9 - (1 : Int)))))
 (some (.inr aA))

noncomputable def EB {α : Type} [Inhabited α] (cmp3 : α → α → Option Int) (aA : List α) (a1 : Int) (b2 : Int) (i8 : Int) (j9 : Int) : Option ((List α × Int) ⊕ ((List α))) :=
 (lp (fun s => qT cmp3 a1 b2 i8 s.1 s.2) (aA, j9)).bind (fun rr => EF cmp3 rr a1 b2 i8)

noncomputable def oD {α : Type} [Inhabited α] (cmp3 : α → α → Option Int) (a1 : Int) (b2 : Int) (aA : List α) (i8 : Int) : Option ((List α × Int) ⊕ ((List α))) :=
 cond (decide (i8 < b2))
 (EB cmp3 aA a1 b2 i8 i8)
 (some (.inr aA))

noncomputable def EH {α : Type} [Inhabited α] (cmp3 : α → α → Option Int) (aA : List α) (a1 : Int) (b2 : Int) (i8 : Int) : Option (List α) :=
 (lp (fun s => oD cmp3 a1 b2 s.1 s.2) (aA, i8)).bind (fun rr => some rr)

noncomputable def sD {α : Type} [Inhabited α] (aA : (List α)) (a1 : Int) (b2 : Int) (cmp3 : α → α → Option Int) : Option (List α) :=
 EH cmp3 aA a1 b2 (IntKind.i64.wrap (a1 + (1 : Int)))

noncomputable def uA {α : Type} [Inhabited α] (cmp4 : α → α → Option Int) (a1 : Int) (b2 : Int) (n3 : Int) (aA : List α) (i10 : Int) : Option ((List α × Int) ⊕ ((List α))) :=
 cond (decide (i10 < n3))
 (bA (0 ≤ (IntKind.i64.wrap (b2 + i10)) ∧ (IntKind.i64.wrap (b2 + i10)) < ((List.length aA : Nat) : Int)) <|
 bA (0 ≤ (IntKind.i64.wrap (a1 + i10)) ∧ (IntKind.i64.wrap (a1 + i10)) < ((List.length aA : Nat) : Int)) <|
 bA (0 ≤ (IntKind.i64.wrap (a1 + i10)) ∧ (IntKind.i64.wrap (a1 + i10)) < ((List.length aA : Nat) : Int)) <|
 bA (0 ≤ (IntKind.i64.wrap (b2 + i10)) ∧ (IntKind.i64.wrap (b2 + i10)) < ((List.length aA : Nat) : Int)) <|
 some (.inl (List.set (List.set aA (Int.toNat (IntKind.i64.wrap (a1 + i10))) (List.getD aA (Int.toNat (IntKind.i64.wrap (b2 + i10))) default)) (Int.toNat (IntKind.i64.wrap (b2 + i10))) (List.getD aA (Int.toNat (IntKind.i64.wrap (a1 + i10))) default), IntKind.i64.wrap (i10 + (1 : Int)))))
 (some (.inr aA))

noncomputable def IG {α : Type} [Inhabited α] (cmp4 : α → α → Option Int) (aA : List α) (a1 : Int) (b2 : Int) (n3 : Int) (i10 : Int) : Option (List α) :=
 (lp (fun s => uA cmp4 a1 b2 n3 s.1 s.2) (aA, i10)).bind (fun rr => some rr)

noncomputable def yX {α : Type} [Inhabited α] (aA : (List α)) (a1 : Int) (b2 : Int) (n3 : Int) (cmp4 : α → α → Option Int) : Option (List α) :=
 IG cmp4 aA a1 b2 n3 (0 : Int)

noncomputable def HL {α : Type} [Inhabited α] (cmp4 : α → α → Option Int) (aA : List α) (m2 : Int) (i10 : Int) : Option (List α) :=
 (yX aA (IntKind.i64.wrap (m2 - i10)) m2 i10 cmp4).bind fun x1 =>
 some x1

noncomputable def qZ {α : Type} [Inhabited α] (cmp4 : α → α → Option Int) (m2 : Int) (aA : List α) (i10 : Int) (j11 : Int) : Option ((List α × Int × Int) ⊕ ((List α × Int))) :=
 cond (!decide (i10 = j11))
 (cond (decide (j11 < i10))
 ((yX aA (IntKind.i64.wrap (m2 - i10)) m2 j11 cmp4).bind fun x4 =>
 some (.inl (x4, IntKind.i64.wrap (i10 - j11), j11)))
 ((yX aA (IntKind.i64.wrap (m2 - i10)) (IntKind.i64.wrap ((IntKind.i64.wrap (m2 + j11)) - i10)) i10 cmp4).bind fun x7 =>
 some (.inl (x7, i10, IntKind.i64.wrap (j11 - i10)))))
 (some (.inr (aA, i10)))

noncomputable def NW {α : Type} [Inhabited α] (cmp4 : α → α → Option Int) (aA : List α) (m2 : Int) (i10 : Int) (j11 : Int) : Option (List α) :=
 (lp (fun s => qZ cmp4 m2 s.1 s.2.1 s.2.2) (aA, i10, j11)).bind (fun rr => HL cmp4 rr.1 m2 rr.2)

noncomputable def GM {α : Type} [Inhabited α] (aA : (List α)) (a1 : Int) (m2 : Int) (b3 : Int) (cmp4 : α → α → Option Int) : Option (List α) :=
 NW cmp4 aA m2 (IntKind.i64.wrap (m2 - a1)) (IntKind.i64.wrap (b3 - m2))

noncomputable def EW {α : Type} [Inhabited α] (cmp4 : α → α → Option Int) (rec : (List α) → Int → Int → Int → Option (List α)) (aA : List α) (b3 : Int) (bV : Int) (gK : Int) : Option (List α) :=
 cond ((decide (bV < gK)) && (decide (gK < b3)))
 ((rec aA bV gK b3).bind fun x2 =>
 some x2)
 (some aA)

noncomputable def uM {α : Type} [Inhabited α] (cmp4 : α → α → Option Int) (rec : (List α) → Int → Int → Int → Option (List α)) (aA : List α) (a1 : Int) (b3 : Int) (bV : Int) (aV : Int) (gK : Int) : Option (List α) :=
 cond ((decide (a1 < aV)) && (decide (aV < bV)))
 ((rec aA a1 aV bV).bind fun x6 =>
 EW cmp4 rec x6 b3 bV gK)
 (EW cmp4 rec aA b3 bV gK)

noncomputable def KM {α : Type} [Inhabited α] (cmp4 : α → α → Option Int) (rec : (List α) → Int → Int → Int → Option (List α)) (aA : List α) (a1 : Int) (m2 : Int) (b3 : Int) (bV : Int) (n19 : Int) (aV : Int) : Option (List α) :=
 cond ((decide (aV < m2)) && (decide (m2 < (IntKind.i64.wrap (n19 - aV)))))
 ((GM aA aV m2 (IntKind.i64.wrap (n19 - aV)) cmp4).bind fun x10 =>
 uM cmp4 rec x10 a1 b3 bV aV (IntKind.i64.wrap (n19 - aV)))
 (uM cmp4 rec aA a1 b3 bV aV (IntKind.i64.wrap (n19 - aV)))

noncomputable def tD {α : Type} [Inhabited α] (cmp4 : α → α → Option Int) (rec : (List α) → Int → Int → Int → Option (List α)) (a1 : Int) (m2 : Int) (b3 : Int) (bV : Int) (n19 : Int) (p22 : Int) (aA : List α) (aV : Int) (r21 : Int) : Option ((List α × Int × Int) ⊕ ((List α × Int))) :=
 cond (decide (aV < r21))
 (bA (0 ≤ (1 : Int)) <|
 bA (0 ≤ (IntKind.i64.wrap (p22 - (IntKind.i64.wrap (Int.fdiv (IntKind.u64.wrap (IntKind.i64.wrap (aV + r21))) (2 ^ (min (Int.toNat (1 : Int)) 64)))))) ∧ (IntKind.i64.wrap (p22 - (IntKind.i64.wrap (Int.fdiv (IntKind.u64.wrap (IntKind.i64.wrap (aV + r21))) (2 ^ (min (Int.toNat (1 : Int)) 64)))))) < ((List.length aA : Nat) : Int)) <|
 bA (0 ≤ (IntKind.i64.wrap (Int.fdiv (IntKind.u64.wrap (IntKind.i64.wrap (aV + r21))) (2 ^ (min (Int.toNat (1 : Int)) 64)))) ∧ (IntKind.i64.wrap (Int.fdiv (IntKind.u64.wrap (IntKind.i64.wrap (aV + r21))) (2 ^ (min (Int.toNat (1 : Int)) 64)))) < ((List.length aA : Nat) : Int)) <|
 (cmp4 (List.getD aA (Int.toNat (IntKind.i64.wrap (p22 - (IntKind.i64.wrap (Int.fdiv (IntKind.u64.wrap (IntKind.i64.wrap (aV + r21))) (2 ^ (min (Int.toNat (1 : Int)) 64))))))) default) (List.getD aA (Int.toNat (IntKind.i64.wrap (Int.fdiv (IntKind.u64.wrap (IntKind.i64.wrap (aV + r21))) (2 ^ (min (Int.toNat (1 : Int)) 64))))) default)).bind fun x17 =>
 cond (!(decide (x17 < (0 : Int))))
 (some (.inl (aA, IntKind.i64.wrap ((IntKind.i64.wrap (Int.fdiv (IntKind.u64.wrap (IntKind.i64.wrap (aV + r21))) (2 ^ (min (Int.toNat (1 : Int)) 64)))) + (1 : Int)), r21)))
 (some (.inl (aA, aV, IntKind.i64.wrap (Int.fdiv (IntKind.u64.wrap (IntKind.i64.wrap (aV + r21))) (2 ^ (min (Int.toNat (1 : Int)) 64)))))))
 (some (.inr (aA, aV)))

noncomputable def KL {α : Type} [Inhabited α] (cmp4 : α → α → Option Int) (rec : (List α) → Int → Int → Int → Option (List α)) (aA : List α) (a1 : Int) (m2 : Int) (b3 : Int) (bV : Int) (n19 : Int) (aV : Int) (r21 : Int) (p22 : Int) : Option (List α) :=
 (lp (fun s => tD cmp4 rec a1 m2 b3 bV n19 p22 s.1 s.2.1 s.2.2) (aA, aV, r21)).bind (fun rr => KM cmp4 rec rr.1 a1 m2 b3 bV n19 rr.2)

noncomputable def AU {α : Type} [Inhabited α] (cmp4 : α → α → Option Int) (rec : (List α) → Int → Int → Int → Option (List α)) (aA : List α) (a1 : Int) (m2 : Int) (b3 : Int) (bV : Int) (n19 : Int) (aV : Int) (r21 : Int) : Option (List α) :=
 KL cmp4 rec aA a1 m2 b3 bV n19 aV r21 (IntKind.i64.wrap (n19 - (1 : Int)))

noncomputable def AP {α : Type} [Inhabited α] (cmp4 : α → α → Option Int) (rec : (List α) → Int → Int → Int → Option (List α)) (aA : List α) (a1 : Int) (m2 : Int) (b3 : Int) : Option (List α) :=
 bA (0 ≤ (1 : Int)) <|
 cond (decide ((IntKind.i64.wrap (Int.fdiv (IntKind.u64.wrap (IntKind.i64.wrap (a1 + b3))) (2 ^ (min (Int.toNat (1 : Int)) 64)))) < m2))
 (AU cmp4 rec aA a1 m2 b3 (IntKind.i64.wrap (Int.fdiv (IntKind.u64.wrap (IntKind.i64.wrap (a1 + b3))) (2 ^ (min (Int.toNat (1 : Int)) 64)))) (IntKind.i64.wrap ((IntKind.i64.wrap (Int.fdiv (IntKind.u64.wrap (IntKind.i64.wrap (a1 + b3))) (2 ^ (min (Int.toNat (1 : Int)) 64)))) + m2)) (IntKind.i64.wrap ((IntKind.i64.wrap ((IntKind.i64.wrap (Int.fdiv (IntKind.u64.wrap (IntKind.i64.wrap (a1 + b3))) (2 ^ (min (Int.toNat (1 : Int)) 64)))) + m2)) - b3)) (IntKind.i64.wrap (Int.fdiv (IntKind.u64.wrap (IntKind.i64.wrap (a1 + b3))) (2 ^ (min (Int.toNat (1 : Int)) 64)))))
 (AU cmp4 rec aA a1 m2 b3 (IntKind.i64.wrap (Int.fdiv (IntKind.u64.wrap (IntKind.i64.wrap (a1 + b3))) (2 ^ (min (Int.toNat (1 : Int)) 64)))) (IntKind.i64.wrap ((IntKind.i64.wrap (Int.fdiv (IntKind.u64.wrap (IntKind.i64.wrap (a1 + b3))) (2 ^ (min (Int.toNat (1 : Int)) 64)))) + m2)) a1 m2)

noncomputable def KN {α : Type} [Inhabited α] (cmp4 : α → α → Option Int) (rec : (List α) → Int → Int → Int → Option (List α)) (aA : List α) : Option (List α) :=
 some aA

noncomputable def sH {α : Type} [Inhabited α] (cmp4 : α → α → Option Int) (rec : (List α) → Int → Int → Int → Option (List α)) (i14 : Int) (aA : List α) (k17 : Int) : Option ((List α × Int) ⊕ ((List α))) :=
 cond (decide (i14 < k17))
 (bA (0 ≤ (IntKind.i64.wrap (k17 - (1 : Int))) ∧ (IntKind.i64.wrap (k17 - (1 : Int))) < ((List.length aA : Nat) : Int)) <|
 bA (0 ≤ k17 ∧ k17 < ((List.length aA : Nat) : Int)) <|
 bA (0 ≤ k17 ∧ k17 < ((List.length aA : Nat) : Int)) <|
 bA (0 ≤ (IntKind.i64.wrap (k17 - (1 : Int))) ∧ (IntKind.i64.wrap (k17 - (1 : Int))) < ((List.length aA : Nat) : Int)) <|
 some (.inl (List.set (List.set aA (Int.toNat k17) (List.getD aA (Int.toNat (IntKind.i64.wrap (k17 - (1 : Int)))) default)) (Int.toNat (IntKind.i64.wrap (k17 - (1 : Int)))) (List.getD aA (Int.toNat k17) default), IntKind.i64.wrap (k17 - (1 : Int)))))
 (some (.inr aA))

noncomputable def HU {α : Type} [Inhabited α] (cmp4 : α → α → Option Int) (rec : (List α) → Int → Int → Int → Option (List α)) (aA : List α) (i14 : Int) (k17 : Int) : Option (List α) :=
 (lp (fun s => sH cmp4 rec i14 s.1 s.2) (aA, k17)).bind (fun rr => KN cmp4 rec rr)

noncomputable def KH {α : Type} [Inhabited α] (cmp4 : α → α → Option Int) (rec : (List α) → Int → Int → Int → Option (List α)) (aA : List α) (m2 : Int) (i14 : Int) : Option (List α) :=
 HU cmp4 rec aA i14 m2

noncomputable def sK {α : Type} [Inhabited α] (cmp4 : α → α → Option Int) (rec : (List α) → Int → Int → Int → Option (List α)) (m2 : Int) (aA : List α) (i14 : Int) (j15 : Int) : Option ((List α × Int × Int) ⊕ ((List α × Int))) :=
 cond (decide (i14 < j15))
 (bA (0 ≤ (1 : Int)) <|
 bA (0 ≤ m2 ∧ m2 < ((List.length aA : Nat) : Int)) <|
 bA (0 ≤ (IntKind.i64.wrap (Int.fdiv (IntKind.u64.wrap (IntKind.i64.wrap (i14 + j15))) (2 ^ (min (Int.toNat (1 : Int)) 64)))) ∧ (IntKind.i64.wrap (Int.fdiv (IntKind.u64.wrap (IntKind.i64.wrap (i14 + j15))) (2 ^ (min (Int.toNat (1 : Int)) 64)))) < ((List.length aA : Nat) : Int)) <|
 (cmp4 (List.getD aA (Int.toNat m2) default) (List.getD aA (Int.toNat (IntKind.i64.wrap (Int.fdiv (IntKind.u64.wrap (IntKind.i64.wrap (i14 + j15))) (2 ^ (min (Int.toNat (1 : Int)) 64))))) default)).bind fun x31 =>
 cond (!(decide (x31 < (0 : Int))))
 (some (.inl (aA, IntKind.i64.wrap ((IntKind.i64.wrap (Int.fdiv (IntKind.u64.wrap (IntKind.i64.wrap (i14 + j15))) (2 ^ (min (Int.toNat (1 : Int)) 64)))) + (1 : Int)), j15)))
 (some (.inl (aA, i14, IntKind.i64.wrap (Int.fdiv (IntKind.u64.wrap (IntKind.i64.wrap (i14 + j15))) (2 ^ (min (Int.toNat (1 : Int)) 64)))))))
 (some (.inr (aA, i14)))

noncomputable def IN {α : Type} [Inhabited α] (cmp4 : α → α → Option Int) (rec : (List α) → Int → Int → Int → Option (List α)) (aA : List α) (m2 : Int) (i14 : Int) (j15 : Int) : Option (List α) :=
 (lp (fun s => sK cmp4 rec m2 s.1 s.2.1 s.2.2) (aA, i14, j15)).bind (fun rr => KH cmp4 rec rr.1 m2 rr.2)

noncomputable def ET {α : Type} [Inhabited α] (cmp4 : α → α → Option Int) (rec : (List α) → Int → Int → Int → Option (List α)) (aA : List α) (a1 : Int) (m2 : Int) (b3 : Int) : Option (List α) :=
 cond (decide ((IntKind.i64.wrap (b3 - m2)) = (1 : Int)))
 (IN cmp4 rec aA m2 a1 m2)
 (AP cmp4 rec aA a1 m2 b3)

noncomputable def ID {α : Type} [Inhabited α] (cmp4 : α → α → Option Int) (rec : (List α) → Int → Int → Int → Option (List α)) (aA : List α) : Option (List α) :=
 some aA

noncomputable def sL {α : Type} [Inhabited α] (cmp4 : α → α → Option Int) (rec : (List α) → Int → Int → Int → Option (List α)) (i10 : Int) (aA : List α) (k13 : Int) : Option ((List α × Int) ⊕ ((List α))) :=
 cond (decide (k13 < (IntKind.i64.wrap (i10 - (1 : Int)))))
 (bA (0 ≤ (IntKind.i64.wrap (k13 + (1 : Int))) ∧ (IntKind.i64.wrap (k13 + (1 : Int))) < ((List.length aA : Nat) : Int)) <|
 bA (0 ≤ k13 ∧ k13 < ((List.length aA : Nat) : Int)) <|
 bA (0 ≤ k13 ∧ k13 < ((List.length aA : Nat) : Int)) <|
 bA (0 ≤ (IntKind.i64.wrap (k13 + (1 : Int))) ∧ (IntKind.i64.wrap (k13 + (1 : Int))) < ((List.length aA : Nat) : Int)) <|
 some (.inl (List.set (List.set aA (Int.toNat k13) (List.getD aA (Int.toNat (IntKind.i64.wrap (k13 + (1 : Int)))) default)) (Int.toNat (IntKind.i64.wrap (k13 + (1 : Int)))) (List.getD aA (Int.toNat k13) default), IntKind.i64.wrap (k13 + (1 : Int)))))
 (some (.inr aA))

noncomputable def HY {α : Type} [Inhabited α] (cmp4 : α → α → Option Int) (rec : (List α) → Int → Int → Int → Option (List α)) (aA : List α) (i10 : Int) (k13 : Int) : Option (List α) :=
 (lp (fun s => sL cmp4 rec i10 s.1 s.2) (aA, k13)).bind (fun rr => ID cmp4 rec rr)

noncomputable def IP {α : Type} [Inhabited α] (cmp4 : α → α → Option Int) (rec : (List α) → Int → Int → Int → Option (List α)) (aA : List α) (a1 : Int) (i10 : Int) : Option (List α) :=
 HY cmp4 rec aA i10 a1

noncomputable def sM {α : Type} [Inhabited α] (cmp4 : α → α → Option Int) (rec : (List α) → Int → Int → Int → Option (List α)) (a1 : Int) (aA : List α) (i10 : Int) (j11 : Int) : Option ((List α × Int × Int) ⊕ ((List α × Int))) :=
 cond (decide (i10 < j11))
 (bA (0 ≤ (1 : Int)) <|
 bA (0 ≤ (IntKind.i64.wrap (Int.fdiv (IntKind.u64.wrap (IntKind.i64.wrap (i10 + j11))) (2 ^ (min (Int.toNat (1 : Int)) 64)))) ∧ (IntKind.i64.wrap (Int.fdiv (IntKind.u64.wrap (IntKind.i64.wrap (i10 + j11))) (2 ^ (min (Int.toNat (1 : Int)) 64)))) < ((List.length aA : Nat) : Int)) <|
 bA (0 ≤ a1 ∧ a1 < ((List.length aA : Nat) : Int)) <|
 (cmp4 (List.getD aA (Int.toNat (IntKind.i64.wrap (Int.fdiv (IntKind.u64.wrap (IntKind.i64.wrap (i10 + j11))) (2 ^ (min (Int.toNat (1 : Int)) 64))))) default) (List.getD aA (Int.toNat a1) default)).bind fun x45 =>
 cond (decide (x45 < (0 : Int)))
 (some (.inl (aA, IntKind.i64.wrap ((IntKind.i64.wrap (Int.fdiv (IntKind.u64.wrap (IntKind.i64.wrap (i10 + j11))) (2 ^ (min (Int.toNat (1 : Int)) 64)))) + (1 : Int)), j11)))
 (some (.inl (aA, i10, IntKind.i64.wrap (Int.fdiv (IntKind.u64.wrap (IntKind.i64.wrap (i10 + j11))) (2 ^ (min (Int.toNat (1 : Int)) 64)))))))
 (some (.inr (aA, i10)))

noncomputable def IJ {α : Type} [Inhabited α] (cmp4 : α → α → Option Int) (rec : (List α) → Int → Int → Int → Option (List α)) (aA : List α) (a1 : Int) (i10 : Int) (j11 : Int) : Option (List α) :=
 (lp (fun s => sM cmp4 rec a1 s.1 s.2.1 s.2.2) (aA, i10, j11)).bind (fun rr => IP cmp4 rec rr.1 a1 rr.2)

noncomputable def gR {α : Type} [Inhabited α] (cmp4 : α → α → Option Int) (rec : (List α) → Int → Int → Int → Option (List α)) (aA : (List α)) (a1 : Int) (m2 : Int) (b3 : Int) : Option (List α) :=
 cond (decide ((IntKind.i64.wrap (m2 - a1)) = (1 : Int)))
 (IJ cmp4 rec aA a1 m2 b3)
 (ET cmp4 rec aA a1 m2 b3)

noncomputable def gT {α : Type} [Inhabited α] (cmp4 : α → α → Option Int) : Nat → (List α) → Int → Int → Int → Option (List α)
 | 0 => fun _ _ _ _ => none
 | k + 1 => gR cmp4 (gT cmp4 k)

noncomputable def tV {α : Type} [Inhabited α] (aA : (List α)) (a1 : Int) (m2 : Int) (b3 : Int) (cmp4 : α → α → Option Int) : Option (List α) := HF (fun k => gT cmp4 k aA a1 m2 b3)

noncomputable def DZ {α : Type} [Inhabited α] (cmp2 : α → α → Option Int) (aA : List α) (n1 : Int) (aP : Int) : Option ((List α × Int) ⊕ ((List α))) :=
 some (.inl (aA, IntKind.i64.wrap (aP * (2 : Int))))

noncomputable def zY {α : Type} [Inhabited α] (cmp2 : α → α → Option Int) (aA : List α) (n1 : Int) (aP : Int) (a7 : Int) : Option ((List α × Int) ⊕ ((List α))) :=
 cond (decide ((IntKind.i64.wrap (a7 + aP)) < n1))
 ((tV aA a7 (IntKind.i64.wrap (a7 + aP)) n1 cmp2).bind fun x4 =>
 DZ cmp2 x4 n1 aP)
 (DZ cmp2 aA n1 aP)

noncomputable def rC {α : Type} [Inhabited α] (cmp2 : α → α → Option Int) (n1 : Int) (aP : Int) (aA : List α) (a7 : Int) (b8 : Int) : Option ((List α × Int × Int) ⊕ ((List α × Int))) :=
 cond (decide (b8 ≤ n1))
 ((tV aA a7 (IntKind.i64.wrap (a7 + aP)) b8 cmp2).bind fun x8 =>
 some (.inl (x8, b8, IntKind.i64.wrap (b8 + (IntKind.i64.wrap ((2 : Int) * aP))))))
 (some (.inr (aA, a7)))

noncomputable def AG {α : Type} [Inhabited α] (cmp2 : α → α → Option Int) (aA : List α) (n1 : Int) (aP : Int) (a7 : Int) (b8 : Int) : Option ((List α × Int) ⊕ ((List α))) :=
 (lp (fun s => rC cmp2 n1 aP s.1 s.2.1 s.2.2) (aA, a7, b8)).bind (fun rr => zY cmp2 rr.1 n1 aP rr.2)

noncomputable def oL {α : Type} [Inhabited α] (cmp2 : α → α → Option Int) (n1 : Int) (aA : List α) (aP : Int) : Option ((List α × Int) ⊕ ((List α))) :=
 cond (decide (aP < n1))
 (AG cmp2 aA n1 aP (0 : Int) (IntKind.i64.wrap ((2 : Int) * aP)))
 (some (.inr aA))

noncomputable def DT {α : Type} [Inhabited α] (cmp2 : α → α → Option Int) (aA : List α) (n1 : Int) (aP : Int) : Option (List α) :=
 (lp (fun s => oL cmp2 n1 s.1 s.2) (aA, aP)).bind (fun rr => some rr)

noncomputable def DU {α : Type} [Inhabited α] (cmp2 : α → α → Option Int) (aA : List α) (n1 : Int) (aP : Int) (a7 : Int) : Option (List α) :=
 (sD aA a7 n1 cmp2).bind fun x1 =>
 DT cmp2 x1 n1 aP

noncomputable def rB {α : Type} [Inhabited α] (cmp2 : α → α → Option Int) (n1 : Int) (aP : Int) (aA : List α) (a7 : Int) (b8 : Int) : Option ((List α × Int × Int) ⊕ ((List α × Int))) :=
 cond (decide (b8 ≤ n1))
 ((sD aA a7 b8 cmp2).bind fun x13 =>
 some (.inl (x13, b8, IntKind.i64.wrap (b8 + aP))))
 (some (.inr (aA, a7)))

noncomputable def DN {α : Type} [Inhabited α] (cmp2 : α → α → Option Int) (aA : List α) (n1 : Int) (aP : Int) (a7 : Int) (b8 : Int) : Option (List α) :=
 (lp (fun s => rB cmp2 n1 aP s.1 s.2.1 s.2.2) (aA, a7, b8)).bind (fun rr => DU cmp2 rr.1 n1 aP rr.2)

noncomputable def BL {α : Type} [Inhabited α] (aA : (List α)) (n1 : Int) (cmp2 : α → α → Option Int) : Option (List α) :=
 DN cmp2 aA n1 (20 : Int) (0 : Int) (20 : Int)

end Go.Abs
namespace Go.Abs
open Go
variable {α : Type} [Inhabited α]
structure Cmp {β : Type} (ok : β → Prop) (le : β → β → Prop) (cmp : β → β → Option Int) : Prop where
 ans : ∀ x y, ok x → ok y → ∃ v, cmp x y = some v ∧ (v < 0 ↔ ¬ le y x)
 trans : ∀ x y z, ok x → ok y → ok z → le x y → le y z → le x z
 total : ∀ x y, ok x → ok y → le x y ∨ le y x

abbrev Srt {β : Type} (le : β → β → Prop) (l : List β) : Prop := l.Pairwise le

abbrev Oks {β : Type} (ok : β → Prop) (l : List β) : Prop := ∀ x ∈ l, ok x

theorem aEf {Q R : List α} {x : α} : (Q ++ x :: R).getD Q.length default = x := by simp [List.getD_eq_getElem?_getD]

theorem aFt {β : Type} {Q R : List β} {x y : β} : (Q ++ x :: R).set Q.length y = Q ++ y :: R := by simp

theorem uN {Q R d : List α} {x : α} {n : Nat} (hd : d = Q ++ x :: R) (hn : n = Q.length) : d.getD n default = x := by subst hd; subst hn; exact aEf

theorem IL {β : Type} {Q R d : List β} {x y : β} {n : Nat} (hd : d = Q ++ x :: R) (hn : n = Q.length) : d.set n y = Q ++ y :: R := by subst hd; subst hn; exact aFt

theorem wr {n : Int} (h1 : -1099511627776 ≤ n) (h2 : n ≤ 8796093022208) : IntKind.i64.wrap n = n := fV (by omega) (by omega)

theorem YW {β : Type} {Q M R d : List β} {x y : β} {a b : Nat} (hd : d = Q ++ x :: (M ++ y :: R)) (ha : a = Q.length) (hb : b = Q.length + 1 + M.length) : (d.set a y).set b x = Q ++ y :: (M ++ x :: R) := by
 rw [IL hd ha, IL (Q := Q ++ y :: M) (x := y) (R := R) (by simp) (by simp; omega)]
 simp

section ins
variable {ok : α → Prop} {le : α → α → Prop} {cmp : α → α → Option Int}
theorem KK {A T : List α} {x : α} {a b i : Int} {P : List α} (ha : a = (P.length : Nat)) (hl : (P ++ A ++ x :: T).length ≤ 1099511627776)
  (hs : A = [] ∨ ∃ A' y v, A = A' ++ [y] ∧ cmp x y = some v ∧ ¬ v < 0) : qT cmp a b i (P ++ A ++ x :: T) ((P.length + A.length : Nat) : Int) = some (.inr (P ++ A ++ x :: T)) := by
 simp only [List.length_append, List.length_cons] at hl
 unfold qT
 rcases hs with rfl | ⟨A', y, v, rfl, hc, hv⟩
 ·have h : decide (a < ((P.length + ([] : List α).length : Nat) : Int)) = false := by subst ha; simp
  rw [h, aQ (fun h => by cases h), aQ (fun h => by cases h)]
  simp [eD]
 ·simp only [List.length_append, List.length_cons, List.length_nil] at hl ⊢
  have h : decide (a < ((P.length + (A'.length + (0 + 1)) : Nat) : Int)) = true := by subst ha; simp; omega
  have hw : IntKind.i64.wrap (((P.length + (A'.length + (0 + 1)) : Nat) : Int) - 1) = ((P.length + A'.length : Nat) : Int) := by rw [wr (by omega) (by omega)]; omega
  have g1 : (P ++ (A' ++ [y]) ++ x :: T).getD (P.length + (A'.length + (0 + 1))) default = x := uN (Q := P ++ (A' ++ [y])) rfl (by simp)
  have g2 : (P ++ (A' ++ [y]) ++ x :: T).getD (P.length + A'.length) default = y := uN (Q := P ++ A') (R := x :: T) (by simp) (by simp)
  rw [h, hw, aQ (fun _ => ⟨by omega, by omega⟩), aQ (fun _ => ⟨by omega, by omega⟩)]
  rw [Int.toNat_natCast, Int.toNat_natCast, g1, g2]
  simp [eD, hc, hv]

theorem ZL {A T : List α} {x y : α} {v : Int} {a b i : Int} {P : List α} (ha : a = (P.length : Nat)) (hl : (P ++ (A ++ [y]) ++ x :: T).length ≤ 1099511627776)
  (hc : cmp x y = some v) (hv : v < 0) : qT cmp a b i (P ++ (A ++ [y]) ++ x :: T) ((P.length + (A ++ [y]).length : Nat) : Int) = some (.inl (P ++ A ++ x :: (y :: T), ((P.length + A.length : Nat) : Int))) := by
 simp only [List.length_append, List.length_cons, List.length_nil] at hl ⊢
 unfold qT
 have h : decide (a < ((P.length + (A.length + (0 + 1)) : Nat) : Int)) = true := by subst ha; simp; omega
 have hw : IntKind.i64.wrap (((P.length + (A.length + (0 + 1)) : Nat) : Int) - 1) = ((P.length + A.length : Nat) : Int) := by rw [wr (by omega) (by omega)]; omega
 have g1 : (P ++ (A ++ [y]) ++ x :: T).getD (P.length + (A.length + (0 + 1))) default = x := uN (Q := P ++ (A ++ [y])) rfl (by simp)
 have g2 : (P ++ (A ++ [y]) ++ x :: T).getD (P.length + A.length) default = y := uN (Q := P ++ A) (R := x :: T) (by simp) (by simp)
 have hs : ((P ++ (A ++ [y]) ++ x :: T).set (P.length + (A.length + (0 + 1))) y).set (P.length + A.length) x = P ++ A ++ x :: (y :: T) := by
  rw [IL (Q := P ++ (A ++ [y])) (x := x) (R := T) rfl (by simp), IL (Q := P ++ A) (x := y) (R := y :: T) (by simp) (by simp)]
 have b1 : 0 ≤ ((P.length + (A.length + (0 + 1)) : Nat) : Int) ∧ ((P.length + (A.length + (0 + 1)) : Nat) : Int) < ((List.length (P ++ (A ++ [y]) ++ x :: T) : Nat) : Int) := ⟨by omega, by simp only [List.length_append, List.length_cons, List.length_nil]; omega⟩
 have b2 : 0 ≤ ((P.length + A.length : Nat) : Int) ∧ ((P.length + A.length : Nat) : Int) < ((List.length (P ++ (A ++ [y]) ++ x :: T) : Nat) : Int) := ⟨by omega, by simp only [List.length_append, List.length_cons, List.length_nil]; omega⟩
 rw [h, hw, aQ (fun _ => b1), aQ (fun _ => b2), Int.toNat_natCast, Int.toNat_natCast, g1, g2]
 simp only [eD, cond_true, hc, Option.bind_some, Bool.true_and, decide_eq_true hv]
 rw [aQ b2, aQ b1, aQ b1, aQ b2, hs]

theorem aCu (C : Cmp ok le cmp) {x : α} (hx : ok x) {a b i : Int} {P : List α} (ha : a = (P.length : Nat)) : ∀ (n : Nat) (A B T : List α), A.length = n → Oks ok A → Oks ok B → Srt le (A ++ B) → (∀ y ∈ B, ¬ le y x) → (P ++ A ++ x :: (B ++ T)).length ≤ 1099511627776 →
  ∃ D, D.Perm (A ++ x :: B) ∧ Srt le D ∧ lp (fun s : List α × Int => qT cmp a b i s.1 s.2) (P ++ A ++ x :: (B ++ T), ((P.length + A.length : Nat) : Int)) = some (P ++ D ++ T) := by
 intro n
 induction n with
 | zero =>
  intro A B T hn _ hB hs hlt hl
  have hA : A = [] := List.length_eq_zero_iff.1 hn
  subst hA
  refine ⟨x :: B, List.Perm.refl _, ?_, ?_⟩
  ·refine List.pairwise_cons.2 ⟨fun y hy => ?_, by simpa using hs⟩
   rcases C.total x y hx (hB y hy) with h | h
   ·exact h
   ·exact absurd h (hlt y hy)
  ·rw [cE (KK ha hl (Or.inl rfl))]; simp
 | succ n ih =>
  intro A B T hn hA hB hs hlt hl
  obtain ⟨A', y, rfl⟩ : ∃ A' y, A = A' ++ [y] := by
   rcases List.eq_nil_or_concat A with h | ⟨A', y, h⟩
   ·rw [h] at hn; simp at hn
   ·exact ⟨A', y, by simpa using h⟩
  have hy : ok y := hA y (by simp)
  obtain ⟨v, hc, hv⟩ := C.ans x y hx hy
  by_cases hneg : v < 0
  ·have hb := ZL (i := i) (b := b) ha hl hc hneg
   have hl' : (P ++ A' ++ x :: ((y :: B) ++ T)).length ≤ 1099511627776 := by
    simp only [List.length_append, List.length_cons, List.length_nil] at hl ⊢; omega
   obtain ⟨D, d1, d2, d3⟩ := ih A' (y :: B) T (by simpa using hn) (fun z hz => hA z (by simp [hz])) (fun z hz => by rcases List.mem_cons.1 hz with rfl | hz; exact hy; exact hB z hz) (by simpa using hs)
    (fun z hz => by rcases List.mem_cons.1 hz with rfl | hz; exact hv.1 hneg; exact hlt z hz) hl'
   refine ⟨D, d1.trans ?_, d2, ?_⟩
   ·simp only [List.append_assoc, List.singleton_append]
    exact List.Perm.append_left _ (List.Perm.swap ..)
   ·rw [dO hb]; simpa using d3
  ·refine ⟨A' ++ [y] ++ x :: B, List.Perm.refl _, ?_, ?_⟩
   ·have hyx : le y x := Classical.byContradiction fun h => hneg (hv.2 h)
    simp only [Srt, List.pairwise_append] at hs ⊢
    obtain ⟨s1, s2, s3⟩ := hs
    refine ⟨s1, List.pairwise_cons.2 ⟨fun z hz => ?_, s2⟩, ?_⟩
    ·rcases C.total x z hx (hB z hz) with h | h
     ·exact h
     ·exact absurd h (hlt z hz)
    ·intro z hz w hw
     rcases List.mem_cons.1 hw with rfl | hw
     ·rcases List.mem_append.1 hz with hz' | hz'
      ·exact C.trans z y w (hA z hz) hy hx (s1.2.2 z hz' y (by simp)) hyx
      ·rw [List.mem_singleton] at hz'; subst hz'; exact hyx
     ·exact s3 z hz w hw
   ·rw [cE (KK ha hl (Or.inr ⟨A', y, v, rfl, hc, hneg⟩))]
    simp

theorem TL (C : Cmp ok le cmp) {a b : Int} {P : List α} (ha : a = (P.length : Nat)) : ∀ (B A T : List α), Oks ok A → Oks ok B → Srt le A → b = ((P.length + A.length + B.length : Nat) : Int) → (P ++ A ++ (B ++ T)).length ≤ 1099511627776 →
  ∃ D, D.Perm (A ++ B) ∧ Srt le D ∧ lp (fun s : List α × Int => oD cmp a b s.1 s.2) (P ++ A ++ (B ++ T), ((P.length + A.length : Nat) : Int)) = some (P ++ D ++ T)
 | [], A, T, _, _, hs, hb, _ => by
  refine ⟨A, by simp, hs, cE ?_⟩
  have : decide (((P.length + A.length : Nat) : Int) < b) = false := by subst hb; simp
  simp only [oD, this, cond_false, List.nil_append]
 | x :: B, A, T, hA, hB, hs, hb, hl => by
  obtain ⟨D, d1, d2, d3⟩ := aCu C (hB x (by simp)) (b := b) (i := ((P.length + A.length : Nat) : Int)) ha A.length A [] (B ++ T) rfl hA (by intro z hz; simp at hz) (by simpa using hs) (by simp) (by simpa using hl)
  have hD : D.length = A.length + 1 := by rw [d1.length_eq]; simp
  have hlt : decide (((P.length + A.length : Nat) : Int) < b) = true := by subst hb; simp; omega
  have hbod : (fun s : List α × Int => oD cmp a b s.1 s.2) (P ++ A ++ (x :: B ++ T), ((P.length + A.length : Nat) : Int)) = some (.inl (P ++ D ++ (B ++ T), ((P.length + D.length : Nat) : Int))) := by
   show oD cmp a b _ _ = _
   simp only [oD, hlt, cond_true, EB]
   rw [show P ++ A ++ (x :: B ++ T) = P ++ A ++ x :: ([] ++ (B ++ T)) by simp, d3]
   simp only [Option.bind_some, EF]
   rw [wr (by omega) (by simp only [List.length_append, List.length_cons] at hl; omega), hD]
   congr 1
  have hl' : (P ++ D ++ (B ++ T)).length ≤ 1099511627776 := by simp only [List.length_append, List.length_cons] at hl ⊢; omega
  obtain ⟨E, e1, e2, e3⟩ := TL C (b := b) ha B D T (fun z hz => by
   have := d1.mem_iff.1 hz
   rcases List.mem_append.1 this with h | h
   ·exact hA z h
   ·rw [List.mem_singleton] at h; subst h; exact hB z (by simp)) (fun z hz => hB z (by simp [hz])) d2 (by rw [hb]; simp only [List.length_cons]; congr 1; omega) hl'
  refine ⟨E, e1.trans ?_, e2, by rw [dO hbod]; exact e3⟩
  have := d1.append_right B
  simpa using this

theorem aCP (C : Cmp ok le cmp) {P A T : List α} {a b : Int} (ha : a = (P.length : Nat)) (hb : b = ((P.length + A.length : Nat) : Int)) (hA : Oks ok A) (hl : (P ++ A ++ T).length ≤ 1099511627776) :
  ∃ D, D.Perm A ∧ Srt le D ∧ sD (P ++ A ++ T) a b cmp = some (P ++ D ++ T) := by
 unfold sD EH
 simp only [List.length_append] at hl
 cases A with
 | nil =>
  refine ⟨[], List.Perm.refl _, List.Pairwise.nil, ?_⟩
  rw [cE (r := P ++ [] ++ T)]
  ·rfl
  ·have : decide (IntKind.i64.wrap (a + 1) < b) = false := by
    rw [wr (by omega) (by omega)]; subst ha; subst hb; simp; omega
   simp only [oD, this, cond_false]
 | cons x A =>
  simp only [List.length_cons] at hl
  have hw : IntKind.i64.wrap (a + 1) = ((P.length + [x].length : Nat) : Int) := by rw [wr (by omega) (by omega)]; subst ha; simp
  obtain ⟨D, d1, d2, d3⟩ := TL C (b := b) ha A [x] T (fun z hz => by rw [List.mem_singleton] at hz; subst hz; exact hA z (by simp)) (fun z hz => hA z (by simp [hz])) (by simp) (by rw [hb]; simp only [List.length_cons, List.length_nil]; congr 1; omega) (by simp only [List.length_append, List.length_cons, List.length_nil]; omega)
  refine ⟨D, by simpa using d1, d2, ?_⟩
  rw [hw, show P ++ x :: A ++ T = P ++ [x] ++ (A ++ T) by simp, d3]
  rfl

end ins
theorem LJ {cmp : α → α → Option Int} {a b n : Int} : ∀ (X Y Q Z R : List α) (i : Nat), X.length = Y.length → a + i = (Q.length : Nat) → b + i = ((Q.length + X.length + Z.length : Nat) : Int) → n = ((i + X.length : Nat) : Int) → 0 ≤ a → 0 ≤ b → (Q ++ X ++ Z ++ Y ++ R).length ≤ 1099511627776 →
  lp (fun s : List α × Int => uA cmp a b n s.1 s.2) (Q ++ X ++ Z ++ Y ++ R, ((i : Nat) : Int)) = some (Q ++ Y ++ Z ++ X ++ R)
 | [], Y, Q, Z, R, i, hxy, ha, hb, hn, _, _, hl => by
  have : Y = [] := List.length_eq_zero_iff.1 hxy.symm
  subst this
  refine cE ?_
  have : decide (((i : Nat) : Int) < n) = false := by subst hn; simp
  simp only [uA, this, cond_false]
 | x :: X, [], Q, Z, R, i, hxy, _, _, _, _, _, _ => by simp at hxy
 | x :: X, y :: Y, Q, Z, R, i, hxy, ha, hb, hn, ha0, hb0, hl => by
  simp only [List.length_append, List.length_cons] at hl hb hn hxy
  have hlt : decide (((i : Nat) : Int) < n) = true := by subst hn; simp; omega
  have wa : IntKind.i64.wrap (a + i) = ((Q.length : Nat) : Int) := by rw [wr (by omega) (by omega)]; exact ha
  have wb : IntKind.i64.wrap (b + i) = ((Q.length + 1 + (X ++ Z).length : Nat) : Int) := by rw [wr (by omega) (by omega), hb]; simp only [List.length_append]; congr 1; omega
  have wi : IntKind.i64.wrap (((i : Nat) : Int) + 1) = ((i + 1 : Nat) : Int) := by rw [wr (by omega) (by omega)]; omega
  have hd : Q ++ x :: X ++ Z ++ y :: Y ++ R = Q ++ x :: ((X ++ Z) ++ y :: (Y ++ R)) := by simp
  have b1 : 0 ≤ ((Q.length : Nat) : Int) ∧ ((Q.length : Nat) : Int) < ((List.length (Q ++ x :: X ++ Z ++ y :: Y ++ R) : Nat) : Int) := ⟨by omega, by simp only [List.length_append, List.length_cons]; omega⟩
  have b2 : 0 ≤ ((Q.length + 1 + (X ++ Z).length : Nat) : Int) ∧ ((Q.length + 1 + (X ++ Z).length : Nat) : Int) < ((List.length (Q ++ x :: X ++ Z ++ y :: Y ++ R) : Nat) : Int) := ⟨by omega, by simp only [List.length_append, List.length_cons]; omega⟩
  have g1 : (Q ++ x :: X ++ Z ++ y :: Y ++ R).getD Q.length default = x := uN hd rfl
  have g2 : (Q ++ x :: X ++ Z ++ y :: Y ++ R).getD (Q.length + 1 + (X ++ Z).length) default = y := uN (Q := Q ++ x :: X ++ Z) (R := Y ++ R) (by simp) (by simp; omega)
  have hbod : (fun s : List α × Int => uA cmp a b n s.1 s.2) (Q ++ x :: X ++ Z ++ y :: Y ++ R, ((i : Nat) : Int)) = some (.inl ((Q ++ [y]) ++ X ++ (Z ++ [x]) ++ Y ++ R, ((i + 1 : Nat) : Int))) := by
   show uA cmp a b n _ _ = _
   simp only [uA, hlt, cond_true, wa, wb, wi, aQ b1, aQ b2, Int.toNat_natCast, g1, g2]
   rw [YW hd rfl rfl]
   simp
  rw [dO hbod, LJ X Y (Q ++ [y]) (Z ++ [x]) R (i + 1) (by omega) (by simp; omega) (by simp; omega) (by rw [hn]; congr 1; omega) ha0 hb0 (by simp only [List.length_append, List.length_cons, List.length_nil]; omega)]
  simp

theorem SM {cmp : α → α → Option Int} {a b n : Int} {X Y Q Z R d : List α} (hd : d = Q ++ X ++ Z ++ Y ++ R) (hxy : X.length = Y.length) (ha : a = (Q.length : Nat)) (hb : b = ((Q.length + X.length + Z.length : Nat) : Int)) (hn : n = (X.length : Nat)) (hl : d.length ≤ 1099511627776) :
  yX d a b n cmp = some (Q ++ Y ++ Z ++ X ++ R) := by
 subst hd
 unfold yX IG
 have := LJ (cmp := cmp) (a := a) (b := b) (n := n) X Y Q Z R 0 hxy (by omega) (by omega) (by omega) (by omega) (by omega) hl
 simp only [Int.natCast_zero] at this
 rw [this]; rfl

theorem aCp {cmp : α → α → Option Int} {m : Int} : ∀ (n : Nat) (X Y Q R : List α), X.length + Y.length ≤ n → X ≠ [] → Y ≠ [] → m = ((Q.length + X.length : Nat) : Int) → (Q ++ X ++ Y ++ R).length ≤ 1099511627776 →
  (lp (fun s : List α × Int × Int => qZ cmp m s.1 s.2.1 s.2.2) (Q ++ X ++ Y ++ R, ((X.length : Nat) : Int), ((Y.length : Nat) : Int))).bind (fun rr => HL cmp rr.1 m rr.2) = some (Q ++ Y ++ X ++ R) := by
 intro n
 induction n with
 | zero => intro X Y Q R hn hX; exact absurd (List.length_eq_zero_iff.1 (by omega)) hX
 | succ n ih =>
  intro X Y Q R hn hX hY hm hl
  have hX' : 0 < X.length := List.length_pos_iff.2 hX
  have hY' : 0 < Y.length := List.length_pos_iff.2 hY
  simp only [List.length_append] at hl
  rcases Nat.lt_trichotomy X.length Y.length with h | h | h
  ·-- the second is longer
   obtain ⟨Y1, Y2, rfl, hY2⟩ : ∃ Y1 Y2, Y = Y1 ++ Y2 ∧ Y2.length = X.length := ⟨Y.take (Y.length - X.length), Y.drop (Y.length - X.length), (List.take_append_drop _ _).symm, by rw [List.length_drop]; omega⟩
   simp only [List.length_append] at hn hl h
   have hne : decide (((X.length : Nat) : Int) = (((Y1 ++ Y2).length : Nat) : Int)) = false := by simp only [List.length_append]; simp; omega
   have hlt : decide ((((Y1 ++ Y2).length : Nat) : Int) < ((X.length : Nat) : Int)) = false := by simp only [List.length_append]; simp; omega
   have e1 : IntKind.i64.wrap (m - ((X.length : Nat) : Int)) = ((Q.length : Nat) : Int) := by rw [wr (by omega) (by omega)]; omega
   have e0 : IntKind.i64.wrap (m + (((Y1 ++ Y2).length : Nat) : Int)) = m + (((Y1 ++ Y2).length : Nat) : Int) := by simp only [List.length_append]; exact wr (by omega) (by omega)
   have e2 : IntKind.i64.wrap (m + (((Y1 ++ Y2).length : Nat) : Int) - ((X.length : Nat) : Int)) = ((Q.length + X.length + Y1.length : Nat) : Int) := by simp only [List.length_append]; rw [wr (by omega) (by omega)]; omega
   have e3 : IntKind.i64.wrap ((((Y1 ++ Y2).length : Nat) : Int) - ((X.length : Nat) : Int)) = ((Y1.length : Nat) : Int) := by simp only [List.length_append]; rw [wr (by omega) (by omega)]; omega
   have hbod : (fun s : List α × Int × Int => qZ cmp m s.1 s.2.1 s.2.2) (Q ++ X ++ (Y1 ++ Y2) ++ R, ((X.length : Nat) : Int), (((Y1 ++ Y2).length : Nat) : Int)) = some (.inl (Q ++ Y2 ++ Y1 ++ (X ++ R), ((Y2.length : Nat) : Int), ((Y1.length : Nat) : Int))) := by
    show qZ cmp m _ _ _ = _
    simp only [qZ, hne, Bool.not_false, cond_true, hlt, cond_false, e0, e1, e2, e3]
    rw [SM (X := X) (Y := Y2) (Q := Q) (Z := Y1) (R := R) (by simp) hY2.symm rfl rfl rfl (by simp only [List.length_append]; omega)]
    simp [hY2]
   rw [dO hbod, ih Y2 Y1 Q (X ++ R) (by omega) (fun h => by rw [h] at hY2; simp at hY2; omega) (fun h' => by rw [h'] at h; simp at h; omega) (by rw [hm]; congr 1; omega) (by simp only [List.length_append]; omega)]
   simp
  ·-- alike
   have hne : decide (((X.length : Nat) : Int) = ((Y.length : Nat) : Int)) = true := by simp; omega
   rw [cE (r := (Q ++ X ++ Y ++ R, ((X.length : Nat) : Int))) (by show qZ cmp m _ _ _ = _; simp only [qZ, hne, Bool.not_true, cond_false])]
   simp only [Option.bind_some, HL]
   have e1 : IntKind.i64.wrap (m - ((X.length : Nat) : Int)) = ((Q.length : Nat) : Int) := by rw [wr (by omega) (by omega)]; omega
   rw [e1, SM (X := X) (Y := Y) (Q := Q) (Z := []) (R := R) (by simp) h rfl (by rw [hm]; simp) rfl (by simp only [List.length_append]; omega)]
   simp
  ·-- the first is longer
   obtain ⟨X1, X2, rfl, hX1⟩ : ∃ X1 X2, X = X1 ++ X2 ∧ X1.length = Y.length := ⟨X.take Y.length, X.drop Y.length, (List.take_append_drop _ _).symm, by rw [List.length_take]; omega⟩
   simp only [List.length_append] at hn hl h hm
   have hne : decide ((((X1 ++ X2).length : Nat) : Int) = ((Y.length : Nat) : Int)) = false := by simp only [List.length_append]; simp; omega
   have hlt : decide (((Y.length : Nat) : Int) < (((X1 ++ X2).length : Nat) : Int)) = true := by simp only [List.length_append]; simp; omega
   have e1 : IntKind.i64.wrap (m - (((X1 ++ X2).length : Nat) : Int)) = ((Q.length : Nat) : Int) := by simp only [List.length_append]; rw [wr (by omega) (by omega)]; omega
   have e3 : IntKind.i64.wrap ((((X1 ++ X2).length : Nat) : Int) - ((Y.length : Nat) : Int)) = ((X2.length : Nat) : Int) := by simp only [List.length_append]; rw [wr (by omega) (by omega)]; omega
   have hbod : (fun s : List α × Int × Int => qZ cmp m s.1 s.2.1 s.2.2) (Q ++ (X1 ++ X2) ++ Y ++ R, (((X1 ++ X2).length : Nat) : Int), ((Y.length : Nat) : Int)) = some (.inl ((Q ++ Y) ++ X2 ++ X1 ++ R, ((X2.length : Nat) : Int), ((X1.length : Nat) : Int))) := by
    show qZ cmp m _ _ _ = _
    simp only [qZ, hne, Bool.not_false, cond_true, hlt, e1, e3]
    rw [SM (X := X1) (Y := Y) (Q := Q) (Z := X2) (R := R) (by simp) hX1 rfl (by rw [hm]; congr 1; omega) (by rw [hX1]) (by simp only [List.length_append]; omega)]
    simp [hX1]
   rw [dO hbod, ih X2 X1 (Q ++ Y) R (by omega) (fun h' => by rw [h'] at h; simp at h; omega) (fun h => by rw [h] at hX1; simp at hX1; omega) (by rw [hm]; simp only [List.length_append]; congr 1; omega) (by simp only [List.length_append]; omega)]
   simp

theorem aF5 {cmp : α → α → Option Int} {a m b : Int} {X Y Q R d : List α} (hd : d = Q ++ X ++ Y ++ R) (hX : X ≠ []) (hY : Y ≠ []) (ha : a = (Q.length : Nat)) (hm : m = ((Q.length + X.length : Nat) : Int)) (hb : b = ((Q.length + X.length + Y.length : Nat) : Int)) (hl : d.length ≤ 1099511627776) :
  GM d a m b cmp = some (Q ++ Y ++ X ++ R) := by
 subst hd
 unfold GM NW
 have hl' := hl
 simp only [List.length_append] at hl'
 rw [show IntKind.i64.wrap (m - a) = ((X.length : Nat) : Int) by rw [wr (by omega) (by omega)]; omega, show IntKind.i64.wrap (b - m) = ((Y.length : Nat) : Int) by rw [wr (by omega) (by omega)]; omega]
 exact aCp _ X Y Q R (Nat.le_refl _) hX hY hm hl

end Go.Abs
namespace Go.Abs
open Go
variable {α : Type} [Inhabited α]
theorem half {s : Nat} (h : s ≤ 4398046511104) : IntKind.i64.wrap (Int.fdiv (IntKind.u64.wrap (IntKind.i64.wrap (s : Int))) (2 ^ (min (Int.toNat (1 : Int)) 64))) = ((s / 2 : Nat) : Int) := by
 rw [wr (n := (s : Int)) (by omega) (by omega)]
 have hu : IntKind.u64.wrap (s : Int) = (s : Int) := by
  simp only [IntKind.wrap, IntKind.bits, IntKind.signed]
  simp
  omega
 have hp : (2 : Int) ^ (min (Int.toNat (1 : Int)) 64) = 2 := by decide
 rw [hu, hp, Int.fdiv_eq_ediv_of_nonneg _ (by omega), wr (by omega) (by omega)]
 omega

theorem IX {P B S d : List α} {n k : Nat} (hd : d = P ++ B ++ S) (hn : n = P.length + k) (hk : k < B.length) : d.getD n default = B.getD k default := by
 subst hd; subst hn
 simp only [List.getD_eq_getElem?_getD]
 rw [List.append_assoc, List.getElem?_append_right (by omega), List.getElem?_append_left (by omega)]
 congr 2; omega

theorem JI {l : List α} {t : Nat} {y : α} (h : y ∈ l.take t) : ∃ i, i < t ∧ i < l.length ∧ y = l.getD i default := by
 obtain ⟨i, hi, rfl⟩ := List.mem_iff_getElem.1 h
 rw [List.length_take] at hi
 refine ⟨i, by omega, by omega, ?_⟩
 rw [List.getElem_take, List.getD_eq_getElem?_getD, List.getElem?_eq_getElem (by omega)]; rfl

theorem yQ {l : List α} {t : Nat} {y : α} (h : y ∈ l.drop t) : ∃ i, t ≤ i ∧ i < l.length ∧ y = l.getD i default := by
 obtain ⟨i, hi, rfl⟩ := List.mem_iff_getElem.1 h
 rw [List.length_drop] at hi
 refine ⟨t + i, by omega, by omega, ?_⟩
 rw [List.getElem_drop, List.getD_eq_getElem?_getD, List.getElem?_eq_getElem (by omega)]; rfl

theorem fI {l : List α} {i : Nat} (h : i < l.length) : l.getD i default ∈ l := by
 rw [List.getD_eq_getElem?_getD, List.getElem?_eq_getElem h]; exact List.getElem_mem h

section sym
variable {ok : α → Prop} {le : α → α → Prop} {cmp : α → α → Option Int}
theorem Cmp.refl {β : Type} {ok : β → Prop} {le : β → β → Prop} {cmp : β → β → Option Int} (C : Cmp ok le cmp) {x : β} (h : ok x) : le x x := by rcases C.total x x h h with h | h <;> exact h

theorem wW (C : Cmp ok le cmp) {l : List α} (ho : Oks ok l) (hs : Srt le l) {i j : Nat} (hij : i ≤ j) (hj : j < l.length) : le (l.getD i default) (l.getD j default) := by
 rcases Nat.lt_or_eq_of_le hij with h | h
 ·have := List.pairwise_iff_getElem.1 hs i j (by omega) hj h
  simpa [List.getD_eq_getElem?_getD, List.getElem?_eq_getElem hj, List.getElem?_eq_getElem (show i < l.length by omega)] using this
 ·subst h; exact C.refl (ho _ (fI hj))

theorem XR {β : Type} {le : β → β → Prop} {l : List β} (h : Srt le l) (t : Nat) : Srt le (l.take t) := List.Pairwise.sublist (List.take_sublist t l) h

theorem XF {β : Type} {le : β → β → Prop} {l : List β} (h : Srt le l) (t : Nat) : Srt le (l.drop t) := List.Pairwise.sublist (List.drop_sublist t l) h

theorem XJ {β : Type} {body : (List β × Int × Int) → Option ((List β × Int × Int) ⊕ (List β × Int))} {d : List β} {f : Nat → Prop} {lo hi : Nat}
  (hb : ∀ i j : Nat, lo ≤ i → i < j → j ≤ hi → ∃ t : Bool, (t = true ↔ f ((i + j) / 2)) ∧ body (d, (i : Int), (j : Int)) = some (.inl (if t then (d, (((i + j) / 2 + 1 : Nat) : Int), (j : Int)) else (d, (i : Int), (((i + j) / 2 : Nat) : Int)))))
  (he : ∀ i : Nat, body (d, (i : Int), (i : Int)) = some (.inr (d, (i : Int)))) :
  ∀ (n i j : Nat), j - i ≤ n → lo ≤ i → i ≤ j → j ≤ hi → (i = lo ∨ f (i - 1)) → (j = hi ∨ ¬ f j) → ∃ s, lo ≤ s ∧ s ≤ hi ∧ (s = lo ∨ f (s - 1)) ∧ (s = hi ∨ ¬ f s) ∧ lp body (d, (i : Int), (j : Int)) = some (d, ((s : Nat) : Int)) := by
 intro n
 induction n with
 | zero =>
  intro i j hn h1 h2 h3 h4 h5
  have : i = j := by omega
  subst this
  exact ⟨i, h1, h3, h4, h5, cE (he i)⟩
 | succ n ih =>
  intro i j hn h1 h2 h3 h4 h5
  by_cases hij : i = j
  ·subst hij; exact ⟨i, h1, h3, h4, h5, cE (he i)⟩
  ·obtain ⟨t, ht, hbt⟩ := hb i j h1 (by omega) h3
   cases t
   ·obtain ⟨s, r1, r2, r3, r4, r5⟩ := ih i ((i + j) / 2) (by omega) h1 (by omega) (by omega) h4 (Or.inr (fun h => by have := ht.2 h; cases this))
    refine ⟨s, r1, r2, r3, r4, ?_⟩
    rw [dO hbt]; exact r5
   ·obtain ⟨s, r1, r2, r3, r4, r5⟩ := ih ((i + j) / 2 + 1) j (by omega) (by omega) (by omega) h3 (Or.inr (by simpa using ht.1 rfl)) h5
    refine ⟨s, r1, r2, r3, r4, ?_⟩
    rw [dO hbt]; exact r5

def QE (le : α → α → Prop) (P A B S r : List α) : Prop := ∃ D, D.Perm (A ++ B) ∧ Srt le D ∧ r = P ++ D ++ S

theorem aEw {cmp : α → α → Option Int} {rec : List α → Int → Int → Int → Option (List α)} {e : Int} {x : α} : ∀ (B Q R : List α) (k : Nat), k = Q.length → e = ((Q.length + B.length + 1 : Nat) : Int) → (Q ++ x :: B ++ R).length ≤ 1099511627776 →
  lp (fun s : List α × Int => sL cmp rec e s.1 s.2) (Q ++ x :: B ++ R, (k : Int)) = some (Q ++ B ++ x :: R)
 | [], Q, R, k, hk, he, hl => by
  simp only [List.length_append, List.length_cons, List.length_nil] at hl he
  refine cE ?_
  show sL cmp rec e _ _ = _
  have : decide ((k : Int) < IntKind.i64.wrap (e - 1)) = false := by rw [wr (by omega) (by omega)]; simp; omega
  simp only [sL, this, cond_false]
  simp
 | y :: B, Q, R, k, hk, he, hl => by
  simp only [List.length_append, List.length_cons] at hl he
  have h1 : decide ((k : Int) < IntKind.i64.wrap (e - 1)) = true := by rw [wr (by omega) (by omega)]; simp; omega
  have hw : IntKind.i64.wrap ((k : Int) + 1) = ((k + 1 : Nat) : Int) := by rw [wr (by omega) (by omega)]; omega
  have b1 : 0 ≤ (k : Int) ∧ (k : Int) < ((List.length (Q ++ x :: y :: B ++ R) : Nat) : Int) := ⟨by omega, by simp only [List.length_append, List.length_cons]; omega⟩
  have b2 : 0 ≤ ((k + 1 : Nat) : Int) ∧ ((k + 1 : Nat) : Int) < ((List.length (Q ++ x :: y :: B ++ R) : Nat) : Int) := ⟨by omega, by simp only [List.length_append, List.length_cons]; omega⟩
  have hd : Q ++ x :: y :: B ++ R = Q ++ x :: ([] ++ y :: (B ++ R)) := by simp
  have g1 : (Q ++ x :: y :: B ++ R).getD k default = x := uN hd hk
  have g2 : (Q ++ x :: y :: B ++ R).getD (k + 1) default = y := uN (Q := Q ++ [x]) (R := B ++ R) (by simp) (by simp; omega)
  have hb : (fun s : List α × Int => sL cmp rec e s.1 s.2) (Q ++ x :: y :: B ++ R, (k : Int)) = some (.inl ((Q ++ [y]) ++ x :: B ++ R, ((k + 1 : Nat) : Int))) := by
   show sL cmp rec e _ _ = _
   simp only [sL, h1, cond_true, hw, aQ b1, aQ b2, Int.toNat_natCast, g1, g2]
   rw [YW (M := []) hd hk (by simp; omega)]
   simp
  rw [dO hb, aEw B (Q ++ [y]) R (k + 1) (by simp; omega) (by rw [he]; simp only [List.length_append, List.length_cons, List.length_nil]; congr 1; omega) (by simp only [List.length_append, List.length_cons, List.length_nil]; omega)]
  simp

theorem aFi {cmp : α → α → Option Int} {rec : List α → Int → Int → Int → Option (List α)} {e : Int} {x : α} {Q : List α} (he : e = (Q.length : Nat)) : ∀ (n : Nat) (A R : List α) (k : Nat), A.length = n → k = Q.length + A.length → (Q ++ A ++ x :: R).length ≤ 1099511627776 →
  lp (fun s : List α × Int => sH cmp rec e s.1 s.2) (Q ++ A ++ x :: R, (k : Int)) = some (Q ++ x :: A ++ R) := by
 intro n
 induction n with
 | zero =>
  intro A R k hn hk hl
  have hA : A = [] := List.length_eq_zero_iff.1 hn
  subst hA
  refine cE ?_
  show sH cmp rec e _ _ = _
  have : decide (e < (k : Int)) = false := by simp only [List.length_nil] at hk; simp; omega
  simp only [sH, this, cond_false]
  simp
 | succ n ih =>
  intro A R k hn hk hl
  obtain ⟨A', y, rfl⟩ : ∃ A' y, A = A' ++ [y] := by
   rcases List.eq_nil_or_concat A with h | ⟨A', y, h⟩
   ·rw [h] at hn; simp at hn
   ·exact ⟨A', y, by simpa using h⟩
  simp only [List.length_append, List.length_cons, List.length_nil] at hl hk hn
  have h1 : decide (e < (k : Int)) = true := by simp; omega
  have hw : IntKind.i64.wrap ((k : Int) - 1) = ((Q.length + A'.length : Nat) : Int) := by rw [wr (by omega) (by omega)]; omega
  have b1 : 0 ≤ (k : Int) ∧ (k : Int) < ((List.length (Q ++ (A' ++ [y]) ++ x :: R) : Nat) : Int) := ⟨by omega, by simp only [List.length_append, List.length_cons, List.length_nil]; omega⟩
  have b2 : 0 ≤ ((Q.length + A'.length : Nat) : Int) ∧ ((Q.length + A'.length : Nat) : Int) < ((List.length (Q ++ (A' ++ [y]) ++ x :: R) : Nat) : Int) := ⟨by omega, by simp only [List.length_append, List.length_cons, List.length_nil]; omega⟩
  have g1 : (Q ++ (A' ++ [y]) ++ x :: R).getD k default = x := uN (Q := Q ++ (A' ++ [y])) rfl (by simp; omega)
  have g2 : (Q ++ (A' ++ [y]) ++ x :: R).getD (Q.length + A'.length) default = y := uN (Q := Q ++ A') (R := x :: R) (by simp) (by simp)
  have hb : (fun s : List α × Int => sH cmp rec e s.1 s.2) (Q ++ (A' ++ [y]) ++ x :: R, (k : Int)) = some (.inl (Q ++ A' ++ x :: (y :: R), ((Q.length + A'.length : Nat) : Int))) := by
   show sH cmp rec e _ _ = _
   simp only [sH, h1, cond_true, hw, aQ b1, aQ b2, Int.toNat_natCast, g1, g2]
   rw [IL (Q := Q ++ (A' ++ [y])) (x := x) (R := R) rfl (by simp; omega), IL (Q := Q ++ A') (x := y) (R := y :: R) (by simp) (by simp)]
  rw [dO hb, ih A' (y :: R) (Q.length + A'.length) (by omega) rfl (by simp only [List.length_append, List.length_cons]; omega)]
  simp

def aAi (cmp : α → α → Option Int) (le : α → α → Prop) (P A B S : List α) (d : List α) (a m b : Int) : Prop :=
 (∃ r, QE le P A B S r ∧ ∀ rec, gR cmp rec d a m b = some r) ∨
 (∃ A1 A2 B1 B2, A = A1 ++ A2 ∧ B = B1 ++ B2 ∧ 0 < A1.length + B1.length ∧ 0 < A2.length + B2.length ∧ (∀ x ∈ A1 ++ B1, ∀ y ∈ A2 ++ B2, le x y) ∧
  ∀ rec, gR cmp rec d a m b = (cond (decide (A1 ≠ [] ∧ B1 ≠ [])) (rec (P ++ A1 ++ B1 ++ A2 ++ B2 ++ S) a (a + (A1.length : Nat)) (a + ((A1.length + B1.length : Nat) : Int))) (some (P ++ A1 ++ B1 ++ A2 ++ B2 ++ S))).bind fun x =>
   cond (decide (A2 ≠ [] ∧ B2 ≠ [])) (rec x (a + ((A1.length + B1.length : Nat) : Int)) (a + ((A1.length + B1.length + A2.length : Nat) : Int)) b) (some x))

theorem aDa (C : Cmp ok le cmp) {P B S : List α} {x : α} {a m b : Int} (hx : ok x) (hB : Oks ok B) (hs : Srt le B) (ha : a = (P.length : Nat)) (hm : m = ((P.length + 1 : Nat) : Int)) (hb : b = ((P.length + 1 + B.length : Nat) : Int)) (hl : (P ++ x :: B ++ S).length ≤ 1099511627776) :
  ∃ r, QE le P [x] B S r ∧ ∀ rec, gR cmp rec (P ++ x :: B ++ S) a m b = some r := by
 have hl' := hl
 simp only [List.length_append, List.length_cons] at hl'
 have hgx : (P ++ x :: B ++ S).getD P.length default = x := uN (Q := P) (R := B ++ S) (by simp) rfl
 have hgb : ∀ k, k < B.length → (P ++ x :: B ++ S).getD (P.length + 1 + k) default = B.getD k default := fun k hk => IX (P := P ++ [x]) (B := B) (S := S) (by simp) (by simp) hk
 have hbin : ∀ rec, ∃ s : Nat, P.length + 1 ≤ s ∧ s ≤ P.length + 1 + B.length ∧ (s = P.length + 1 ∨ ¬ le x (B.getD (s - 1 - (P.length + 1)) default)) ∧ (s = P.length + 1 + B.length ∨ ¬ ¬ le x (B.getD (s - (P.length + 1)) default)) ∧
   lp (fun s : List α × Int × Int => sM cmp rec a s.1 s.2.1 s.2.2) (P ++ x :: B ++ S, m, b) = some (P ++ x :: B ++ S, ((s : Nat) : Int)) := by
  intro rec
  rw [hm, hb]
  refine XJ (lo := P.length + 1) (hi := P.length + 1 + B.length) (f := fun k => ¬ le x (B.getD (k - (P.length + 1)) default)) ?_ ?_ _ _ _ (Nat.le_refl _) (Nat.le_refl _) (by omega) (Nat.le_refl _) (Or.inl rfl) (Or.inl rfl)
  ·intro i j h1 h2 h3
   have hh : (i + j) / 2 - (P.length + 1) < B.length := by omega
   have e1 : (P ++ x :: B ++ S).getD ((i + j) / 2) default = B.getD ((i + j) / 2 - (P.length + 1)) default := by
    have := hgb ((i + j) / 2 - (P.length + 1)) hh
    rwa [show P.length + 1 + ((i + j) / 2 - (P.length + 1)) = (i + j) / 2 by omega] at this
   obtain ⟨v, hc, hv⟩ := C.ans _ x (hB _ (fI hh)) hx
   refine ⟨decide (v < 0), by simpa using hv, ?_⟩
   show sM cmp rec a _ _ _ = _
   have hlt : decide ((i : Int) < (j : Int)) = true := by simpa using h2
   have hadd : ((i : Int) + (j : Int)) = ((i + j : Nat) : Int) := by omega
   have w1 : IntKind.i64.wrap ((((i + j) / 2 : Nat) : Int) + 1) = (((i + j) / 2 + 1 : Nat) : Int) := by rw [wr (by omega) (by omega)]; omega
   simp only [sM, hlt, cond_true, hadd, half (s := i + j) (by omega), Int.toNat_natCast, ha, e1, hgx, hc, Option.bind_some, w1]
   rw [aQ (by omega), aQ ⟨by omega, by simp only [List.length_append, List.length_cons]; omega⟩, aQ ⟨by omega, by simp only [List.length_append, List.length_cons]; omega⟩]
   by_cases hneg : v < 0 <;> simp [hneg]
  ·intro i
   show sM cmp rec a _ _ _ = _
   have hlt : decide ((i : Int) < (i : Int)) = false := by simp
   simp only [sM, hlt, cond_false]
 obtain ⟨s, s1, s2, s3, s4, s5⟩ := hbin (fun _ _ _ _ => none)
 obtain ⟨t, rfl⟩ : ∃ t, s = P.length + 1 + t := ⟨s - (P.length + 1), by omega⟩
 have ht : t ≤ B.length := by omega
 have hx1 : ∀ i, i < t → le (B.getD i default) x := fun i hi => by
  have h3 : ¬ le x (B.getD (t - 1) default) := by
   rcases s3 with h | h
   ·omega
   ·rwa [show P.length + 1 + t - 1 - (P.length + 1) = t - 1 by omega] at h
  have h4 : le (B.getD (t - 1) default) x := by
   rcases C.total x _ hx (hB _ (fI (show t - 1 < B.length by omega))) with h | h
   ·exact absurd h h3
   ·exact h
  exact C.trans _ _ _ (hB _ (fI (by omega))) (hB _ (fI (by omega))) hx (wW C hB hs (show i ≤ t - 1 by omega) (by omega)) h4
 have hx2 : ∀ j, t ≤ j → j < B.length → le x (B.getD j default) := fun j hj hj' => by
  have h3 : le x (B.getD t default) := by
   rcases s4 with h | h
   ·omega
   ·rw [show P.length + 1 + t - (P.length + 1) = t by omega] at h
    exact Classical.not_not.1 h
  exact C.trans _ _ _ hx (hB _ (fI (by omega))) (hB _ (fI hj')) h3 (wW C hB hs hj hj')
 have hBs : B.take t ++ B.drop t = B := List.take_append_drop t B
 have hlt : (B.take t).length = t := by rw [List.length_take]; omega
 refine ⟨P ++ (B.take t ++ x :: B.drop t) ++ S, ⟨_, ?_, ?_, rfl⟩, fun rec => ?_⟩
 ·have := List.perm_middle (a := x) (l₁ := B.take t) (l₂ := B.drop t)
  rw [hBs] at this; exact this
 ·simp only [Srt, List.pairwise_append, List.pairwise_cons]
  refine ⟨XR hs t, ⟨fun z hz => ?_, XF hs t⟩, fun y hy z hz => ?_⟩
  ·obtain ⟨j, j1, j2, rfl⟩ := yQ hz
   exact hx2 j j1 j2
  ·obtain ⟨i, i1, i2, rfl⟩ := JI hy
   rcases List.mem_cons.1 hz with rfl | hz
   ·exact hx1 i i1
   ·obtain ⟨j, j1, j2, rfl⟩ := yQ hz
    exact wW C hB hs (by omega) j2
 ·have h1 : decide (IntKind.i64.wrap (m - a) = 1) = true := by rw [wr (by omega) (by omega)]; simp; omega
  have s5' : lp (fun s : List α × Int × Int => sM cmp rec a s.1 s.2.1 s.2.2) (P ++ x :: B ++ S, m, b) = some (P ++ x :: B ++ S, ((P.length + 1 + t : Nat) : Int)) := s5
  simp only [gR, h1, cond_true, IJ, s5', Option.bind_some, IP, HY]
  have hmv := aEw (cmp := cmp) (rec := rec) (e := ((P.length + 1 + t : Nat) : Int)) (x := x) (B.take t) P (B.drop t ++ S) P.length rfl (by rw [hlt]; congr 1; omega) (by simp only [List.length_append, List.length_cons, List.length_drop]; omega)
  have hd : P ++ x :: B.take t ++ (B.drop t ++ S) = P ++ x :: B ++ S := by
   have : P ++ x :: B.take t ++ (B.drop t ++ S) = P ++ x :: (B.take t ++ B.drop t) ++ S := by simp only [List.append_assoc, List.cons_append]
   rw [this, hBs]
  rw [hd] at hmv
  rw [ha, hmv]
  simp [ID]

theorem aDS (C : Cmp ok le cmp) {P A S : List α} {x : α} {a m b : Int} (hx : ok x) (hA : Oks ok A) (hs : Srt le A) (hA1 : A.length ≠ 1) (ha : a = (P.length : Nat)) (hm : m = ((P.length + A.length : Nat) : Int)) (hb : b = ((P.length + A.length + 1 : Nat) : Int)) (hl : (P ++ A ++ x :: S).length ≤ 1099511627776) :
  ∃ r, QE le P A [x] S r ∧ ∀ rec, gR cmp rec (P ++ A ++ x :: S) a m b = some r := by
 have hl' := hl
 simp only [List.length_append, List.length_cons] at hl'
 have hgx : (P ++ A ++ x :: S).getD (P.length + A.length) default = x := uN (Q := P ++ A) (R := S) rfl (by simp)
 have hga : ∀ k, k < A.length → (P ++ A ++ x :: S).getD (P.length + k) default = A.getD k default := fun k hk => IX (P := P) (B := A) (S := x :: S) rfl rfl hk
 have hbin : ∀ rec, ∃ s : Nat, P.length ≤ s ∧ s ≤ P.length + A.length ∧ (s = P.length ∨ le (A.getD (s - 1 - P.length) default) x) ∧ (s = P.length + A.length ∨ ¬ le (A.getD (s - P.length) default) x) ∧
   lp (fun s : List α × Int × Int => sK cmp rec m s.1 s.2.1 s.2.2) (P ++ A ++ x :: S, a, m) = some (P ++ A ++ x :: S, ((s : Nat) : Int)) := by
  intro rec
  rw [ha, hm]
  refine XJ (lo := P.length) (hi := P.length + A.length) (f := fun k => le (A.getD (k - P.length) default) x) ?_ ?_ _ _ _ (Nat.le_refl _) (Nat.le_refl _) (by omega) (Nat.le_refl _) (Or.inl rfl) (Or.inl rfl)
  ·intro i j h1 h2 h3
   have hh : (i + j) / 2 - P.length < A.length := by omega
   have e1 : (P ++ A ++ x :: S).getD ((i + j) / 2) default = A.getD ((i + j) / 2 - P.length) default := by
    have := hga ((i + j) / 2 - P.length) hh
    rwa [show P.length + ((i + j) / 2 - P.length) = (i + j) / 2 by omega] at this
   obtain ⟨v, hc, hv⟩ := C.ans x _ hx (hA _ (fI hh))
   refine ⟨!decide (v < 0), by simp only [Bool.not_eq_true', decide_eq_false_iff_not, hv, Classical.not_not], ?_⟩
   show sK cmp rec _ _ _ _ = _
   have hlt : decide ((i : Int) < (j : Int)) = true := by simpa using h2
   have hadd : ((i : Int) + (j : Int)) = ((i + j : Nat) : Int) := by omega
   have w1 : IntKind.i64.wrap ((((i + j) / 2 : Nat) : Int) + 1) = (((i + j) / 2 + 1 : Nat) : Int) := by rw [wr (by omega) (by omega)]; omega
   simp only [sK, hlt, cond_true, hadd, half (s := i + j) (by omega), Int.toNat_natCast, e1, hgx, hc, Option.bind_some, w1]
   rw [aQ (by omega), aQ ⟨by omega, by simp only [List.length_append, List.length_cons]; omega⟩, aQ ⟨by omega, by simp only [List.length_append, List.length_cons]; omega⟩]
   by_cases hneg : v < 0 <;> simp [hneg]
  ·intro i
   show sK cmp rec _ _ _ _ = _
   have hlt : decide ((i : Int) < (i : Int)) = false := by simp
   simp only [sK, hlt, cond_false]
 obtain ⟨s, s1, s2, s3, s4, s5⟩ := hbin (fun _ _ _ _ => none)
 obtain ⟨t, rfl⟩ : ∃ t, s = P.length + t := ⟨s - P.length, by omega⟩
 have ht : t ≤ A.length := by omega
 have hx1 : ∀ i, i < t → le (A.getD i default) x := fun i hi => by
  have h4 : le (A.getD (t - 1) default) x := by
   rcases s3 with h | h
   ·omega
   ·rwa [show P.length + t - 1 - P.length = t - 1 by omega] at h
  exact C.trans _ _ _ (hA _ (fI (by omega))) (hA _ (fI (by omega))) hx (wW C hA hs (show i ≤ t - 1 by omega) (by omega)) h4
 have hx2 : ∀ j, t ≤ j → j < A.length → le x (A.getD j default) := fun j hj hj' => by
  have h3 : le x (A.getD t default) := by
   rcases s4 with h | h
   ·omega
   ·rw [show P.length + t - P.length = t by omega] at h
    rcases C.total x _ hx (hA _ (fI (show t < A.length by omega))) with h' | h'
    ·exact h'
    ·exact absurd h' h
  exact C.trans _ _ _ hx (hA _ (fI (by omega))) (hA _ (fI hj')) h3 (wW C hA hs hj hj')
 have hAs : A.take t ++ A.drop t = A := List.take_append_drop t A
 have hlt : (A.take t).length = t := by rw [List.length_take]; omega
 refine ⟨P ++ (A.take t ++ x :: A.drop t) ++ S, ⟨_, ?_, ?_, rfl⟩, fun rec => ?_⟩
 ·have := List.perm_middle (a := x) (l₁ := A.take t) (l₂ := A.drop t)
  rw [hAs] at this
  exact this.trans (by simpa using (List.perm_append_comm (l₁ := [x]) (l₂ := A)))
 ·simp only [Srt, List.pairwise_append, List.pairwise_cons]
  refine ⟨XR hs t, ⟨fun z hz => ?_, XF hs t⟩, fun y hy z hz => ?_⟩
  ·obtain ⟨j, j1, j2, rfl⟩ := yQ hz
   exact hx2 j j1 j2
  ·obtain ⟨i, i1, i2, rfl⟩ := JI hy
   rcases List.mem_cons.1 hz with rfl | hz
   ·exact hx1 i i1
   ·obtain ⟨j, j1, j2, rfl⟩ := yQ hz
    exact wW C hA hs (by omega) j2
 ·have h1 : decide (IntKind.i64.wrap (m - a) = 1) = false := by rw [wr (by omega) (by omega)]; simp; omega
  have h2 : decide (IntKind.i64.wrap (b - m) = 1) = true := by rw [wr (by omega) (by omega)]; simp; omega
  have s5' : lp (fun s : List α × Int × Int => sK cmp rec m s.1 s.2.1 s.2.2) (P ++ A ++ x :: S, a, m) = some (P ++ A ++ x :: S, ((P.length + t : Nat) : Int)) := s5
  simp only [gR, h1, cond_false, ET, h2, cond_true, IN, s5', Option.bind_some, KH, HU]
  have hmv := aFi (cmp := cmp) (rec := rec) (e := ((P.length + t : Nat) : Int)) (x := x) (Q := P ++ A.take t) (by simp [hlt]) (A.drop t).length (A.drop t) S (P.length + A.length) rfl (by simp only [List.length_append, List.length_drop, hlt]; omega) (by simp only [List.length_append, List.length_cons, List.length_drop, hlt]; omega)
  have hd : P ++ A.take t ++ A.drop t ++ x :: S = P ++ A ++ x :: S := by
   have : P ++ A.take t ++ A.drop t ++ x :: S = P ++ (A.take t ++ A.drop t) ++ x :: S := by simp only [List.append_assoc]
   rw [this, hAs]
  rw [hd] at hmv
  rw [hm, hmv]
  simp [KN]

theorem aEL (C : Cmp ok le cmp) {P A B S : List α} {a m b : Int} (hA : Oks ok A) (hB : Oks ok B) (hsA : Srt le A) (hsB : Srt le B) (hA2 : 2 ≤ A.length) (hB2 : 2 ≤ B.length)
  (ha : a = (P.length : Nat)) (hm : m = ((P.length + A.length : Nat) : Int)) (hb : b = ((P.length + A.length + B.length : Nat) : Int)) (hl : (P ++ A ++ B ++ S).length ≤ 1099511627776) :
  aAi cmp le P A B S (P ++ A ++ B ++ S) a m b := by
 right
 have hl' := hl
 simp only [List.length_append] at hl'
 -- the middle
 obtain ⟨mid, hmid⟩ : ∃ mid : Nat, mid = (P.length + (P.length + A.length + B.length)) / 2 := ⟨_, rfl⟩
 have hga : ∀ k, P.length ≤ k → k < P.length + A.length → (P ++ A ++ B ++ S).getD k default = A.getD (k - P.length) default := fun k h1 h2 => IX (P := P) (B := A) (S := B ++ S) (by simp) (by omega) (by omega)
 have hgb : ∀ k, P.length + A.length ≤ k → k < P.length + A.length + B.length → (P ++ A ++ B ++ S).getD k default = B.getD (k - (P.length + A.length)) default := fun k h1 h2 => IX (P := P ++ A) (B := B) (S := S) (by simp) (by simp; omega) (by omega)
 -- the search
 obtain ⟨lo, hi, hlo, hhi, hbnd, hlohi, hrange, hinit⟩ : ∃ lo hi : Nat, (lo = P.length ∨ lo + (P.length + A.length + B.length) = mid + (P.length + A.length)) ∧ (hi = P.length + A.length ∨ hi = mid) ∧ (P.length ≤ lo ∧ mid + (P.length + A.length) ≤ lo + (P.length + A.length + B.length) ∧ hi ≤ P.length + A.length ∧ hi ≤ mid) ∧ lo ≤ hi ∧
   (∀ c, lo ≤ c → c < hi → P.length ≤ c ∧ c < P.length + A.length ∧ P.length + A.length ≤ mid + (P.length + A.length) - 1 - c ∧ mid + (P.length + A.length) - 1 - c < P.length + A.length + B.length) ∧
   (∀ rec, AP cmp rec (P ++ A ++ B ++ S) a m b = AU cmp rec (P ++ A ++ B ++ S) a m b (mid : Int) ((mid + (P.length + A.length) : Nat) : Int) (lo : Int) (hi : Int)) := by
  have hw0 : IntKind.i64.wrap (Int.fdiv (IntKind.u64.wrap (IntKind.i64.wrap (a + b))) (2 ^ (min (Int.toNat (1 : Int)) 64))) = ((mid : Nat) : Int) := by
   rw [show a + b = ((P.length + (P.length + A.length + B.length) : Nat) : Int) by omega, half (by omega), hmid]
  have hw1 : IntKind.i64.wrap ((mid : Int) + m) = ((mid + (P.length + A.length) : Nat) : Int) := by rw [wr (by omega) (by omega)]; omega
  by_cases hc : mid < P.length + A.length
  ·refine ⟨mid + (P.length + A.length) - (P.length + A.length + B.length), mid, Or.inr (by omega), Or.inr (by omega), by omega, by omega, fun c h1 h2 => ⟨by omega, by omega, by omega, by omega⟩, fun rec => ?_⟩
   have hlt : decide ((mid : Int) < m) = true := by simp; omega
   simp only [AP, hw0, hlt, cond_true, hw1]
   rw [aQ (by omega), show IntKind.i64.wrap (((mid + (P.length + A.length) : Nat) : Int) - b) = ((mid + (P.length + A.length) - (P.length + A.length + B.length) : Nat) : Int) by rw [wr (by omega) (by omega)]; omega]
  ·refine ⟨P.length, P.length + A.length, Or.inl rfl, Or.inl rfl, by omega, by omega, fun c h1 h2 => ⟨by omega, by omega, by omega, by omega⟩, fun rec => ?_⟩
   have hlt : decide ((mid : Int) < m) = false := by simp; omega
   simp only [AP, hw0, hlt, cond_false, hw1]
   rw [aQ (by omega)]
   rw [ha, hm]
 have hbin : ∀ rec, ∃ s : Nat, lo ≤ s ∧ s ≤ hi ∧ (s = lo ∨ le (A.getD (s - 1 - P.length) default) (B.getD (mid + (P.length + A.length) - 1 - (s - 1) - (P.length + A.length)) default)) ∧ (s = hi ∨ ¬ le (A.getD (s - P.length) default) (B.getD (mid + (P.length + A.length) - 1 - s - (P.length + A.length)) default)) ∧
   lp (fun s : List α × Int × Int => tD cmp rec a m b (mid : Int) ((mid + (P.length + A.length) : Nat) : Int) ((mid + (P.length + A.length) - 1 : Nat) : Int) s.1 s.2.1 s.2.2) (P ++ A ++ B ++ S, (lo : Int), (hi : Int)) = some (P ++ A ++ B ++ S, ((s : Nat) : Int)) := by
  intro rec
  refine XJ (lo := lo) (hi := hi) (f := fun k => le (A.getD (k - P.length) default) (B.getD (mid + (P.length + A.length) - 1 - k - (P.length + A.length)) default)) ?_ ?_ _ _ _ (Nat.le_refl _) (Nat.le_refl _) hlohi (Nat.le_refl _) (Or.inl rfl) (Or.inl rfl)
  ·intro i j h1 h2 h3
   obtain ⟨r1, r2, r3, r4⟩ := hrange ((i + j) / 2) (by omega) (by omega)
   have e1 := hga ((i + j) / 2) r1 r2
   have e2 := hgb (mid + (P.length + A.length) - 1 - (i + j) / 2) r3 r4
   obtain ⟨v, hc, hv⟩ := C.ans (B.getD (mid + (P.length + A.length) - 1 - (i + j) / 2 - (P.length + A.length)) default) (A.getD ((i + j) / 2 - P.length) default) (hB _ (fI (by omega))) (hA _ (fI (by omega)))
   refine ⟨!decide (v < 0), by simp only [Bool.not_eq_true', decide_eq_false_iff_not, hv, Classical.not_not], ?_⟩
   show tD cmp rec _ _ _ _ _ _ _ _ _ = _
   have hlt : decide ((i : Int) < (j : Int)) = true := by simpa using h2
   have hadd : ((i : Int) + (j : Int)) = ((i + j : Nat) : Int) := by omega
   have w1 : IntKind.i64.wrap ((((i + j) / 2 : Nat) : Int) + 1) = (((i + j) / 2 + 1 : Nat) : Int) := by rw [wr (by omega) (by omega)]; omega
   have w2 : IntKind.i64.wrap (((mid + (P.length + A.length) - 1 : Nat) : Int) - (((i + j) / 2 : Nat) : Int)) = ((mid + (P.length + A.length) - 1 - (i + j) / 2 : Nat) : Int) := by rw [wr (by omega) (by omega)]; omega
   simp only [tD, hlt, cond_true, hadd, half (s := i + j) (by omega), w1, w2, Int.toNat_natCast, e1, e2, hc, Option.bind_some]
   rw [aQ (by omega), aQ ⟨by omega, by simp only [List.length_append]; omega⟩, aQ ⟨by omega, by simp only [List.length_append]; omega⟩]
   by_cases hneg : v < 0 <;> simp [hneg]
  ·intro i
   show tD cmp rec _ _ _ _ _ _ _ _ _ = _
   have hlt : decide ((i : Int) < (i : Int)) = false := by simp
   simp only [tD, hlt, cond_false]
 obtain ⟨s, s1, s2, s3, s4, s5⟩ := hbin (fun _ _ _ _ => none)
 have hsA0 : P.length ≤ s ∧ s ≤ P.length + A.length := by
  omega
 have hsB0 : P.length + A.length ≤ mid + (P.length + A.length) - s ∧ mid + (P.length + A.length) - s ≤ P.length + A.length + B.length := by
  omega
 obtain ⟨t, rfl⟩ : ∃ t, s = P.length + t := ⟨s - P.length, by omega⟩
 obtain ⟨u, hu⟩ : ∃ u, mid + (P.length + A.length) - (P.length + t) = P.length + A.length + u := ⟨mid + (P.length + A.length) - (P.length + t) - (P.length + A.length), by omega⟩
 have htA : t ≤ A.length := by omega
 have huB : u ≤ B.length := by omega
 have hmtu : mid = P.length + t + u := by omega
 have hAs : A.take t ++ A.drop t = A := List.take_append_drop t A
 have hBs : B.take u ++ B.drop u = B := List.take_append_drop u B
 have hlA1 : (A.take t).length = t := by rw [List.length_take]; omega
 have hlA2 : (A.drop t).length = A.length - t := by rw [List.length_drop]
 have hlB1 : (B.take u).length = u := by rw [List.length_take]; omega
 have hlB2 : (B.drop u).length = B.length - u := by rw [List.length_drop]
 refine ⟨A.take t, A.drop t, B.take u, B.drop u, hAs.symm, hBs.symm, by rw [hlA1, hlB1]; omega, by rw [hlA2, hlB2]; omega, ?_, fun rec => ?_⟩
 ·-- who stands ahead of whom
  intro x hx y hy
  rcases List.mem_append.1 hx with hx | hx
  ·obtain ⟨i, i1, i2, rfl⟩ := JI hx
   rcases List.mem_append.1 hy with hy | hy
   ·obtain ⟨j, j1, j2, rfl⟩ := yQ hy
    exact wW C hA hsA (by omega) j2
   ·obtain ⟨j, j1, j2, rfl⟩ := yQ hy
    have h3 : le (A.getD (t - 1) default) (B.getD u default) := by
     rcases s3 with h | h
     ·rcases hlo with h' | h' <;> omega
     ·rwa [show P.length + t - 1 - P.length = t - 1 by omega, show mid + (P.length + A.length) - 1 - (P.length + t - 1) - (P.length + A.length) = u by omega] at h
    exact C.trans _ _ _ (hA _ (fI i2)) (hA _ (fI (by omega))) (hB _ (fI j2)) (wW C hA hsA (show i ≤ t - 1 by omega) (by omega))
     (C.trans _ _ _ (hA _ (fI (by omega))) (hB _ (fI (by omega))) (hB _ (fI j2)) h3 (wW C hB hsB j1 j2))
  ·obtain ⟨i, i1, i2, rfl⟩ := JI hx
   rcases List.mem_append.1 hy with hy | hy
   ·obtain ⟨j, j1, j2, rfl⟩ := yQ hy
    have h3 : le (B.getD (u - 1) default) (A.getD t default) := by
     have h0 : ¬ le (A.getD t default) (B.getD (u - 1) default) := by
      rcases s4 with h | h
      ·rcases hhi with h' | h' <;> omega
      ·rwa [show P.length + t - P.length = t by omega, show mid + (P.length + A.length) - 1 - (P.length + t) - (P.length + A.length) = u - 1 by omega] at h
     rcases C.total _ _ (hA _ (fI (show t < A.length by omega))) (hB _ (fI (show u - 1 < B.length by omega))) with h | h
     ·exact absurd h h0
     ·exact h
    exact C.trans _ _ _ (hB _ (fI i2)) (hB _ (fI (by omega))) (hA _ (fI j2)) (wW C hB hsB (show i ≤ u - 1 by omega) (by omega))
     (C.trans _ _ _ (hB _ (fI (by omega))) (hA _ (fI (by omega))) (hA _ (fI j2)) h3 (wW C hA hsA j1 j2))
   ·obtain ⟨j, j1, j2, rfl⟩ := yQ hy
    exact wW C hB hsB (by omega) j2
 ·have h1 : decide (IntKind.i64.wrap (m - a) = 1) = false := by rw [wr (by omega) (by omega)]; simp; omega
  have h2 : decide (IntKind.i64.wrap (b - m) = 1) = false := by rw [wr (by omega) (by omega)]; simp; omega
  have s5' : lp (fun s : List α × Int × Int => tD cmp rec a m b (mid : Int) ((mid + (P.length + A.length) : Nat) : Int) ((mid + (P.length + A.length) - 1 : Nat) : Int) s.1 s.2.1 s.2.2) (P ++ A ++ B ++ S, (lo : Int), (hi : Int)) = some (P ++ A ++ B ++ S, ((P.length + t : Nat) : Int)) := s5
  have hp : IntKind.i64.wrap (((mid + (P.length + A.length) : Nat) : Int) - 1) = ((mid + (P.length + A.length) - 1 : Nat) : Int) := by rw [wr (by omega) (by omega)]; omega
  have he : IntKind.i64.wrap (((mid + (P.length + A.length) : Nat) : Int) - ((P.length + t : Nat) : Int)) = ((P.length + A.length + u : Nat) : Int) := by rw [wr (by omega) (by omega)]; omega
  simp only [gR, h1, cond_false, ET, h2, hinit rec, AU, KL, hp, s5', Option.bind_some, KM, he]
  -- the turn
  have hd : P ++ A ++ B ++ S = (P ++ A.take t) ++ A.drop t ++ B.take u ++ (B.drop u ++ S) := by
   have : (P ++ A.take t) ++ A.drop t ++ B.take u ++ (B.drop u ++ S) = P ++ (A.take t ++ A.drop t) ++ (B.take u ++ B.drop u) ++ S := by simp only [List.append_assoc]
   rw [this, hAs, hBs]
  have hrot : cond (decide (((P.length + t : Nat) : Int) < m) && decide (m < ((P.length + A.length + u : Nat) : Int)))
    ((GM (P ++ A ++ B ++ S) ((P.length + t : Nat) : Int) m ((P.length + A.length + u : Nat) : Int) cmp).bind fun x10 => uM cmp rec x10 a b (mid : Int) ((P.length + t : Nat) : Int) ((P.length + A.length + u : Nat) : Int))
    (uM cmp rec (P ++ A ++ B ++ S) a b (mid : Int) ((P.length + t : Nat) : Int) ((P.length + A.length + u : Nat) : Int))
    = uM cmp rec (P ++ A.take t ++ B.take u ++ A.drop t ++ B.drop u ++ S) a b (mid : Int) ((P.length + t : Nat) : Int) ((P.length + A.length + u : Nat) : Int) := by
   by_cases hc : t < A.length ∧ 0 < u
   ·have : (decide (((P.length + t : Nat) : Int) < m) && decide (m < ((P.length + A.length + u : Nat) : Int))) = true := by simp; omega
    rw [this, cond_true, aF5 (Q := P ++ A.take t) (X := A.drop t) (Y := B.take u) (R := B.drop u ++ S) hd (fun h => by rw [h] at hlA2; simp at hlA2; omega) (fun h => by rw [h] at hlB1; simp at hlB1; omega)
     (by simp only [List.length_append, hlA1]) (by simp only [List.length_append, hlA1, hlA2]; rw [hm]; congr 1; omega) (by simp only [List.length_append, hlA1, hlA2, hlB1]; congr 1; omega) hl]
    simp
   ·have : (decide (((P.length + t : Nat) : Int) < m) && decide (m < ((P.length + A.length + u : Nat) : Int))) = false := by
     rw [Bool.eq_false_iff]; intro h; simp at h; apply hc; omega
    rw [this, cond_false, hd]
    congr 1
    by_cases h0 : t < A.length
    ·have : u = 0 := by omega
     subst this; simp
    ·have hz : A.drop t = [] := List.drop_eq_nil_of_le (by omega)
     simp only [hz, List.append_nil, List.append_assoc, List.nil_append]
  rw [hrot]
  have hne1 : decide (A.take t ≠ [] ∧ B.take u ≠ []) = (decide (a < ((P.length + t : Nat) : Int)) && decide (((P.length + t : Nat) : Int) < (mid : Int))) := by
   have q1 : A.take t ≠ [] ↔ 0 < t := by rw [← List.length_pos_iff, hlA1]
   have q2 : B.take u ≠ [] ↔ 0 < u := by rw [← List.length_pos_iff, hlB1]
   rw [Bool.eq_iff_iff]; simp [q1, q2]; omega
  have hne2 : decide (A.drop t ≠ [] ∧ B.drop u ≠ []) = (decide ((mid : Int) < ((P.length + A.length + u : Nat) : Int)) && decide (((P.length + A.length + u : Nat) : Int) < b)) := by
   have q1 : A.drop t ≠ [] ↔ t < A.length := by rw [← List.length_pos_iff, hlA2]; omega
   have q2 : B.drop u ≠ [] ↔ u < B.length := by rw [← List.length_pos_iff, hlB2]; omega
   rw [Bool.eq_iff_iff]; simp [q1, q2]; omega
  rw [hne1, hne2, hlA1, hlB1, hlA2]
  have f1 : a + ((t : Nat) : Int) = ((P.length + t : Nat) : Int) := by omega
  have f2 : a + ((t + u : Nat) : Int) = (mid : Int) := by omega
  have f3 : a + ((t + u + (A.length - t) : Nat) : Int) = ((P.length + A.length + u : Nat) : Int) := by omega
  rw [f1, f2, f3]
  simp only [uM, EW]
  cases (decide (a < ((P.length + t : Nat) : Int)) && decide (((P.length + t : Nat) : Int) < (mid : Int))) <;> simp only [cond_true, cond_false, Option.bind_some, Option.bind_fun_some]

end sym
end Go.Abs
namespace Go.Abs
open Go
variable {α : Type} [Inhabited α] {ok : α → Prop} {le : α → α → Prop} {cmp : α → α → Option Int}
theorem aE1 (C : Cmp ok le cmp) {P A B S : List α} {a m b : Int} (hA : A ≠ []) (hB : B ≠ []) (oA : Oks ok A) (oB : Oks ok B) (sA : Srt le A) (sB : Srt le B)
  (ha : a = (P.length : Nat)) (hm : m = ((P.length + A.length : Nat) : Int)) (hb : b = ((P.length + A.length + B.length : Nat) : Int)) (hl : (P ++ A ++ B ++ S).length ≤ 1099511627776) : aAi cmp le P A B S (P ++ A ++ B ++ S) a m b := by
 by_cases h1 : A.length = 1
 ·obtain ⟨x, rfl⟩ := List.length_eq_one_iff.1 h1
  left
  obtain ⟨r, h, h'⟩ := aDa C (P := P) (S := S) (x := x) (oA x (by simp)) oB sB ha (by simpa using hm) (by simpa using hb) (by simpa using hl)
  exact ⟨r, h, fun rec => by have := h' rec; simpa using this⟩
 ·by_cases h2 : B.length = 1
  ·obtain ⟨x, rfl⟩ := List.length_eq_one_iff.1 h2
   left
   obtain ⟨r, h, h'⟩ := aDS C (P := P) (S := S) (x := x) (oB x (by simp)) oA sA h1 ha hm (by simpa using hb) (by simpa using hl)
   exact ⟨r, h, fun rec => by have := h' rec; simpa using this⟩
  ·have p1 := List.length_pos_iff.2 hA
   have p2 := List.length_pos_iff.2 hB
   exact aEL C oA oB sA sB (by omega) (by omega) ha hm hb hl

theorem OQ (C : Cmp ok le cmp) : ∀ (k : Nat) (P A B S : List α) (a m b : Int), A ≠ [] → B ≠ [] → Oks ok A → Oks ok B → Srt le A → Srt le B →
  a = (P.length : Nat) → m = ((P.length + A.length : Nat) : Int) → b = ((P.length + A.length + B.length : Nat) : Int) → (P ++ A ++ B ++ S).length ≤ 1099511627776 →
  (∀ r, gT cmp k (P ++ A ++ B ++ S) a m b = some r → QE le P A B S r) ∧ (A.length + B.length ≤ k → ∃ r, gT cmp k (P ++ A ++ B ++ S) a m b = some r)
 | 0, P, A, B, S, a, m, b, hA, hB, oA, oB, sA, sB, ha, hm, hb, hl => by
  refine ⟨fun r h => by simp [gT] at h, fun h => ?_⟩
  exact absurd (List.length_eq_zero_iff.1 (by omega)) hA
 | k + 1, P, A, B, S, a, m, b, hA, hB, oA, oB, sA, sB, ha, hm, hb, hl => by
  have part : ∀ (P' A' B' S' : List α) (a' m' b' : Int), Oks ok A' → Oks ok B' → Srt le A' → Srt le B' → a' = (P'.length : Nat) → m' = ((P'.length + A'.length : Nat) : Int) → b' = ((P'.length + A'.length + B'.length : Nat) : Int) → (P' ++ A' ++ B' ++ S').length ≤ 1099511627776 →
    (∀ r, cond (decide (A' ≠ [] ∧ B' ≠ [])) (gT cmp k (P' ++ A' ++ B' ++ S') a' m' b') (some (P' ++ A' ++ B' ++ S')) = some r → QE le P' A' B' S' r) ∧
    (A'.length + B'.length ≤ k → ∃ r, cond (decide (A' ≠ [] ∧ B' ≠ [])) (gT cmp k (P' ++ A' ++ B' ++ S') a' m' b') (some (P' ++ A' ++ B' ++ S')) = some r) := by
   intro P' A' B' S' a' m' b' oA' oB' sA' sB' ha' hm' hb' hl'
   by_cases h : A' ≠ [] ∧ B' ≠ []
   ·rw [decide_eq_true h, cond_true]
    exact OQ C k P' A' B' S' a' m' b' h.1 h.2 oA' oB' sA' sB' ha' hm' hb' hl'
   ·rw [decide_eq_false h, cond_false]
    refine ⟨fun r hr => ?_, fun _ => ⟨_, rfl⟩⟩
    cases hr
    refine ⟨A' ++ B', List.Perm.refl _, ?_, by simp⟩
    by_cases h1 : A' = []
    ·subst h1; simpa using sB'
    ·have h2 : B' = [] := Classical.byContradiction fun h2 => h ⟨h1, h2⟩
     subst h2; simpa using sA'
  rcases aE1 C hA hB oA oB sA sB ha hm hb hl with ⟨r, hr, hs⟩ | ⟨A1, A2, B1, B2, rfl, rfl, p1, p2, hcross, hs⟩
  ·have e : gT cmp (k + 1) (P ++ A ++ B ++ S) a m b = some r := hs _
   exact ⟨fun r' h => by rw [e] at h; cases h; exact hr, fun _ => ⟨r, e⟩⟩
  ·have e := hs (gT cmp k)
   rw [show gR cmp (gT cmp k) = gT cmp (k + 1) from rfl] at e
   have q1 := part P A1 B1 (A2 ++ B2 ++ S) a (a + (A1.length : Nat)) (a + ((A1.length + B1.length : Nat) : Int)) (fun x hx => oA x (by simp [hx])) (fun x hx => oB x (by simp [hx]))
    (List.pairwise_append.1 sA).1 (List.pairwise_append.1 sB).1 ha (by omega) (by omega) (by simp only [List.length_append] at hl ⊢; omega)
   have hd1 : P ++ A1 ++ B1 ++ A2 ++ B2 ++ S = P ++ A1 ++ B1 ++ (A2 ++ B2 ++ S) := by simp
   rw [hd1] at e
   have q2 : ∀ D1 : List α, D1.Perm (A1 ++ B1) → _ := fun D1 hD1 => part (P ++ D1) A2 B2 S (a + ((A1.length + B1.length : Nat) : Int)) (a + ((A1.length + B1.length + A2.length : Nat) : Int)) b (fun x hx => oA x (by simp [hx])) (fun x hx => oB x (by simp [hx]))
    (List.pairwise_append.1 sA).2.1 (List.pairwise_append.1 sB).2.1 (by have := hD1.length_eq; simp only [List.length_append] at this ⊢; omega) (by have := hD1.length_eq; simp only [List.length_append] at this ⊢; omega)
    (by have := hD1.length_eq; rw [hb]; simp only [List.length_append] at this ⊢; congr 1; omega) (by have := hD1.length_eq; simp only [List.length_append] at hl this ⊢; omega)
   refine ⟨fun r h => ?_, fun hk => ?_⟩
   ·rw [e] at h
    obtain ⟨x, h1, h2⟩ := Option.bind_eq_some_iff.1 h
    obtain ⟨D1, d1, d2, rfl⟩ := q1.1 x h1
    have h2' : cond (decide (A2 ≠ [] ∧ B2 ≠ [])) (gT cmp k (P ++ D1 ++ A2 ++ B2 ++ S) (a + ((A1.length + B1.length : Nat) : Int)) (a + ((A1.length + B1.length + A2.length : Nat) : Int)) b) (some (P ++ D1 ++ A2 ++ B2 ++ S)) = some r := by
     have : P ++ D1 ++ (A2 ++ B2 ++ S) = P ++ D1 ++ A2 ++ B2 ++ S := by simp
     rw [this] at h2; exact h2
    obtain ⟨D2, f1, f2, rfl⟩ := (q2 D1 d1).1 r h2'
    refine ⟨D1 ++ D2, ?_, ?_, by simp⟩
    ·refine (d1.append f1).trans ?_
     have : (B1 ++ (A2 ++ B2)).Perm (A2 ++ (B1 ++ B2)) := by
      have := (List.perm_append_comm (l₁ := B1) (l₂ := A2)).append_right B2
      simpa using this
     have := this.append_left A1
     simpa using this
    ·rw [Srt, List.pairwise_append]
     exact ⟨d2, f2, fun x hx y hy => hcross x (d1.mem_iff.1 hx) y (f1.mem_iff.1 hy)⟩
   ·simp only [List.length_append] at hk
    obtain ⟨x, hx⟩ := q1.2 (by omega)
    obtain ⟨D1, d1, d2, rfl⟩ := q1.1 x hx
    obtain ⟨r, hr⟩ := (q2 D1 d1).2 (by omega)
    refine ⟨r, ?_⟩
    rw [e, hx]
    have : P ++ D1 ++ (A2 ++ B2 ++ S) = P ++ D1 ++ A2 ++ B2 ++ S := by simp
    rw [this]; exact hr

theorem aA5 {β : Type} {g : Nat → Option β} (h : ∃ k r, g k = some r) : ∃ r, HF g = some r := by
 unfold HF
 rw [dif_pos h]
 exact Classical.choose_spec h

theorem aCl (C : Cmp ok le cmp) {P A B S d : List α} {a m b : Int} (hd : d = P ++ A ++ B ++ S) (hA : A ≠ []) (hB : B ≠ []) (oA : Oks ok A) (oB : Oks ok B) (sA : Srt le A) (sB : Srt le B)
  (ha : a = (P.length : Nat)) (hm : m = ((P.length + A.length : Nat) : Int)) (hb : b = ((P.length + A.length + B.length : Nat) : Int)) (hl : d.length ≤ 1099511627776) :
  ∃ D, D.Perm (A ++ B) ∧ Srt le D ∧ tV d a m b cmp = some (P ++ D ++ S) := by
 subst hd
 unfold tV
 obtain ⟨r, hr⟩ := (OQ C (A.length + B.length) P A B S a m b hA hB oA oB sA sB ha hm hb hl).2 (Nat.le_refl _)
 obtain ⟨r', hr'⟩ := aA5 (g := fun k => gT cmp k (P ++ A ++ B ++ S) a m b) ⟨_, r, hr⟩
 obtain ⟨k, hk⟩ := EJ hr'
 obtain ⟨D, d1, d2, rfl⟩ := (OQ C k P A B S a m b hA hB oA oB sA sB ha hm hb hl).1 r' hk
 exact ⟨D, d1, d2, hr'⟩

inductive rW {β : Type} (le : β → β → Prop) (n : Nat) : List β → Prop
 | last {l : List β} : l.length ≤ n → Srt le l → rW le n l
 | cons {x l : List β} : x.length = n → Srt le x → rW le n l → rW le n (x ++ l)

theorem rW.srt {β : Type} {le : β → β → Prop} {n : Nat} {l : List β} (h : rW le n l) (hl : l.length ≤ n) : Srt le l := by
 cases h with
 | last _ h => exact h
 | cons hx hs hr =>
  rename_i x r
  have : r = [] := List.length_eq_zero_iff.1 (by simp only [List.length_append] at hl; omega)
  subst this; simpa using hs

theorem rW.split {β : Type} {le : β → β → Prop} {n : Nat} {l : List β} (h : rW le n l) (hl : n < l.length) : ∃ x r, l = x ++ r ∧ x.length = n ∧ Srt le x ∧ rW le n r := by
 cases h with
 | last h' _ => omega
 | cons hx hs hr => exact ⟨_, _, rfl, hx, hs, hr⟩

theorem rW.aFz {β : Type} {le : β → β → Prop} {n : Nat} {l : List β} (hn : 0 < n) (h : rW le n l) (hl : 2 * n ≤ l.length) : ∃ x y r, l = x ++ y ++ r ∧ x.length = n ∧ y.length = n ∧ Srt le x ∧ Srt le y ∧ rW le n r := by
 obtain ⟨x, r, rfl, h1, h2, h3⟩ := h.split (by omega)
 simp only [List.length_append] at hl
 by_cases he : r.length = n
 ·exact ⟨x, r, [], by simp, h1, he, h2, h3.srt (by omega), rW.last (by simp) List.Pairwise.nil⟩
 ·obtain ⟨y, r', rfl, e1, e2, e3⟩ := h3.split (by omega)
  exact ⟨x, y, r', by simp, h1, e1, h2, e2, e3⟩

theorem Oks.perm {β : Type} {ok : β → Prop} {l l' : List β} (h : Oks ok l) (hp : l'.Perm l) : Oks ok l' := fun x hx => h x (hp.mem_iff.1 hx)

theorem aFY (C : Cmp ok le cmp) {n1 : Int} : ∀ (n : Nat) (F G : List α), G.length ≤ n → Oks ok G → n1 = ((F.length + G.length : Nat) : Int) → (F ++ G).length ≤ 1099511627776 →
  ∃ G1 G2, (G1 ++ G2).Perm G ∧ G2.length < 20 ∧ (∀ H, H.length ≤ 20 → Srt le H → rW le 20 (G1 ++ H)) ∧
   lp (fun s : List α × Int × Int => rB cmp n1 20 s.1 s.2.1 s.2.2) (F ++ G, ((F.length : Nat) : Int), ((F.length + 20 : Nat) : Int)) = some (F ++ G1 ++ G2, ((F.length + G1.length : Nat) : Int)) := by
 intro n
 induction n with
 | zero =>
  intro F G hn hG h1 hl
  refine ⟨[], G, by simp, by omega, fun H h2 h3 => rW.last (by simpa using h2) (by simpa using h3), ?_⟩
  rw [cE (r := (F ++ G, ((F.length : Nat) : Int)))]
  ·simp
  ·have : decide (((F.length + 20 : Nat) : Int) ≤ n1) = false := by subst h1; simp; omega
   simp only [rB, this, cond_false]
 | succ n ih =>
  intro F G hn hG h1 hl
  by_cases hg : G.length < 20
  ·refine ⟨[], G, by simp, by omega, fun H h2 h3 => rW.last (by simpa using h2) (by simpa using h3), ?_⟩
   rw [cE (r := (F ++ G, ((F.length : Nat) : Int)))]
   ·simp
   ·have : decide (((F.length + 20 : Nat) : Int) ≤ n1) = false := by subst h1; simp; omega
    simp only [rB, this, cond_false]
  ·obtain ⟨X, R, rfl, hX⟩ : ∃ X R, G = X ++ R ∧ X.length = 20 := ⟨G.take 20, G.drop 20, (List.take_append_drop _ _).symm, by rw [List.length_take]; omega⟩
   simp only [List.length_append] at hn hl h1 hg
   obtain ⟨D, d1, d2, d3⟩ := aCP C (P := F) (A := X) (T := R) (a := ((F.length : Nat) : Int)) (b := ((F.length + 20 : Nat) : Int)) rfl (by rw [hX]) (fun x hx => hG x (by simp [hx])) (by simp only [List.length_append]; omega)
   have hD : D.length = 20 := by rw [d1.length_eq, hX]
   obtain ⟨G1, G2, g1, g2, g3, g4⟩ := ih (F ++ D) R (by omega) (fun x hx => hG x (by simp [hx])) (by rw [h1]; simp only [List.length_append]; congr 1; omega) (by simp only [List.length_append]; omega)
   refine ⟨D ++ G1, G2, ?_, g2, fun H h2 h3 => ?_, ?_⟩
   ·have := d1.append g1
    simpa using this
   ·rw [List.append_assoc]; exact rW.cons hD d2 (g3 H h2 h3)
   ·have hb : (fun s : List α × Int × Int => rB cmp n1 20 s.1 s.2.1 s.2.2) (F ++ (X ++ R), ((F.length : Nat) : Int), ((F.length + 20 : Nat) : Int)) = some (.inl (F ++ D ++ R, (((F ++ D).length : Nat) : Int), (((F ++ D).length + 20 : Nat) : Int))) := by
     show rB cmp n1 20 _ _ _ = _
     have : decide (((F.length + 20 : Nat) : Int) ≤ n1) = true := by subst h1; simp; omega
     simp only [rB, this, cond_true]
     rw [show F ++ (X ++ R) = F ++ X ++ R by simp, d3]
     simp only [Option.bind_some, List.length_append, hD]
     rw [wr (by omega) (by omega)]
     congr 1
    rw [dO hb, g4]
    simp only [List.length_append, List.append_assoc]
    congr 2
    congr 1; omega

theorem aFH (C : Cmp ok le cmp) {n1 : Int} {bs : Nat} (hbs : 0 < bs) (hbs' : bs ≤ 1099511627776) : ∀ (n : Nat) (F G : List α), G.length ≤ n → Oks ok G → rW le bs G → n1 = ((F.length + G.length : Nat) : Int) → (F ++ G).length ≤ 1099511627776 →
  ∃ G1 G2, (G1 ++ G2).Perm G ∧ G2.length < 2 * bs ∧ rW le bs G2 ∧ (∀ H, H.length ≤ 2 * bs → Srt le H → rW le (2 * bs) (G1 ++ H)) ∧
   lp (fun s : List α × Int × Int => rC cmp n1 (bs : Int) s.1 s.2.1 s.2.2) (F ++ G, ((F.length : Nat) : Int), ((F.length + 2 * bs : Nat) : Int)) = some (F ++ G1 ++ G2, ((F.length + G1.length : Nat) : Int)) := by
 have stop : ∀ (F G : List α), rW le bs G → G.length < 2 * bs → n1 = ((F.length + G.length : Nat) : Int) → ∃ G1 G2, (G1 ++ G2).Perm G ∧ G2.length < 2 * bs ∧ rW le bs G2 ∧ (∀ H, H.length ≤ 2 * bs → Srt le H → rW le (2 * bs) (G1 ++ H)) ∧
   lp (fun s : List α × Int × Int => rC cmp n1 (bs : Int) s.1 s.2.1 s.2.2) (F ++ G, ((F.length : Nat) : Int), ((F.length + 2 * bs : Nat) : Int)) = some (F ++ G1 ++ G2, ((F.length + G1.length : Nat) : Int)) := by
  intro F G hG hg h1
  refine ⟨[], G, by simp, hg, hG, fun H h2 h3 => rW.last (by simpa using h2) (by simpa using h3), ?_⟩
  rw [cE (r := (F ++ G, ((F.length : Nat) : Int)))]
  ·simp
  ·have : decide (((F.length + 2 * bs : Nat) : Int) ≤ n1) = false := by subst h1; simp; omega
   show rC cmp n1 _ _ _ _ = _
   simp only [rC, this, cond_false]
 intro n
 induction n with
 | zero => intro F G hn _ hB h1 _; exact stop F G hB (by omega) h1
 | succ n ih =>
  intro F G hn hG hB h1 hl
  by_cases hg : G.length < 2 * bs
  ·exact stop F G hB hg h1
  ·obtain ⟨x, y, R, rfl, x1, y1, sx, sy, hR⟩ := hB.aFz hbs (by omega)
   simp only [List.length_append] at hn hl h1 hg
   obtain ⟨D, d1, d2, d3⟩ := aCl C (P := F) (A := x) (B := y) (S := R) (d := F ++ (x ++ y ++ R)) (a := ((F.length : Nat) : Int)) (m := ((F.length + bs : Nat) : Int)) (b := ((F.length + 2 * bs : Nat) : Int)) (by simp) (fun h => by rw [h] at x1; simp at x1; omega) (fun h => by rw [h] at y1; simp at y1; omega)
    (fun z hz => hG z (by simp [hz])) (fun z hz => hG z (by simp [hz])) sx sy rfl (by rw [x1]) (by rw [x1, y1]; congr 1; omega) (by simp only [List.length_append]; omega)
   have hD : D.length = 2 * bs := by rw [d1.length_eq]; simp only [List.length_append]; omega
   obtain ⟨G1, G2, g1, g2, g3, g4, g5⟩ := ih (F ++ D) R (by omega) (fun z hz => hG z (by simp [hz])) hR (by rw [h1]; simp only [List.length_append]; congr 1; omega) (by simp only [List.length_append]; omega)
   refine ⟨D ++ G1, G2, ?_, g2, g3, fun H h2 h3 => ?_, ?_⟩
   ·have := d1.append g1
    simpa using this
   ·rw [List.append_assoc]; exact rW.cons hD d2 (g4 H h2 h3)
   ·have hb : (fun s : List α × Int × Int => rC cmp n1 (bs : Int) s.1 s.2.1 s.2.2) (F ++ (x ++ y ++ R), ((F.length : Nat) : Int), ((F.length + 2 * bs : Nat) : Int)) = some (.inl (F ++ D ++ R, (((F ++ D).length : Nat) : Int), (((F ++ D).length + 2 * bs : Nat) : Int))) := by
     show rC cmp n1 _ _ _ _ = _
     have : decide (((F.length + 2 * bs : Nat) : Int) ≤ n1) = true := by subst h1; simp; omega
     have w1 : IntKind.i64.wrap (((F.length : Nat) : Int) + (bs : Int)) = ((F.length + bs : Nat) : Int) := by rw [wr (by omega) (by omega)]; omega
     have w2 : IntKind.i64.wrap (2 * (bs : Int)) = 2 * (bs : Int) := wr (by omega) (by omega)
     have w3 : IntKind.i64.wrap (((F.length + 2 * bs : Nat) : Int) + 2 * (bs : Int)) = ((F.length + 2 * bs + 2 * bs : Nat) : Int) := by rw [wr (by omega) (by omega)]; omega
     simp only [rC, this, cond_true, w1, w2, w3, d3, Option.bind_some, List.length_append, hD]
    rw [dO hb, g5]
    simp only [List.length_append, List.append_assoc]
    congr 2
    congr 1; omega

theorem aBa (C : Cmp ok le cmp) {d : List α} {bs : Nat} (hbs : 0 < bs) (hbs' : bs < d.length) (ho : Oks ok d) (hB : rW le bs d) (hl : d.length ≤ 1099511627776) :
  ∃ r, r.Perm d ∧ rW le (2 * bs) r ∧ oL cmp ((d.length : Nat) : Int) d (bs : Int) = some (.inl (r, ((2 * bs : Nat) : Int))) := by
 obtain ⟨G1, G2, g1, g2, g3, g4, g5⟩ := aFH C (n1 := ((d.length : Nat) : Int)) hbs (by omega) d.length [] d (Nat.le_refl _) ho hB (by simp) (by simpa using hl)
 have hlen := g1.length_eq
 simp only [List.length_append] at hlen
 have w2 : IntKind.i64.wrap (2 * (bs : Int)) = ((2 * bs : Nat) : Int) := by rw [wr (by omega) (by omega)]; omega
 have w4 : IntKind.i64.wrap ((bs : Int) * 2) = ((2 * bs : Nat) : Int) := by rw [wr (by omega) (by omega)]; omega
 have hlt : decide ((bs : Int) < ((d.length : Nat) : Int)) = true := by simp; omega
 simp only [List.nil_append, List.length_nil, Nat.zero_add, Int.natCast_zero] at g5
 have w1 : IntKind.i64.wrap (((G1.length : Nat) : Int) + (bs : Int)) = ((G1.length + bs : Nat) : Int) := by rw [wr (by omega) (by omega)]; omega
 by_cases hg : bs < G2.length
 ·obtain ⟨x, y, rfl, x1, sx, hy⟩ := g3.split hg
  simp only [List.length_append] at g2 hg hlen
  have sy : Srt le y := hy.srt (by omega)
  have og : Oks ok (G1 ++ (x ++ y)) := ho.perm g1
  obtain ⟨D, d1, d2, d3⟩ := aCl C (P := G1) (A := x) (B := y) (S := []) (d := G1 ++ (x ++ y)) (a := ((G1.length : Nat) : Int)) (m := ((G1.length + bs : Nat) : Int)) (b := ((d.length : Nat) : Int)) (by simp) (fun h => by rw [h] at x1; simp at x1; omega) (fun h => by rw [h] at hg; simp at hg; omega)
   (fun z hz => og z (by simp [hz])) (fun z hz => og z (by simp [hz])) sx sy rfl (by rw [x1]) (by congr 1; omega) (by simp only [List.length_append]; omega)
  refine ⟨G1 ++ D, ?_, ?_, ?_⟩
  ·exact (d1.append_left G1).trans g1
  ·exact g4 D (by rw [d1.length_eq]; simp only [List.length_append]; omega) d2
  ·have hc : decide (((G1.length + bs : Nat) : Int) < ((d.length : Nat) : Int)) = true := by simp; omega
   simp only [oL, hlt, cond_true, w2, AG, g5, Option.bind_some, zY, w1, hc, d3, DZ, w4]
   simp
 ·refine ⟨G1 ++ G2, g1, g4 G2 (by omega) (g3.srt (by omega)), ?_⟩
  have hc : decide (((G1.length + bs : Nat) : Int) < ((d.length : Nat) : Int)) = false := by simp; omega
  simp only [oL, hlt, cond_true, w2, AG, g5, Option.bind_some, zY, w1, hc, cond_false, DZ, w4]

theorem aB2 (C : Cmp ok le cmp) : ∀ (n : Nat) (d : List α) (bs : Nat), d.length - bs ≤ n → 0 < bs → Oks ok d → rW le bs d → d.length ≤ 1099511627776 →
  ∃ r, r.Perm d ∧ Srt le r ∧ lp (fun s : List α × Int => oL cmp ((d.length : Nat) : Int) s.1 s.2) (d, (bs : Int)) = some r := by
 have stop : ∀ (d : List α) (bs : Nat), d.length ≤ bs → rW le bs d → ∃ r, r.Perm d ∧ Srt le r ∧ lp (fun s : List α × Int => oL cmp ((d.length : Nat) : Int) s.1 s.2) (d, (bs : Int)) = some r := by
  intro d bs h hB
  refine ⟨d, List.Perm.refl _, hB.srt h, cE ?_⟩
  show oL cmp _ _ _ = _
  have : decide ((bs : Int) < ((d.length : Nat) : Int)) = false := by simp; omega
  simp only [oL, this, cond_false]
 intro n
 induction n with
 | zero => intro d bs hn _ _ hB _; exact stop d bs (by omega) hB
 | succ n ih =>
  intro d bs hn hbs ho hB hl
  by_cases h : d.length ≤ bs
  ·exact stop d bs h hB
  ·obtain ⟨r, r1, r2, r3⟩ := aBa C hbs (by omega) ho hB hl
   obtain ⟨r', e1, e2, e3⟩ := ih r (2 * bs) (by rw [r1.length_eq]; omega) (by omega) (ho.perm r1) r2 (by rw [r1.length_eq]; exact hl)
   rw [r1.length_eq] at e3
   refine ⟨r', e1.trans r1, e2, ?_⟩
   rw [dO (show (fun s : List α × Int => oL cmp ((d.length : Nat) : Int) s.1 s.2) (d, (bs : Int)) = _ from r3)]
   exact e3

theorem TS (C : Cmp ok le cmp) {d : List α} (ho : Oks ok d) (hl : d.length ≤ 1099511627776) : ∃ r, r.Perm d ∧ Srt le r ∧ BL d ((d.length : Nat) : Int) cmp = some r := by
 obtain ⟨G1, G2, g1, g2, g3, g4⟩ := aFY C (n1 := ((d.length : Nat) : Int)) d.length [] d (Nat.le_refl _) ho (by simp) (by simpa using hl)
 have hlen := g1.length_eq
 simp only [List.length_append] at hlen
 have og := ho.perm g1
 obtain ⟨D, d1, d2, d3⟩ := aCP C (P := G1) (A := G2) (T := []) (a := ((G1.length : Nat) : Int)) (b := ((d.length : Nat) : Int)) rfl (by congr 1; omega) (fun z hz => og z (by simp [hz])) (by simp only [List.length_append, List.length_nil]; omega)
 have hp : (G1 ++ D).Perm d := (d1.append_left G1).trans g1
 obtain ⟨r, r1, r2, r3⟩ := aB2 C (G1 ++ D).length (G1 ++ D) 20 (by omega) (by omega) (ho.perm hp) (g3 D (by rw [d1.length_eq]; omega) d2) (by rw [hp.length_eq]; exact hl)
 refine ⟨r, r1.trans hp, r2, ?_⟩
 simp only [List.nil_append, List.length_nil, Nat.zero_add, Int.natCast_zero] at g4
 unfold BL DN
 have g4' : lp (fun s : List α × Int × Int => rB cmp ((d.length : Nat) : Int) 20 s.1 s.2.1 s.2.2) (d, (0 : Int), (20 : Int)) = some (G1 ++ G2, ((G1.length : Nat) : Int)) := g4
 rw [g4']
 simp only [Option.bind_some, DU]
 rw [show G1 ++ G2 = G1 ++ G2 ++ [] by simp, d3]
 simp only [Option.bind_some, DT, List.append_nil]
 rw [hp.length_eq] at r3
 have r3' : lp (fun s : List α × Int => oL cmp ((d.length : Nat) : Int) s.1 s.2) (G1 ++ D, (20 : Int)) = some r := r3
 rw [r3']; rfl

end Go.Abs
namespace Go.Abs
open Go
structure aGk where
  Row : (List aI)
  Span : lP
  deriving Inhabited, DecidableEq

structure aGm where
  Kind : Int
  Input : Int
  Edges : (List aC)
  At : Int
  deriving Inhabited, DecidableEq

end Go.Abs
namespace Go.Abs
open Go
def JV (n : Int) : Bool := decide (n ≤ 1048576) && decide (-1048576 ≤ n)

theorem aAN (n : Int) : zW n = some (JV n) := rfl

def PK (last : Int) (j : aB) : Bool := decide (j.At ≤ last) || decide (1125899906842624 ≤ j.At) || decide (j.Net = 0) || !JV j.Net

def chk (last : Int) : List aB → Bool
 | [] => true
 | j :: r => !PK last j && chk j.At r

def iR (f : List aB) : Bool := decide (f.length ≤ 1024) && chk (-2) f

theorem VT {f : List aB} {i : Nat} {a : aB} {last : Int} (ha : f[i]? = some a) (hl : f.length < 4611686018427387904) :
  rA f (f.length : Nat) last i = some (if PK last a then .inr (.inr false) else .inl (a.At, ((i + 1 : Nat) : Int))) := by
 obtain ⟨d1, d2, d3, d4⟩ := idx ha hl
 simp only [rA, d1, cond_true, aQ d2, d3, d4, aAN]
 unfold PK
 cases h : (decide (a.At ≤ last) || decide (1125899906842624 ≤ a.At) || decide (a.Net = 0)) <;> cases h2 : JV a.Net <;> simp [eD]

theorem YZ : ∀ (f : List aB) (last : Int), sZ (fun last (j : aB) => some (if PK last j then .inr (.inr false) else .inl j.At)) (fun _ => (.inl () : Unit ⊕ Bool)) last f = some (if chk last f then .inl () else .inr false)
 | [], last => by simp [sZ, chk]
 | j :: r, last => by
  cases h : PK last j
  ·rw [JZ (s' := j.At) (by simp [h])]
   rw [YZ r j.At]
   simp [chk, h]
  ·rw [JX (x := .inr false) (by simp [h])]
   simp [chk, h]

theorem IA (f : List aB) : rH f = some (iR f) := by
 unfold rH iR
 by_cases hl : f.length ≤ 1024
 ·have h1 : decide ((1024 : Int) < ((f.length : Nat) : Int)) = false := by simp; omega
  rw [h1, cond_false]
  unfold EA
  have key := WH (l := f) (body := fun s : Int × Int => rA f (f.length : Nat) s.1 s.2) (fun last i => (last, i)) _ _
   (fun i a s ha => by
    constructor
    ·intro s' hs
     show rA f (f.length : Nat) s i = _
     rw [VT ha (by omega)]
     split at hs <;> simp_all
    ·intro x hs
     show rA f (f.length : Nat) s i = _
     rw [VT ha (by omega)]
     split at hs <;> simp_all)
   (fun s => by show rA f (f.length : Nat) s (f.length : Nat) = _; simp only [rA, mY, cond_false]) (YZ f (-2))
  rw [key]
  cases h : chk (-2) f <;> simp [AL, hl]
 ·have h1 : decide ((1024 : Int) < ((f.length : Nat) : Int)) = true := by simp; omega
  rw [h1, cond_true]
  simp [hl]

theorem aBH {last : Int} {j : aB} : PK last j = false ↔ last < j.At ∧ j.At < 1125899906842624 ∧ j.Net ≠ 0 ∧ j.Net ≤ 1048576 ∧ -1048576 ≤ j.Net := by
 simp [PK, JV]
 omega

def wM (last : Int) : List aB → Prop
 | [] => True
 | j :: r => (last < j.At ∧ j.At < 1125899906842624 ∧ j.Net ≠ 0 ∧ j.Net ≤ 1048576 ∧ -1048576 ≤ j.Net) ∧ wM j.At r

theorem aAl : ∀ {f : List aB} {last : Int}, chk last f = true ↔ wM last f
 | [], last => by simp [chk, wM]
 | j :: r, last => by simp [chk, wM, aBH, aAl]

theorem sV {f : List aB} : iR f = true ↔ f.length ≤ 1024 ∧ wM (-2) f := by simp [iR, aAl]

theorem wM.above : ∀ {f : List aB} {last : Int}, wM last f → ∀ j ∈ f, last < j.At ∧ j.At < 1125899906842624 ∧ j.Net ≠ 0 ∧ j.Net ≤ 1048576 ∧ -1048576 ≤ j.Net
 | [], _, _, j, hj => by simp at hj
 | a :: r, last, h, j, hj => by
  rcases List.mem_cons.1 hj with rfl | hj
  ·exact h.1
  ·have := h.2.above j hj
   have h1 := h.1.1
   exact ⟨by omega, this.2⟩

def val (f : List aB) (t : Int) : Int := (f.map fun j => if j.At ≤ t then j.Net else 0).sum

theorem tZ (t : Int) : val [] t = 0 := rfl

theorem eE (j : aB) (r : List aB) (t : Int) : val (j :: r) t = (if j.At ≤ t then j.Net else 0) + val r t := by simp [val]

theorem uZ (f g : List aB) (t : Int) : val (f ++ g) t = val f t + val g t := by simp [val]

theorem MG : ∀ {f : List aB} {b : Int} (t : Int), 0 ≤ b → (∀ j ∈ f, j.Net ≤ b ∧ -b ≤ j.Net) → val f t ≤ b * f.length ∧ -(b * f.length) ≤ val f t
 | [], b, t, _, _ => by simp [val]
 | j :: r, b, t, hb, h => by
  obtain ⟨h1, h2⟩ := MG t hb (fun k hk => h k (List.mem_cons_of_mem _ hk))
  have h3 := h j (List.mem_cons_self ..)
  rw [eE]
  simp only [List.length_cons, Int.natCast_add, Int.natCast_one, Int.mul_add, Int.mul_one]
  split <;> omega

theorem yE {f : List aB} {t : Int} (h : ∀ j ∈ f, t < j.At) : val f t = 0 := by
 induction f with
 | nil => rfl
 | cons j r ih =>
  rw [eE, ih (fun k hk => h k (List.mem_cons_of_mem _ hk))]
  have := h j (List.mem_cons_self ..)
  rw [if_neg (by omega)]; rfl

theorem aAA {f : List aB} {i : Nat} {a : aB} {t v : Int} (ha : f[i]? = some a) (hl : f.length < 4611686018427387904) :
  sP t f (f.length : Nat) v i = some (if t < a.At then .inr v else .inl (IntKind.i64.wrap (v + a.Net), ((i + 1 : Nat) : Int))) := by
 obtain ⟨d1, d2, d3, d4⟩ := idx ha hl
 simp only [sP, d1, cond_true, aQ d2, d3, d4]
 by_cases h : t < a.At <;> simp [h]

theorem aE0 {t : Int} (f : List aB) : ∀ (last v : Int), wM last f → v ≤ 1048576 * (2048 - f.length) → -(1048576 * (2048 - f.length)) ≤ v → f.length ≤ 1024 →
  sZ (fun v (j : aB) => some (if t < j.At then .inr v else .inl (IntKind.i64.wrap (v + j.Net)))) (fun v => (v : Int)) v f = some (v + val f t) := by
 induction f with
 | nil => intro last v _ _ _ _; simp [sZ, val]
 | cons j r ih =>
  intro last v h h1 h2 hl
  simp only [List.length_cons] at h1 h2 hl
  by_cases hj : t < j.At
  ·rw [JX (x := v) (by simp [hj])]
   rw [yE (fun k hk => by
    rcases List.mem_cons.1 hk with rfl | hk
    ·exact hj
    ·have := (h.2.above k hk).1; omega)]
   simp
  ·have hj1 := h.1
   have hw : IntKind.i64.wrap (v + j.Net) = v + j.Net := fV (by omega) (by omega)
   rw [JZ (s' := v + j.Net) (by simp [hj, hw])]
   rw [ih j.At (v + j.Net) h.2 (by omega) (by omega) (by omega), eE, if_pos (by omega)]
   congr 1
   omega

theorem aEy (f : List aB) (t : Int) : EE f t = some (if iR f then val f t else 0) := by
 unfold EE
 rw [IA]
 simp only [Option.bind_some]
 cases h : iR f
 ·simp
 ·obtain ⟨hl, hr⟩ := sV.1 h
  simp only [Bool.not_true, cond_false, if_true]
  unfold FG
  have key := WH (l := f) (body := fun s : Int × Int => sP t f (f.length : Nat) s.1 s.2) (fun v i => (v, i)) _ _
   (fun i a s ha => by
    constructor
    ·intro s' hs
     show sP t f (f.length : Nat) s i = _
     rw [aAA ha (by omega)]
     split at hs <;> simp_all
    ·intro x hs
     show sP t f (f.length : Nat) s i = _
     rw [aAA ha (by omega)]
     split at hs <;> simp_all)
   (fun s => by show sP t f (f.length : Nat) s (f.length : Nat) = _; simp only [sP, mY, cond_false]) (aE0 (t := t) f (-2) 0 hr (by omega) (by omega) hl)
  rw [key]
  simp [zO]

theorem aFl (f : List aB) : vC f = some (if iR f then (f, 0) else ([], 7)) := by
 unfold vC
 rw [IA]
 cases h : iR f <;> simp

end Go.Abs
namespace Go.Abs
open Go
section both
variable {op : Int → Int → Option Int} {f g r : List aB} {out : List aB} {a b was t : Int} {j : aB}
end both
def emit (p v was : Int) : List aB := if v = was then [] else [⟨p, v - was⟩]

def DW (was : Int) : List (Int × Int) → List aB
 | [] => []
 | x :: r => emit x.1 x.2 was ++ DW x.2 r

def merge (f g : List aB) (a b : Int) : List (Int × Int × Int) :=
 match f, g with
 | [], [] => []
 | j :: f, [] => (j.At, a + j.Net, b) :: merge f [] (a + j.Net) b
 | [], k :: g => (k.At, a, b + k.Net) :: merge [] g a (b + k.Net)
 | j :: f, k :: g =>
  if j.At < k.At then (j.At, a + j.Net, b) :: merge f (k :: g) (a + j.Net) b
  else if k.At < j.At then (k.At, a, b + k.Net) :: merge (j :: f) g a (b + k.Net)
  else (j.At, a + j.Net, b + k.Net) :: merge f g (a + j.Net) (b + k.Net)

termination_by f.length + g.length
end Go.Abs
namespace Go.Abs
open Go
def comb (OP : Int → Int → Int) (f g : List aB) : List aB := DW 0 ((merge f g 0 0).map fun x => (x.1, OP x.2.1 x.2.2))

def told (f : List aB) : List aB × Int := if iR f then (f, 0) else ([], 7)

theorem WI (f : List aB) : vC f = some (told f) := aFl f

def two (OP : Int → Int → Int) (f g : List aB) : List aB × Int := if iR f && iR g then told (comb OP f g) else ([], 2)

end Go.Abs
namespace Go.Abs
open Go
theorem aEr (p v was t : Int) : val (emit p v was) t = if p ≤ t then v - was else 0 := by
 unfold emit
 by_cases h : v = was
 ·rw [if_pos h, tZ, h]; split <;> omega
 ·rw [if_neg h, eE, tZ]; simp

theorem wM.EU {l t : Int} {f : List aB} (h : wM l f) (ht : t ≤ l) : val f t = 0 := yE fun j hj => by have := (h.above j hj).1; omega

theorem UZ {f : List aB} (hf : iR f = true) (t : Int) : val f t ≤ 1073741824 ∧ -1073741824 ≤ val f t := by
 obtain ⟨h1, h2⟩ := sV.1 hf
 have := MG t (b := 1048576) (by omega) (fun j hj => by have := h2.above j hj; omega) (f := f)
 omega

end Go.Abs
namespace Go.Abs
open Go
def xS (f : List aB) : Int := (f.map aB.Net).sum

theorem UG (j : aB) (f : List aB) : xS (j :: f) = j.Net + xS f := by simp [xS]

def rJ (t : Int) : List aB → List aB
 | [] => []
 | j :: r => if t ≤ j.At then [] else j :: rJ t r

def aft (t : Int) : List aB → List aB
 | [] => []
 | j :: r => if t ≤ j.At then j :: r else aft t r

theorem WG (t : Int) : ∀ f : List aB, rJ t f ++ aft t f = f
 | [] => rfl
 | j :: r => by
  unfold rJ aft
  split
  ·rfl
  ·simp [WG t r]

theorem SE {t : Int} : ∀ {f : List aB}, ∀ j ∈ rJ t f, j.At < t
 | [], j, h => by simp [rJ] at h
 | k :: r, j, h => by
  unfold rJ at h
  split at h
  ·simp at h
  ·rcases List.mem_cons.1 h with rfl | h
   ·omega
   ·exact SE j h

theorem aDm {t l : Int} : ∀ {f : List aB}, wM l f → ∀ j ∈ aft t f, t ≤ j.At
 | [], _, j, h => by simp [aft] at h
 | k :: r, hr, j, h => by
  unfold aft at h
  split at h
  ·rcases List.mem_cons.1 h with rfl | h
   ·assumption
   ·have := (hr.2.above j h).1; omega
  ·exact aDm hr.2 j h

theorem aAM {f : List aB} {t : Int} (h : ∀ j ∈ f, j.At ≤ t) : val f t = xS f := by
 induction f with
 | nil => rfl
 | cons j r ih => rw [eE, UG, if_pos (h j (List.mem_cons_self ..)), ih fun k hk => h k (List.mem_cons_of_mem _ hk)]

theorem VQ (t : Int) : ∀ f : List aB, (rJ t f).length ≤ f.length
 | [] => by simp [rJ]
 | j :: r => by
  unfold rJ
  split
  ·simp
  ·simpa using VQ t r

theorem YN {l t p : Int} {f : List aB} (hf : wM l f) (hp : p < t) : val f p = val (rJ t f) p := by
 conv => lhs; rw [← WG t f]
 rw [uZ, yE (f := aft t f) (fun j hj => by have := aDm hf j hj; omega)]
 omega

theorem aCQ {l t : Int} {f : List aB} (hf : wM l f) : xS (rJ t f) = val f (t - 1) := by
 rw [YN hf (p := t - 1) (t := t) (by omega), aAM (fun j hj => by have := SE j hj; omega)]

theorem aBh {t : Int} (f : List aB) : ∀ (l v : Int) (out : List aB), wM l f → v ≤ 1048576 * (2048 - f.length) → -(1048576 * (2048 - f.length)) ≤ v → f.length ≤ 1024 →
  sZ (fun (s : List aB × Int) (j : aB) => some (if t ≤ j.At then .inr s else .inl (s.1 ++ [j], IntKind.i64.wrap (s.2 + j.Net)))) (fun s => s) (out, v) f = some (out ++ rJ t f, v + xS (rJ t f)) := by
 induction f with
 | nil => intro l v out _ _ _ _; simp [sZ, rJ, xS]
 | cons j r ih =>
  intro l v out h h1 h2 hl
  simp only [List.length_cons] at h1 h2 hl
  have hj1 := h.1
  by_cases hj : t ≤ j.At
  ·rw [JX (x := (out, v)) (by simp [hj])]
   simp [rJ, hj, xS]
  ·have hw : IntKind.i64.wrap (v + j.Net) = v + j.Net := fV (by omega) (by omega)
   rw [JZ (s' := (out ++ [j], v + j.Net)) (by simp [hj, hw])]
   rw [ih j.At (v + j.Net) (out ++ [j]) h.2 (by omega) (by omega) (by omega)]
   have : rJ t (j :: r) = j :: rJ t r := by simp [rJ, hj]
   rw [this, UG]
   simp [Int.add_assoc]

def HZ (t : Int) (f : List aB) : List aB := rJ t f ++ (if xS (rJ t f) = 0 then [] else [⟨t, -xS (rJ t f)⟩])

def ahead (f : List aB) (t : Int) : List aB × Int :=
 if iR f then (if 1125899906842624 ≤ t then (f, 0) else told (HZ t f)) else ([], 2)

theorem aEo {f : List aB} (hl : f.length ≤ 1024) : dY f = some f := by
 unfold dY
 exact aQ ⟨by omega, by omega⟩

theorem aBl {f : List aB} (hf : iR f = true) (t : Int) : xS (rJ t f) ≤ 1073741824 ∧ -1073741824 ≤ xS (rJ t f) := by
 rw [aCQ (sV.1 hf).2]
 exact UZ hf _

theorem aD7 (f : List aB) (t : Int) : yH f t = some (ahead f t) := by
 unfold yH ahead
 rw [IA]
 simp only [Option.bind_some]
 cases h : iR f
 ·simp
 ·obtain ⟨hl, hr⟩ := sV.1 h
  simp only [Bool.not_true, cond_false, if_true]
  by_cases ht : 1125899906842624 ≤ t
  ·simp [ht, aEo hl]
  ·rw [decide_eq_false ht, cond_false, if_neg ht]
   unfold AW
   have key := aCs (l := f) (body := fun s : List aB × Int × Int => oK t f (f.length : Nat) s.1 s.2.1 s.2.2) (fun (s : List aB × Int) i => (s.1, s.2, i)) _ _ (fun i s => s.1.length = i)
    (fun i a s hi ha => by
     obtain ⟨d1, d2, d3, d4⟩ := idx ha (by omega)
     have hlt : i < f.length := (List.getElem?_eq_some_iff.1 ha).1
     have hb : oK t f (f.length : Nat) s.1 s.2 i = some (if t ≤ a.At then .inr s else .inl (s.1 ++ [a], IntKind.i64.wrap (s.2 + a.Net), ((i + 1 : Nat) : Int))) := by
      simp only [oK, d1, cond_true, aQ d2, d3, d4]
      rw [aQ (by simp only [List.length_cons, List.length_nil]; omega)]
      by_cases h : t ≤ a.At <;> simp [h]
     by_cases hh : t ≤ a.At
     ·refine ⟨fun s' hs => by simp [hh] at hs, fun x hs => ?_⟩
      simp [hh] at hs; subst hs
      show oK t f (f.length : Nat) s.1 s.2 i = _
      rw [hb, if_pos hh]
     ·refine ⟨fun s' hs => ?_, fun x hs => by simp [hh] at hs⟩
      simp [hh] at hs; subst hs
      refine ⟨by simp [hi], ?_⟩
      show oK t f (f.length : Nat) s.1 s.2 i = _
      rw [hb, if_neg hh])
    (fun s _ => by show oK t f (f.length : Nat) s.1 s.2 (f.length : Nat) = _; simp only [oK, mY, cond_false]) (s := ([], 0)) rfl (aBh (t := t) f (-2) 0 [] hr (by omega) (by omega) hl)
   rw [key]
   have hb := aBl h t
   have hlen := VQ t f
   have hw : IntKind.i64.wrap (0 - xS (rJ t f)) = -xS (rJ t f) := by rw [fV (by omega) (by omega)]; omega
   simp only [Option.bind_some, List.nil_append, Int.zero_add, uS, wS, HZ, hw, WI]
   by_cases hv : xS (rJ t f) = 0
   ·simp [hv]
   ·rw [aQ (by simp only [List.length_cons, List.length_nil]; omega)]
    simp [hv]

end Go.Abs
namespace Go.Abs
open Go
def aGe (t : Int) (f : List aB) : List aB := (if xS (rJ t f) = 0 then [] else [⟨-1, xS (rJ t f)⟩]) ++ aft t f

def rest (f : List aB) (t : Int) : List aB × Int :=
 if iR f then (if 1125899906842624 ≤ t then ([], 0) else if t ≤ -1 then (f, 0) else told (aGe t f)) else ([], 2)

end Go.Abs
namespace Go.Abs
open Go
def Up (last : Int) : List aB → Prop
 | [] => True
 | j :: r => (last < j.At ∧ j.At < 1125899906842624 ∧ j.Net ≠ 0) ∧ Up j.At r

theorem Up.above : ∀ {f : List aB} {last : Int}, Up last f → ∀ j ∈ f, last < j.At ∧ j.At < 1125899906842624 ∧ j.Net ≠ 0
 | [], _, _, j, hj => by simp at hj
 | a :: r, last, h, j, hj => by
  rcases List.mem_cons.1 hj with rfl | hj
  ·exact h.1
  ·have := h.2.above j hj
   have h1 := h.1.1
   exact ⟨by omega, this.2⟩

theorem Up.EU {l t : Int} {f : List aB} (h : Up l f) (ht : t ≤ l) : val f t = 0 := yE fun j hj => by have := (h.above j hj).1; omega

theorem Up.weaken {a b : Int} {f : List aB} (h : Up b f) (hab : a ≤ b) : Up a f := by
 cases f with
 | nil => trivial
 | cons j r => exact ⟨⟨by have := h.1.1; omega, h.1.2⟩, h.2⟩

theorem wM.up : ∀ {f : List aB} {last : Int}, wM last f → Up last f
 | [], _, _ => trivial
 | _ :: _, _, h => ⟨⟨h.1.1, h.1.2.1, h.1.2.2.1⟩, h.2.up⟩

theorem Up.ext : ∀ {f g : List aB} {last : Int}, Up last f → Up last g → (∀ t, last < t → t < 1125899906842624 → val f t = val g t) → f = g
 | [], [], _, _, _, _ => rfl
 | j :: r, [], last, hf, _, h => by
  have := h j.At hf.1.1 hf.1.2.1
  rw [eE, if_pos (Int.le_refl _), hf.2.EU (Int.le_refl _), tZ] at this
  exact absurd (by omega) hf.1.2.2
 | [], k :: s, last, _, hg, h => by
  have := h k.At hg.1.1 hg.1.2.1
  rw [eE, if_pos (Int.le_refl _), hg.2.EU (Int.le_refl _), tZ] at this
  exact absurd (by omega) hg.1.2.2
 | j :: r, k :: s, last, hf, hg, h => by
  have h1 := h j.At hf.1.1 hf.1.2.1
  have h2 := h k.At hg.1.1 hg.1.2.1
  rw [eE, if_pos (Int.le_refl _), hf.2.EU (Int.le_refl _), eE] at h1
  rw [eE, eE k, if_pos (Int.le_refl _), hg.2.EU (Int.le_refl _)] at h2
  have n1 := hf.1.2.2
  have n2 := hg.1.2.2
  have he : j.At = k.At := by
   rcases Int.lt_trichotomy j.At k.At with h3 | h3 | h3
   ·rw [if_neg (by omega), hg.2.EU (by omega)] at h1; omega
   ·exact h3
   ·rw [if_neg (by omega), hf.2.EU (by omega)] at h2; omega
  rw [if_pos (by omega), hg.2.EU (by omega)] at h1
  have hj : j = k := by
   obtain ⟨a, b⟩ := j; obtain ⟨c, d⟩ := k
   simp only at he h1
   simp only [Int.add_zero] at h1
   rw [he, h1]
  subst hj
  rw [hf.2.ext hg.2 (fun t ht ht' => by
   have := h t (by have := hf.1.1; omega) ht'
   rw [eE, eE] at this; omega)]

def Inc (last : Int) : List Int → Prop
 | [] => True
 | p :: r => (last < p ∧ p < 1125899906842624) ∧ Inc p r

theorem Inc.above : ∀ {ps : List Int} {last : Int}, Inc last ps → ∀ p ∈ ps, last < p ∧ p < 1125899906842624
 | [], _, _, j, hj => by simp at hj
 | a :: r, last, h, j, hj => by
  rcases List.mem_cons.1 hj with rfl | hj
  ·exact h.1
  ·have := h.2.above j hj
   have h1 := h.1.1
   exact ⟨by omega, this.2⟩

theorem KA : ∀ {l : List (Int × Int)} {last was : Int}, Inc last (l.map Prod.fst) → Up last (DW was l)
 | [], _, _, _ => trivial
 | x :: r, last, was, h => by
  simp only [DW]
  have ih : Up x.1 (DW x.2 r) := KA h.2
  have h1 : last < x.1 ∧ x.1 < 1125899906842624 := h.1
  unfold emit
  split
  ·exact ih.weaken (by omega)
  ·exact ⟨⟨h1.1, h1.2, by simp only; omega⟩, ih⟩

theorem KY {F : Int → Int} : ∀ {ps : List Int} {last : Int}, Inc last ps → (∀ s t, last ≤ s → s ≤ t → t < 1125899906842624 → (∀ p ∈ ps, ¬ (s < p ∧ p ≤ t)) → F s = F t) →
  ∀ t, last ≤ t → t < 1125899906842624 → val (DW (F last) (ps.map fun p => (p, F p))) t = F t - F last
 | [], last, _, hF, t, h1, h2 => by
  have := hF last t (Int.le_refl _) h1 h2 (by simp)
  simp [DW, val, this]
 | p :: r, last, hi, hF, t, h1, h2 => by
  simp only [List.map_cons, DW]
  rw [uZ, aEr]
  by_cases hp : p ≤ t
  ·rw [if_pos hp, KY (F := F) hi.2 (fun s t' hs hst ht' hn => hF s t' (by have := hi.1.1; omega) hst ht' (fun q hq => by
    rcases List.mem_cons.1 hq with rfl | hq
    ·omega
    ·exact hn q hq)) t hp h2]
   omega
  ·have := hF last t (Int.le_refl _) h1 h2 (fun q hq => by
    rcases List.mem_cons.1 hq with rfl | hq
    ·omega
    ·have := (hi.2.above q hq).1; omega)
   rw [if_neg hp, Up.EU (KA (last := p) (by rw [List.map_map]; simpa [Function.comp_def] using hi.2)) (by omega)]
   omega

theorem aCv {f : List aB} (h : iR f = true) : Up (-2) f := (sV.1 h).2.up

theorem aDB {F : Int → Int} (h2 : F (-2) = 0) {ps : List Int} (hi : Inc (-2) ps) (hF : ∀ s t, -2 ≤ s → s ≤ t → t < 1125899906842624 → (∀ p ∈ ps, ¬ (s < p ∧ p ≤ t)) → F s = F t) {h : List aB} (hh : Up (-2) h) (hv : ∀ t, -2 < t → t < 1125899906842624 → val h t = F t) :
  DW 0 (ps.map fun p => (p, F p)) = h := by
 refine (KA (by rw [List.map_map]; simpa [Function.comp_def] using hi)).ext hh fun t h3 h4 => ?_
 have := KY hi hF t (by omega) h4
 rw [h2] at this
 rw [this, hv t h3 h4]; omega

end Go.Abs
namespace Go.Abs
open Go
theorem YQ {f : List aB} (h : iR f = true) : ∀ j ∈ f, j.Net ≤ 1048576 ∧ -1048576 ≤ j.Net := fun j hj => by have := (sV.1 h).2.above j hj; omega

def sW (t : Int) : List Int → List Int
 | [] => [t]
 | p :: r => if p = t then p :: r else if t < p then t :: p :: r else p :: sW t r

theorem LX {t x : Int} : ∀ {ps : List Int}, x ∈ sW t ps ↔ x = t ∨ x ∈ ps
 | [] => by simp [sW]
 | p :: r => by
  unfold sW
  split
  ·rename_i h; subst h; simp
  ·split
   ·simp
   ·simp only [List.mem_cons, LX (ps := r)]; constructor <;> (intro h; rcases h with h | h | h <;> simp [h])

theorem ML {t : Int} : ∀ {ps : List Int} {last : Int}, Inc last ps → last < t → t < 1125899906842624 → Inc last (sW t ps)
 | [], last, _, h1, h2 => ⟨⟨h1, h2⟩, trivial⟩
 | p :: r, last, h, h1, h2 => by
  unfold sW
  split
  ·exact h
  ·split
   ·rename_i h3 h4
    exact ⟨⟨h1, h2⟩, ⟨h4, h.1.2⟩, h.2⟩
   ·exact ⟨h.1, ML h.2 (by omega) h2⟩

theorem TU {t : Int} : ∀ {ps : List Int}, (sW t ps).length ≤ ps.length + 1
 | [] => by simp [sW]
 | p :: r => by
  unfold sW
  split
  ·simp
  ·split
   ·simp
   ·simp only [List.length_cons]; have := TU (t := t) (ps := r); omega

theorem PO {t : Int} : ∀ {ps : List Int} {last : Int}, Inc last ps → t ∈ ps → sW t ps = ps
 | [], _, _, h => by simp at h
 | p :: r, last, hi, h => by
  unfold sW
  split
  ·rfl
  ·rename_i hp
   rcases List.mem_cons.1 h with h | h
   ·exact absurd h.symm hp
   ·have := (hi.2.above t h).1
    rw [if_neg (by omega), PO hi.2 h]

def RW (ps : List Int) (f : List aB) : List Int := f.foldl (fun ps j => sW j.At ps) ps

theorem PI {x : Int} : ∀ {f : List aB} {ps : List Int}, x ∈ RW ps f ↔ x ∈ ps ∨ ∃ j ∈ f, j.At = x
 | [], ps => by simp [RW]
 | k :: r, ps => by
  have := PI (x := x) (f := r) (ps := sW k.At ps)
  unfold RW at this ⊢
  rw [List.foldl_cons, this, LX]
  constructor
  ·rintro ((h | h) | ⟨j, h, h'⟩)
   ·exact Or.inr ⟨k, List.mem_cons_self .., h.symm⟩
   ·exact Or.inl h
   ·exact Or.inr ⟨j, List.mem_cons_of_mem _ h, h'⟩
  ·rintro (h | ⟨j, h, h'⟩)
   ·exact Or.inl (Or.inr h)
   ·rcases List.mem_cons.1 h with rfl | h
    ·exact Or.inl (Or.inl h'.symm)
    ·exact Or.inr ⟨j, h, h'⟩

theorem YP : ∀ {f : List aB} {ps : List Int} {last : Int}, Inc last ps → (∀ j ∈ f, last < j.At ∧ j.At < 1125899906842624) → Inc last (RW ps f)
 | [], _, _, h, _ => h
 | k :: r, ps, last, h, hf => by
  have hk := hf k (List.mem_cons_self ..)
  exact YP (f := r) (ML h hk.1 hk.2) fun j hj => hf j (List.mem_cons_of_mem _ hj)

end Go.Abs
namespace Go.Abs
open Go
def mn (a b : Int) : Int := if b < a then b else a

def parts (v : Int) : List aB → List Int
 | [] => []
 | j :: r => (v + j.Net) :: parts (v + j.Net) r

def IF (f : List aB) : Int := (f.map fun j => val f j.At).foldl mn (val f (-1))

theorem parts_eq : ∀ {f : List aB} {l v : Int}, wM l f → parts v f = f.map fun j => v + val f j.At
 | [], _, _, _ => rfl
 | j :: r, l, v, h => by
  simp only [parts, List.map_cons]
  rw [parts_eq h.2, eE, if_pos (Int.le_refl _), h.2.EU (Int.le_refl _), Int.add_zero]
  congr 1
  apply List.map_congr_left
  intro k hk
  have := (h.2.above k hk).1
  rw [eE, if_pos (by omega)]; omega

theorem aDl {j : aB} {r : List aB} (h : wM (-2) (j :: r)) : val (j :: r) (-1) = if j.At = -1 then j.Net else 0 := by
 have := h.1.1
 by_cases e : j.At = -1
 ·rw [if_pos e, eE, if_pos (by omega), h.2.EU (by omega)]; omega
 ·rw [if_neg e, yE]
  intro k hk
  rcases List.mem_cons.1 hk with rfl | hk
  ·omega
  ·have := (h.2.above k hk).1; omega

theorem QK {f : List aB} (hf : iR f = true) (m : Int) (hm : -1125899906842624 ≤ m ∧ m ≤ 1125899906842624) : xG 0 m f (f.length : Nat) 0 = some ((f.map fun j => val f j.At).foldl mn m) := by
 obtain ⟨hl, hr⟩ := sV.1 hf
 unfold xG
 rw [BP (l := f) (body := fun s : Int × Int × Int => rR f (f.length : Nat) s.1 s.2.1 s.2.2) (fun (s : Int × Int) i => (s.1, s.2, i)) (fun s r => (parts s.1 r).foldl mn s.2)
  (fun s r => (∀ j ∈ r, j.Net ≤ 1048576 ∧ -1048576 ≤ j.Net) ∧ r.length ≤ 1024 ∧ s.1 ≤ 1048576 * (1024 - r.length) ∧ -(1048576 * (1024 - r.length)) ≤ s.1) (0, m) ?_ ?_ ?_]
 ·simp only [Option.bind_some, xA, parts_eq hr, Int.zero_add]
 ·rintro i a r ⟨v, m⟩ ha ⟨h1, h2, h3, h4⟩
  obtain ⟨d1, d2, d3, d4⟩ := idx ha (by omega)
  have hj := h1 a (List.mem_cons_self ..)
  simp only [List.length_cons] at h2 h3 h4
  have hw : IntKind.i64.wrap (v + a.Net) = v + a.Net := fV (by omega) (by omega)
  left
  refine ⟨(v + a.Net, mn m (v + a.Net)), ?_, ⟨fun j hj => h1 j (List.mem_cons_of_mem _ hj), by omega, by simp only; omega, by simp only; omega⟩, rfl⟩
  show rR f (f.length : Nat) v m i = _
  simp only [rR, d1, cond_true, aQ d2, d3, d4, hw, mn]
 ·rintro ⟨v, m⟩ _
  show rR f (f.length : Nat) v m (f.length : Nat) = _
  simp only [rR, mY, cond_false, parts, List.foldl_nil]
 ·exact ⟨YQ hf, hl, by simp only; omega, by simp only; omega⟩

theorem aDQ (f : List aB) : yK f = some (if iR f then IF f else 0) := by
 unfold yK
 rw [IA]
 cases h : iR f
 ·simp
 ·cases f with
  | nil => simp [IF, val]
  | cons j r =>
   obtain ⟨hl, hr⟩ := sV.1 h
   have hne : decide (((List.length (j :: r) : Nat) : Int) = 0) = false := by simp; omega
   simp only [Option.bind_some, Bool.not_true, Bool.false_or, hne, cond_false, aQ aGo, aFv, if_true]
   have hj := hr.1
   unfold IF
   rw [aDl hr]
   by_cases e : j.At = -1
   ·simp only [e, decide_true, cond_true, if_true, uR]
    exact QK h j.Net (by omega)
   ·simp only [e, decide_false, cond_false, if_false, uR]
    exact QK h 0 (by omega)

theorem HD {s t : Int} (hst : s ≤ t) : ∀ {f : List aB}, (∀ j ∈ f, ¬ (s < j.At ∧ j.At ≤ t)) → val f s = val f t
 | [], _ => rfl
 | j :: r, h => by
  have hj := h j (List.mem_cons_self ..)
  rw [eE, eE, HD hst (fun k hk => h k (List.mem_cons_of_mem _ hk))]
  by_cases e : j.At ≤ s
  ·rw [if_pos e, if_pos (by omega)]
  ·rw [if_neg e, if_neg (by omega)]

theorem aAs : iR [] = true := by decide

theorem aBB {f : List aB} {t : Int} (hf : iR f = true) (p : Int) : val (HZ t f) p = if p < t then val f p else 0 := by
 unfold HZ
 by_cases hp : p < t
 ·rw [if_pos hp, YN (sV.1 hf).2 hp, uZ]
  split
  ·simp [val]
  ·rw [eE, tZ]; simp; omega
 ·rw [if_neg hp, uZ, aAM (fun j hj => by have := SE j hj; omega)]
  split
  ·rename_i h0; rw [h0]; simp [val]
  ·rw [eE, tZ, if_pos (show (⟨t, -xS (rJ t f)⟩ : aB).At ≤ p by show t ≤ p; omega)]; simp; omega

end Go.Abs
namespace Go.Abs
open Go
theorem w1 : IntKind.i64.wrap (0 + 1) = 1 := by rw [fV] <;> omega

theorem w2 : IntKind.i64.wrap (1 + 1) = 2 := by rw [fV] <;> omega

theorem w3 : IntKind.i64.wrap (1 - 1) = 0 := by rw [fV] <;> omega

theorem v0 : IntKind.i64.wrap 0 = 0 := by rw [fV] <;> omega

theorem v1 : IntKind.i64.wrap 1 = 1 := by rw [fV] <;> omega

theorem v2 : IntKind.i64.wrap 2 = 2 := by rw [fV] <;> omega

theorem v3 : IntKind.i64.wrap (-1) = -1 := by rw [fV] <;> omega

end Go.Abs
namespace Go.Abs
open Go
theorem YY (f : List aB) : (told f).1.length ≤ 1024 := by
 unfold told
 cases h : iR f
 ·simp
 ·simpa using (sV.1 h).1

theorem aDk (f : List aB) (t : Int) : (ahead f t).1.length ≤ 1024 := by
 unfold ahead
 split
 ·split
  ·exact (sV.1 (by assumption)).1
  ·exact YY _
 ·simp

end Go.Abs
namespace Go.Abs
theorem aEe : @fS = @sD aB _ := rfl

theorem aCi : @gH = @gR aB _ := rfl

theorem aAj (cmp) : ∀ k, @kQ cmp k = @gT aB _ cmp k
 | 0 => rfl
 | k + 1 => by
  show gH cmp _ = gR cmp _
  rw [aAj cmp k, aCi]

theorem aDV : @iN = @tV aB _ := by
 funext d a m b cmp
 unfold iN tV
 simp only [aAj]

theorem aAa : @jN = @BL aB _ := by
 funext d n cmp
 unfold jN BL mO DN
 unfold lW rB jA DU
 unfold mN DT mE oL
 unfold mH AG mP rC
 unfold jD zY
 rw [aDV, aEe]
 rfl

end Go.Abs
namespace Go.Abs
open Go
variable {α : Type} [Inhabited α]
noncomputable def tW (f1 : α → Option Bool) (s0 : (List α)) (t7 : Int) (t8 : Int) : Option ((Int) ⊕ (Unit ⊕ Int)) :=
 cond (decide (t8 < t7))
 (bA (0 ≤ t8 ∧ t8 < ((List.length s0 : Nat) : Int)) <|
 (f1 (List.getD s0 (Int.toNat t8) default)).bind fun x2 =>
 cond x2
 (some (.inr (.inr t8)))
 (some (.inl (IntKind.i64.wrap (t8 + (1 : Int))))))
 (some (.inr (.inl ())))

theorem JH {l : List α} {f : α → Option Bool} {g : α → Bool} (hl : l.length ≤ 1099511627776) (hf : ∀ x ∈ l, f x = some (g x)) : ∀ (r : List α) (k : Nat), l.drop k = r → k ≤ l.length →
  ∃ x, lp (fun s => tW f l (l.length : Nat) s) (k : Int) = some x ∧ ((x = .inl () ∧ r.any g = false) ∨ (∃ i : Nat, x = .inr (i : Int) ∧ k ≤ i ∧ i < l.length ∧ r.any g = true ∧ g (l.getD i default) = true ∧ ∀ j, k ≤ j → j < i → g (l.getD j default) = false))
 | [], k, hd, hk => by
  have : k = l.length := by
   have := congrArg List.length hd
   simp only [List.length_drop, List.length_nil] at this; omega
  subst this
  refine ⟨.inl (), cE ?_, Or.inl ⟨rfl, rfl⟩⟩
  show tW f l _ _ = _
  simp only [tW, mY, cond_false]
 | a :: r, k, hd, hk => by
  obtain ⟨h1, h2⟩ := drop_cons hd
  have hlt : k < l.length := (List.getElem?_eq_some_iff.1 h1).1
  obtain ⟨d1, d2, d3, d4⟩ := idx h1 (by omega)
  have hga : l.getD k default = a := by rw [Int.toNat_natCast] at d3; exact d3
  have hb : (fun s => tW f l (l.length : Nat) s) (k : Int) = some (if g a then .inr (.inr (k : Int)) else .inl ((k + 1 : Nat) : Int)) := by
   show tW f l _ _ = _
   simp only [tW, d1, cond_true, aQ d2, d3, d4, hf a (List.mem_of_getElem? h1), Option.bind_some]
   cases g a <;> simp
  cases hg : g a
  ·rw [hg] at hb
   obtain ⟨x, e, hx⟩ := JH hl hf r (k + 1) h2 (by omega)
   refine ⟨x, by rw [dO hb]; exact e, ?_⟩
   rcases hx with ⟨rfl, h⟩ | ⟨i, rfl, h3, h4, h5, h6, h7⟩
   ·exact Or.inl ⟨rfl, by simp [hg, h]⟩
   ·refine Or.inr ⟨i, rfl, by omega, h4, by simp [h5], h6, fun j hj hj' => ?_⟩
    by_cases e : j = k
    ·subst e; rw [hga, hg]
    ·exact h7 j (by omega) hj'
  ·rw [hg] at hb
   exact ⟨.inr (k : Int), cE hb, Or.inr ⟨k, rfl, Nat.le_refl _, hlt, by simp [hg], by rw [hga, hg], fun j h h' => by omega⟩⟩

end Go.Abs
namespace Go.Abs
open Go
theorem LV {l : List aB} {f : aB → Option Bool} {g : aB → Bool} (hl : l.length ≤ 1099511627776) (hf : ∀ x ∈ l, f x = some (g x)) : eG l f = some (l.any g) := by
 unfold eG kB jS
 obtain ⟨x, e, hx⟩ := JH hl hf l 0 rfl (Nat.zero_le _)
 have e' : lp (fun s => jQ f l (l.length : Nat) s) 0 = some x := e
 rw [e']
 rcases hx with ⟨rfl, h⟩ | ⟨i, rfl, _, _, h, _⟩
 ·simp [fZ, h]
 ·simp [h]

def xE (j : aB) : Bool := !JV j.Net

def DK (j : aB) : Bool := decide (j.At < -1) || decide (1125899906842624 < j.At)

def CS (l : List aB) : List aB := DW 0 ((RW [] (l.filter fun j => decide (j.At < 1125899906842624))).map fun p => (p, val l p))

def qB (l : List aB) : List aB × Int := if l.any xE then ([], 2) else if l.any DK then ([], 13) else told (CS l)

def EO (p n : Int) : List aB := if n ≠ 0 ∧ p < 1125899906842624 then [⟨p, n⟩] else []

def zR (p n : Int) : List aB → List aB
 | [] => EO p n
 | j :: r => if j.At = p then zR p (n + j.Net) r else EO p n ++ zR j.At j.Net r

def grp : List aB → List aB
 | [] => []
 | j :: r => zR j.At j.Net r

abbrev VV (a b : aB) : Prop := a.At ≤ b.At

theorem OS {t : Int} (ht : t < 1125899906842624) : ∀ {r : List aB} {p n : Int}, val (zR p n r) t = (if p ≤ t then n else 0) + val r t
 | [], p, n => by
  unfold zR EO
  split
  ·rw [eE, tZ]
  ·rw [tZ]; split <;> omega
 | j :: r, p, n => by
  unfold zR
  split
  ·rename_i h
   rw [OS ht, eE, h]; split <;> omega
  ·rw [uZ, OS ht, eE]
   have : val (EO p n) t = if p ≤ t then n else 0 := by
    unfold EO
    split
    ·rw [eE, tZ]; simp
    ·rw [tZ]; split <;> omega
   rw [this]

theorem aFs {t : Int} (ht : t < 1125899906842624) : ∀ {r : List aB}, val (grp r) t = val r t
 | [] => rfl
 | j :: r => by unfold grp; rw [OS ht, eE]

theorem SK : ∀ {r : List aB} {p n last : Int}, last < p → (∀ j ∈ r, p ≤ j.At) → Srt VV r → Up last (zR p n r)
 | [], p, n, last, h, _, _ => by
  unfold zR EO
  split
  ·rename_i h'; exact ⟨⟨h, h'.2, h'.1⟩, trivial⟩
  ·trivial
 | j :: r, p, n, last, h, hp, hs => by
  have hj := hp j (by simp)
  have hs' := List.pairwise_cons.1 hs
  unfold zR
  split
  ·exact SK h (fun k hk => hp k (by simp [hk])) hs'.2
  ·have ih : Up p (zR j.At j.Net r) := SK (by omega) (fun k hk => hs'.1 k hk) hs'.2
   unfold EO
   split
   ·rename_i h'; exact ⟨⟨h, h'.2, h'.1⟩, ih⟩
   ·exact ih.weaken (by omega)

theorem aFu {r : List aB} (h : ∀ j ∈ r, -2 < j.At) (hs : Srt VV r) : Up (-2) (grp r) := by
 cases r with
 | nil => trivial
 | cons j r =>
  have hs' := List.pairwise_cons.1 hs
  exact SK (h j (by simp)) (fun k hk => hs'.1 k hk) hs'.2

theorem XO {l out : List aB} (hl : l.length ≤ 1099511627776) (hb : ∀ j ∈ l, j.Net ≤ 1048576 ∧ -1048576 ≤ j.Net) : ∀ (r : List aB) (k : Nat) (p n : Int), l.drop k = r → k ≤ l.length → n ≤ 1048576 * k → -(1048576 * k) ≤ n →
  ∃ n' k', k ≤ k' ∧ k' ≤ l.length ∧ zR p n r = EO p n' ++ grp (l.drop k') ∧ lp (fun s : List aB × List aB × Int × aB => oC s.1 s.2.1 s.2.2.1 s.2.2.2) (l, out, (k : Int), ⟨p, n⟩) = some (l, out, ((k' : Nat) : Int), ⟨p, n'⟩) ∧ (∀ j r', r = j :: r' → j.At = p → k < k')
 | [], k, p, n, hd, hk, _, _ => by
  have : k = l.length := by
   have := congrArg List.length hd
   simp only [List.length_drop, List.length_nil] at this; omega
  subst this
  refine ⟨n, l.length, Nat.le_refl _, Nat.le_refl _, by simp [zR, grp], cE ?_, fun j r' h => by cases h⟩
  show oC _ _ _ _ = _
  simp only [oC, mY, Bool.false_and, cond_false]
  exact aQ (fun h => by cases h)
 | a :: r, k, p, n, hd, hk, h1, h2 => by
  obtain ⟨e1, e2⟩ := drop_cons hd
  have hlt : k < l.length := (List.getElem?_eq_some_iff.1 e1).1
  obtain ⟨d1, d2, d3, d4⟩ := idx e1 (by omega)
  have ha := hb a (List.mem_of_getElem? e1)
  by_cases h : a.At = p
  ·have hw : IntKind.i64.wrap (n + a.Net) = n + a.Net := fV (by omega) (by omega)
   obtain ⟨n', k', k1, k2, k3, k4, _⟩ := XO hl hb r (k + 1) p (n + a.Net) e2 (by omega) (by omega) (by omega) (out := out)
   refine ⟨n', k', by omega, k2, by simp [zR, h, k3], ?_, fun _ _ _ _ => by omega⟩
   have hb : (fun s : List aB × List aB × Int × aB => oC s.1 s.2.1 s.2.2.1 s.2.2.2) (l, out, (k : Int), ⟨p, n⟩) = some (.inl (l, out, ((k + 1 : Nat) : Int), ⟨p, n + a.Net⟩)) := by
    show oC _ _ _ _ = _
    simp only [oC, d1, Bool.true_and, d3, d4, h, decide_true, cond_true, hw]
    rw [aQ (fun _ => d2), aQ d2]
   rw [dO hb, k4]
  ·refine ⟨n, k, Nat.le_refl _, hk, ?_, cE ?_, fun j r' he hp => ?_⟩
   ·rw [hd]; simp [zR, h, grp]
   ·show oC _ _ _ _ = _
    simp only [oC, d1, Bool.true_and, d3, h, decide_false, cond_false]
    exact aQ (fun _ => d2)
   ·cases he; exact absurd hp h

theorem aDH {l : List aB} (hl : l.length ≤ 1099511627776) (hb : ∀ j ∈ l, j.Net ≤ 1048576 ∧ -1048576 ≤ j.Net) : ∀ (m k : Nat) (out : List aB), l.length - k ≤ m → k ≤ l.length → out.length ≤ k →
  lp (fun s : List aB × List aB × Int => qH s.1 s.2.1 s.2.2) (l, out, (k : Int)) = some (out ++ grp (l.drop k)) := by
 have stop : ∀ out, lp (fun s : List aB × List aB × Int => qH s.1 s.2.1 s.2.2) (l, out, ((l.length : Nat) : Int)) = some (out ++ grp (l.drop l.length)) := by
  intro out
  refine cE ?_
  show qH _ _ _ = _
  simp only [qH, mY, cond_false]
  simp [grp]
 intro m
 induction m with
 | zero =>
  intro k out hm hk _
  have : k = l.length := by omega
  subst this; exact stop out
 | succ m ih =>
  intro k out hm hk ho
  by_cases he : k = l.length
  ·subst he; exact stop out
  ·have hlt : k < l.length := by omega
   have hd : l.drop k = l[k] :: l.drop (k + 1) := List.drop_eq_getElem_cons hlt
   obtain ⟨d1, d2, d3, d4⟩ := idx (List.getElem?_eq_getElem hlt) (by omega)
   obtain ⟨n', k', k1, k2, k3, k4, k5⟩ := XO hl hb (l.drop k) k l[k].At 0 rfl hk (by omega) (by omega) (out := out)
   have hk' := k5 _ _ hd rfl
   have hbod : (fun s : List aB × List aB × Int => qH s.1 s.2.1 s.2.2) (l, out, (k : Int)) = some (.inl (l, out ++ EO l[k].At n', ((k' : Nat) : Int))) := by
    show qH _ _ _ = _
    simp only [qH, d1, cond_true, aQ d2, d3, CY, k4, Option.bind_some, yV]
    unfold EO
    by_cases c : n' ≠ 0 ∧ l[k].At < 1125899906842624
    ·have hc : (!decide (n' = 0) && decide (l[k].At < 1125899906842624)) = true := by simp [c]
     rw [hc, cond_true, if_pos c, aQ (by simp only [List.length_cons, List.length_nil]; omega)]
    ·have hc : (!decide (n' = 0) && decide (l[k].At < 1125899906842624)) = false := by
      rw [Bool.eq_false_iff]; intro h; apply c; simpa using h
     rw [hc, cond_false, if_neg c]; simp
   have hfl : (EO l[k].At n').length ≤ 1 := by unfold EO; split <;> simp
   rw [dO hbod, ih k' _ (by omega) k2 (by simp only [List.length_append]; omega)]
   have hg : grp (l.drop k) = zR l[k].At 0 (l.drop k) := by rw [hd]; simp [grp, zR]
   rw [hg, k3]; simp

theorem aFr (a b : aB) : rQ a b = some (if a.At < b.At then -1 else if b.At < a.At then 1 else 0) := by
 unfold rQ nD nQ
 by_cases h1 : a.At < b.At
 ·simp [h1]
 ·by_cases h2 : b.At < a.At <;> simp [h1, h2]

theorem aGp : Cmp (fun _ => True) VV (fun y0 y1 => rQ y0 y1) where
 ans x y _ _ := ⟨_, aFr x y, by unfold VV; split <;> (try split) <;> omega⟩
 trans x y z _ _ _ h1 h2 := Int.le_trans h1 h2
 total x y _ _ := Int.le_total x.At y.At

theorem aGh {l : List aB} (hl : l.length ≤ 1099511627776) : ∃ r, r.Perm l ∧ Srt VV r ∧ fD l (fun y0 y1 => rQ y0 y1) = some r := by
 obtain ⟨r, r1, r2, r3⟩ := TS aGp (d := l) (fun _ _ => trivial) hl
 refine ⟨r, r1, r2, ?_⟩
 unfold fD
 rw [aAa, r3]; rfl

theorem XX {f g : List aB} (h : f.Perm g) (t : Int) : val f t = val g t := by
 induction h with
 | nil => rfl
 | cons x _ ih => rw [eE, eE, ih]
 | swap x y l => rw [eE, eE, eE, eE]; omega
 | trans _ _ ih1 ih2 => rw [ih1, ih2]

theorem aBv {l : List aB} (h : l.any xE = false) : ∀ j ∈ l, j.Net ≤ 1048576 ∧ -1048576 ≤ j.Net := by
 intro j hj
 have := List.any_eq_false.1 h j hj
 simp [xE, JV] at this
 omega

theorem GB {l : List aB} (h : l.any DK = false) : ∀ j ∈ l, -2 < j.At ∧ j.At ≤ 1125899906842624 := by
 intro j hj
 have := List.any_eq_false.1 h j hj
 simp [DK] at this
 omega

theorem MB {l : List aB} (ht : ∀ j ∈ l, -2 < j.At) : Inc (-2) (RW [] (l.filter fun j => decide (j.At < 1125899906842624))) :=
 YP (ps := []) (show Inc (-2) [] from trivial) fun j hj => by
  obtain ⟨h1, h2⟩ := List.mem_filter.1 hj
  exact ⟨ht j h1, by simpa using h2⟩

theorem XK {l h : List aB} (ht : ∀ j ∈ l, -2 < j.At) (hh : Up (-2) h) (hv : ∀ t, -2 < t → t < 1125899906842624 → val h t = val l t) : CS l = h := by
 refine aDB (F := val l) (yE fun j hj => ht j hj) (MB ht) ?_ hh hv
 intro s t _ hst h2 hn
 exact HD hst fun j hj hc => hn j.At (PI.2 (Or.inr ⟨j, List.mem_filter.2 ⟨hj, by simp; omega⟩, rfl⟩)) hc

theorem norm_eq {l : List aB} (hl : l.length ≤ 1099511627776) : AF l = some (qB l) := by
 unfold AF qB
 rw [LV (g := xE) hl (fun x _ => by simp [wU, aAN, xE])]
 simp only [Option.bind_some]
 cases h1 : l.any xE
 ·rw [LV (f := fun y0 => wQ y0) (g := DK) hl (fun x _ => rfl)]
  simp only [cond_false, Option.bind_some, Bool.false_eq_true, if_false]
  cases h2 : l.any DK
  ·simp only [cond_false, Bool.false_eq_true, if_false]
   have hc : dY l = some l := by unfold dY; exact aQ ⟨by omega, by omega⟩
   obtain ⟨r, r1, r2, r3⟩ := aGh hl
   rw [hc]
   simp only [Option.bind_some]
   rw [r3]
   simp only [Option.bind_some, CG]
   have hlr : r.length ≤ 1099511627776 := by rw [r1.length_eq]; exact hl
   have := aDH hlr (fun j hj => aBv h1 j (r1.mem_iff.1 hj)) r.length 0 [] (by omega) (by omega) (by simp)
   simp only [Int.natCast_zero, List.drop_zero, List.nil_append] at this
   rw [this]
   simp only [Option.bind_some, yR, WI]
   rw [XK (fun j hj => (GB h2 j hj).1) (aFu (fun j hj => (GB h2 j (r1.mem_iff.1 hj)).1) r2) (fun t _ ht => by rw [aFs ht, XX r1])]
  ·simp
 ·simp

end Go.Abs
namespace Go.Abs
open Go
theorem TJ (x y : ByteArray) : tP x y = decide (x = y) := by
 unfold tP
 rw [ByteArray.toList_eq, ByteArray.toList_eq]
 by_cases h : x = y
 ·simp [h]
 ·have : x.data.toList ≠ y.data.toList := by
   intro he
   apply h
   cases x; cases y
   congr 1
   exact Array.toList_inj.1 he
  have h2 : (x.data.toList == y.data.toList) = false := by simpa using this
  rw [h2]; simp [h]

theorem veq (a b : aI) : ((decide (a.Kind = b.Kind)) && ((decide (a.Num = b.Num)) && ((tP a.Text b.Text) && true))) = decide (a = b) := by
 rw [TJ]
 obtain ⟨a1, a2, a3⟩ := a
 obtain ⟨b1, b2, b3⟩ := b
 by_cases h1 : a1 = b1 <;> by_cases h2 : a2 = b2 <;> by_cases h3 : a3 = b3 <;> simp [h1, h2, h3]

def IS (v : aI) : Bool := decide (v.Kind = 1) && tP v.Text (⟨#[]⟩ : ByteArray)

def IY (v : aI) : Bool := ((decide (v.Kind = 2)) && (decide (v.Num = 0))) && (decide (((ByteArray.size v.Text : Nat) : Int) ≤ 64))

def JS (v : aI) : Bool := IS v || IY v

def vG (r : List aI) : Bool := decide (r.length ≤ 8) && r.all JS

theorem of_eq (v : aI) : qK v = some (if IS v then (.k_number v.Num, true) else if IY v then (.k_words v.Text, true) else (.none_, false)) := by
 unfold qK IS IY
 cases (decide (v.Kind = 1) && tP v.Text (⟨#[]⟩ : ByteArray)) <;> cases (((decide (v.Kind = 2)) && (decide (v.Num = 0))) && (decide (((ByteArray.size v.Text : Nat) : Int) ≤ 64))) <;> rfl

theorem aER (v : aI) : AE v = some (JS v) := by
 unfold AE JS
 rw [of_eq]
 cases IS v <;> cases IY v <;> rfl

theorem YH {l : List aI} {f : aI → Option Bool} {g : aI → Bool} (hl : l.length ≤ 1099511627776) (hf : ∀ x ∈ l, f x = some (g x)) : fP l f = some (l.any g) := by
 unfold fP jV jP
 obtain ⟨x, e, hx⟩ := JH hl hf l 0 rfl (Nat.zero_le _)
 have e' : lp (fun s => jT f l (l.length : Nat) s) 0 = some x := e
 rw [e']
 rcases hx with ⟨rfl, h⟩ | ⟨i, rfl, _, _, h, _⟩
 ·simp [fY, h]
 ·simp [h]

theorem MR (r : List aI) : vZ r = some (vG r) := by
 unfold vZ vG
 by_cases h : r.length ≤ 8
 ·have h1 : decide ((8 : Int) < ((r.length : Nat) : Int)) = false := by simp; omega
  rw [h1, cond_false, YH (g := fun v => !JS v) (by omega) (fun x _ => by simp [AB, aER])]
  simp only [Option.bind_some, h, decide_true, Bool.true_and]
  congr 1
  rw [List.all_eq_not_any_not]
 ·have h1 : decide ((8 : Int) < ((r.length : Nat) : Int)) = true := by simp; omega
  rw [h1, cond_true]
  simp [h]

theorem VG {α : Type} [DecidableEq α] {f g : List α} {body : Int → Option (Int ⊕ (Unit ⊕ Bool))} (he : f.length = g.length)
  (hb : ∀ (i : Nat) a b, f[i]? = some a → g[i]? = some b → body i = some (if a = b then .inl ((i + 1 : Nat) : Int) else .inr (.inr false)))
  (hend : body (f.length : Nat) = some (.inr (.inl ()))) : ∀ (m k : Nat), f.length - k = m → k ≤ f.length → lp body (k : Int) = some (if f.drop k = g.drop k then .inl () else .inr false)
 | 0, k, hm, hk => by
  have : k = f.length := by omega
  subst this
  rw [List.drop_length, he, List.drop_length, if_pos rfl]
  rw [← he]
  exact cE hend
 | m + 1, k, hm, hk => by
  have h1 : k < f.length := by omega
  have h2 : k < g.length := by omega
  have hbk := hb k _ _ (List.getElem?_eq_getElem h1) (List.getElem?_eq_getElem h2)
  have e1 : f.drop k = f[k] :: f.drop (k + 1) := List.drop_eq_getElem_cons h1
  have e2 : g.drop k = g[k] :: g.drop (k + 1) := List.drop_eq_getElem_cons h2
  have hiff : (f.drop k = g.drop k) ↔ (f[k] = g[k] ∧ f.drop (k + 1) = g.drop (k + 1)) := by rw [e1, e2, List.cons.injEq]
  by_cases h : f[k] = g[k]
  ·rw [if_pos h] at hbk
   rw [dO hbk, VG he hb hend m (k + 1) (by omega) (by omega)]
   simp only [hiff, h, true_and]
  ·rw [if_neg h] at hbk
   rw [cE hbk]
   simp only [hiff, h, false_and, if_false]

end Go.Abs
