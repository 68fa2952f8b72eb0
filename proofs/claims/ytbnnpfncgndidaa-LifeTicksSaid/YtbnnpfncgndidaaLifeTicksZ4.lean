/- What the law LifeTicks stands on: the framework, the given functions as plain functions, their walks, and the plain laws; part 4. -/
import Derived.Test.YtbnnpfncgndidaaLifeTicksZ3
set_option linter.unusedSimpArgs false
set_option linter.unusedVariables false
namespace Go.Abs
open Go Go.RowKit Go.Proofs
theorem LC (l0 : (List aB)) (r : ((List aB) × Int)) (h0 : rD l0 = some r) : bV Try.prog 65 [(eL aE l0)] (.tup [(eL aE r.1), (eI r.2)]) := by
  intro H0
  refine cE Try.func65 ?_
  have hO := aN.start H0
  unfold rD at h0
  refine aS aG 2 [] [] ?_
  refine aP ?_
  refine aP ?_
  refine aV aG 2 ?_
  refine bN 1 ?_
  obtain ⟨x1, hx2, h0⟩ := aW h0
  refine dA (kU l0 97 [] [] (fun y0 => oV y0) (fun y0 r h => HP y0 r h) _ hx2) hO ?_
  intro H hO
  refine cP ?_
  refine bR [] [(9, (aM x1))] ?_
  refine bH h0 (fun h0 => ?_) (fun h0 => ?_)
  · refine bQ aG 2 [(2, (.sl true 0 (fun _ => .bad))), (3, (eI (2 : Int)))] ?_
    refine bI ?_
    refine cG (l := [(2, (eL aE ([]))), (3, (eI (2 : Int)))]) ⟨[(2, (.sl true 0 (fun _ => .bad))), (3, (eI (2 : Int)))], by kernel_rfl, rfl, ⟨lJ, aR.refl _, trivial⟩⟩ ?_
    obtain rfl := oI h0
    exact aI (aX (Q_r hO))
  refine bJ ?_
  refine bF [(0, (eL aE l0))] ?_
  refine aP ?_
  refine aP ?_
  refine aV aG 2 ?_
  refine bN 1 ?_
  obtain ⟨x5, hx6, h0⟩ := aW h0
  refine dA (kU l0 98 [] [] (fun y0 => oS y0) (fun y0 r h => HM y0 r h) _ hx6) hO ?_
  intro H hO
  refine cP ?_
  refine bR [] [(11, (aM x5))] ?_
  refine bH h0 (fun h0 => ?_) (fun h0 => ?_)
  · refine bQ aG 2 [(2, (.sl true 0 (fun _ => .bad))), (3, (eI (13 : Int)))] ?_
    refine bI ?_
    refine cG (l := [(2, (eL aE ([]))), (3, (eI (13 : Int)))]) ⟨[(2, (.sl true 0 (fun _ => .bad))), (3, (eI (13 : Int)))], by kernel_rfl, rfl, ⟨lJ, aR.refl _, trivial⟩⟩ ?_
    obtain rfl := oI h0
    exact aI (aX (Q_r hO))
  refine bJ ?_
  refine bF [(0, (eL aE l0))] ?_
  refine aP ?_
  refine aV aG 3 ?_
  refine bN 1 ?_
  obtain ⟨x9, hx10, h0⟩ := aW h0
  refine NF (L' := fun lo11 => [(lo11, 2, List.map aE x9)]) 2 (List.map aE x9) 99 [(eL aE l0)] (fun lo11 => (.msl 2 lo11 0 (List.length x9))) (by kernel_rfl) (by kernel_rfl) (rZ l0 _ hx10) hO (fun _ => by kernel_rfl) ?_
  intro lo11 H hO
  refine bC ?_
  refine bF [(4, (.msl 2 lo11 0 (List.length x9)))] ?_
  refine aP ?_
  refine aV aG 2 ?_
  refine bN 1 ?_
  obtain ⟨x12, hx13, h0⟩ := aW h0
  refine mE [(lo11, 2, List.map aE x12)] 0 (nZ lo11 x9 101 [] [] (fun y0 y1 => kW y0 y1) (fun y0 y1 r h => HH y0 y1 r h) _ hx13) hO ?_
  intro H hO hl14
  simp only [List.length_map] at hl14
  refine cP ?_
  refine cG (l := [(4, (.msl 2 lo11 0 (List.length x12)))]) ⟨[(4, (.msl 2 lo11 0 (List.length x9)))], by kernel_rfl, rfl, ⟨aR.eq (by simp [hl14]), trivial⟩⟩ ?_
  refine aI (aH (?_))
  refine aP ?_
  refine aV aG 2 ?_
  refine vM (xs := []) (k := 2) (by kernel_rfl) (by kernel_rfl) ?_
  refine bC ?_
  refine bR [] [(5, (.sl true 0 (fun _ => .bad)))] ?_
  refine cY (fun T H => ∃ out5 : List aB, ∃ lo15 : Nat, Has T [(5, (.msl 2 lo15 0 (List.length out5)))] ∧ aN ⟨H0, [], []⟩ H [(lo15, 2, List.map aE out5)] ∧ qE out5 = some r) ?_ ?_
  · clear hO h0
    rintro T H ⟨out5, lo15, hT, hO, h0⟩
    refine aY hT ?_
    clear hT
    unfold qE at h0
    refine aP ?_
    refine aV aG 6 ?_
    refine wQ (e := aE) out5 0 5 2 lo15 (List.length out5) [] (by kernel_rfl) hO (by kernel_rfl) (by kernel_rfl) (by kernel_rfl) (by kernel_rfl) ?_
    intro H hO
    refine bN 1 ?_
    obtain ⟨x16, hx17, h0⟩ := aW h0
    refine dA (MA out5 _ hx17) hO ?_
    intro H hO
    refine bC ?_
    refine bF [(2, (eL aE x16.1)), (3, (eI x16.2))] ?_
    refine bI ?_
    obtain rfl := oI h0
    exact aI (Q_r hO)
  refine aS aG 1 [] [(6, (eI (0 : Int)))] ?_
  refine bO 0 ?_
  refine dL [(4, (.msl 2 lo11 0 (List.length x12))), (5, (.sl true 0 (fun _ => .bad))), (6, (eI (0 : Int)))] ?_
  refine JU (el := (fun _ => .bad)) 1 5 2 hO (by kernel_rfl) ?_
  intro lo43 H44 hO
  refine cR (fun T H => ∃ all4 : List aB, ∃ out5 : List aB, ∃ i6 : Int, ∃ lo21 : Nat, ∃ lo22 : Nat, Has T [(4, (.msl 2 lo21 0 (List.length all4))), (5, (.msl 2 lo22 0 (List.length out5))), (6, (eI i6))] ∧ aN ⟨H0, [], []⟩ H [(lo21, 2, List.map aE all4), (lo22, 2, List.map aE out5)] ∧ tP all4 out5 i6 = some r) ?_ ⟨x12, ([] : List aB), (0 : Int), lo11, lo43, .eq (by kernel_rfl), hO, h0⟩
  clear hO h0
  rintro T H ⟨all4, out5, i6, lo21, lo22, hT, hO, h0⟩
  refine aY hT ?_
  clear hT
  unfold tP at h0
  obtain ⟨rr0, hl0, h0⟩ := aW h0
  refine bZ (by kernel_rfl) (fun (s : List aB × List aB × Int) T H => ∃ lo21 : Nat, ∃ lo22 : Nat, Has T [(4, (.msl 2 lo21 0 (List.length s.1))), (5, (.msl 2 lo22 0 (List.length s.2.1))), (6, (eI s.2.2))] ∧ aN ⟨H0, [], []⟩ H [(lo21, 2, List.map aE s.1), (lo22, 2, List.map aE s.2.1)]) hl0 ⟨lo21, lo22, .eq (by kernel_rfl), hO⟩ ?_
  clear hO
  rintro k0 s out1 T H ⟨lo21, lo22, hT, hO⟩ h1 ho0
  obtain ⟨all4, out5, i6⟩ := s
  replace h1 : jR all4 out5 i6 = some out1 := h1
  dsimp only at hT
  refine aY hT ?_
  clear hT
  unfold jR at h1
  refine aP ?_
  refine aS aG 4 [] [(20, (aM (decide (i6 < (lN all4)))))] ?_
  refine bH h1 (fun h1 => ?_) (fun h1 => ?_)
  · refine bJ ?_
    refine bF [(4, (.msl 2 lo21 0 (List.length all4))), (5, (.msl 2 lo22 0 (List.length out5))), (6, (eI i6))] ?_
    refine bO 1 ?_
    refine aP ?_
    refine aV aG 8 ?_
    obtain ⟨c24, h1⟩ := bE h1
    refine uB 4 [0 ≤ i6 ∧ i6 < (lN all4)] ⟨c24, trivial⟩ ?_
    refine wH 0 lo21 2 (0 + Int.toNat i6) (aE (gD all4 i6)) (eI ((gD all4 i6).At)) (List.map aE all4) hO (cD c24) ?_
    refine bN 6 ?_
    refine pP 2 (aE (aB.mk 0 0)) (by kernel_rfl) (by kernel_rfl) hO ?_
    intro lo25 H hO
    refine nM 2 lo25 2 0 (aE (aB.mk 0 0)) (aE (aB.mk ((gD all4 i6).At) 0)) [(aE (aB.mk 0 0))] [(lo21, 2, List.map aE all4), (lo22, 2, List.map aE out5), (lo25, 2, [(aE (aB.mk ((gD all4 i6).At) 0))])] hO rfl (by kernel_rfl) ?_
    intro H hO
    refine cP ?_
    refine bR [] [(7, (.lp lo25 0 0))] ?_
    refine cY (fun T H => ∃ all4 : List aB, ∃ out5 : List aB, ∃ i6 : Int, ∃ j7 : aB, ∃ lo26 : Nat, ∃ lo27 : Nat, ∃ lo28 : Nat, Has T [(4, (.msl 2 lo26 0 (List.length all4))), (5, (.msl 2 lo27 0 (List.length out5))), (6, (eI i6)), (7, (.lp lo28 0 0))] ∧ aN ⟨H0, [], []⟩ H [(lo26, 2, List.map aE all4), (lo27, 2, List.map aE out5), (lo28, 2, [(aE j7)])] ∧ qG all4 out5 i6 j7 = some out1) ?_ ?_
    · clear hO h1
      rintro T H ⟨all4, out5, i6, j7, lo26, lo27, lo28, hT, hO, h1⟩
      refine aY hT ?_
      clear hT
      unfold qG at h1
      refine aP ?_
      refine aV aG 8 ?_
      refine bN 1 ?_
      refine wH 2 lo28 2 0 (aE j7) (eI j7.Net) [(aE j7)] hO rfl ?_
      refine bN 5 ?_
      refine sH [(55, true)] 2 lo28 2 0 (aE j7) (eI j7.At) [(aE j7)] (by kernel_rfl) (by kernel_rfl) hO (by kernel_rfl) (!decide (j7.Net = (0 : Int))) (by kernel_rfl) (fun hb29 => rfl) ?_
      refine bC ?_
      refine bR [] [(59, (aM ((!decide (j7.Net = (0 : Int))) && (decide (j7.At < (1125899906842624 : Int))))))] ?_
      refine bH h1 (fun h1 => ?_) (fun h1 => ?_)
      · refine aV aG 5 ?_
        refine bN 1 ?_
        refine wH 2 lo28 2 0 (aE j7) (aE j7) [(aE j7)] hO rfl ?_
        refine vM (xs := [(aE j7)]) (k := 2) (by kernel_rfl) (by kernel_rfl) ?_
        obtain ⟨c32, h1⟩ := bE h1
        refine MU (e := aE) out5 ([j7]) 1 lo27 2 16 (lO [(aE j7)]) (fun lo31 => [(lo26, 2, List.map aE all4), (lo31, 2, List.map aE (out5 ++ ([j7]))), (lo28, 2, [(aE j7)])]) (by kernel_rfl) (by kernel_rfl) hO (by kernel_rfl) (by kernel_rfl) c32 (fun _ => by kernel_rfl) ?_
        intro lo31 H hO
        refine bC ?_
        replace hO := hO.pick (L' := [(lo26, 2, List.map aE all4), (lo31, 2, List.map aE (out5 ++ ([j7])))]) [0, 1] (by decide) (by kernel_rfl)
        exact aI (aT (aH (⟨rfl, _, (oI h1).symm, _, _, .eq (by kernel_rfl), hO⟩)))
      refine bJ ?_
      replace hO := hO.pick (L' := [(lo26, 2, List.map aE all4), (lo27, 2, List.map aE out5)]) [0, 1] (by decide) (by kernel_rfl)
      exact aI (aT (aH (⟨rfl, _, (oI h1).symm, _, _, .eq (by kernel_rfl), hO⟩)))
    refine bO 2 ?_
    refine dL [(4, (.msl 2 lo21 0 (List.length all4))), (5, (.msl 2 lo22 0 (List.length out5))), (6, (eI i6)), (7, (.lp lo25 0 0))] ?_
    refine cR (fun T H => ∃ all4 : List aB, ∃ out5 : List aB, ∃ i6 : Int, ∃ j7 : aB, ∃ lo36 : Nat, ∃ lo37 : Nat, ∃ lo38 : Nat, Has T [(4, (.msl 2 lo36 0 (List.length all4))), (5, (.msl 2 lo37 0 (List.length out5))), (6, (eI i6)), (7, (.lp lo38 0 0))] ∧ aN ⟨H0, [], []⟩ H [(lo36, 2, List.map aE all4), (lo37, 2, List.map aE out5), (lo38, 2, [(aE j7)])] ∧ tK all4 out5 i6 j7 = some out1) ?_ ⟨all4, out5, i6, aB.mk ((gD all4 i6).At) 0, lo21, lo22, lo25, .eq (by kernel_rfl), hO, h1⟩
    clear hO h1
    rintro T H ⟨all4, out5, i6, j7, lo36, lo37, lo38, hT, hO, h1⟩
    refine aY hT ?_
    clear hT
    unfold tK at h1
    obtain ⟨rr1, hl1, h1⟩ := aW h1
    refine bZ (by kernel_rfl) (fun (s : List aB × List aB × Int × aB) T H => ∃ lo36 : Nat, ∃ lo37 : Nat, ∃ lo38 : Nat, Has T [(4, (.msl 2 lo36 0 (List.length s.1))), (5, (.msl 2 lo37 0 (List.length s.2.1))), (6, (eI s.2.2.1)), (7, (.lp lo38 0 0))] ∧ aN ⟨H0, [], []⟩ H [(lo36, 2, List.map aE s.1), (lo37, 2, List.map aE s.2.1), (lo38, 2, [(aE s.2.2.2)])]) hl1 ⟨lo36, lo37, lo38, .eq (by kernel_rfl), hO⟩ ?_
    clear hO
    rintro k1 s out2 T H ⟨lo36, lo37, lo38, hT, hO⟩ h2 ho1
    obtain ⟨all4, out5, i6, j7⟩ := s
    replace h2 : hU all4 out5 i6 j7 = some out2 := h2
    dsimp only at hT
    refine aY hT ?_
    clear hT
    unfold hU at h2
    refine aP ?_
    refine aP ?_
    obtain ⟨c39, h2⟩ := bE h2
    refine jP (jQ []) aG 14 ?_
    refine ET (K := fun T H => Has (lift T) [(4, (.msl 2 lo36 0 (List.length all4))), (5, (.msl 2 lo37 0 (List.length out5))), (6, (eI i6)), (7, (.lp lo38 0 0)), (40, (aM ((decide (i6 < (lN all4))) && (decide (((gD all4 i6).At) = j7.At)))))] ∧ aN ⟨H0, [], []⟩ H [(lo36, 2, List.map aE all4), (lo37, 2, List.map aE out5), (lo38, 2, [(aE j7)])]) ?_ ?_
    · refine tI 5 ?_
      refine FE (t := 31) (e := decide (i6 < (lN all4))) (by kernel_rfl) (fun hg40 => ?_) (fun hg40 => ?_)
      · refine cX 9 [0 ≤ i6 ∧ i6 < (lN all4)] ⟨(c39 hg40), trivial⟩ ?_
        refine vT 0 lo36 2 (0 + Int.toNat i6) (aE (gD all4 i6)) (eI ((gD all4 i6).At)) (List.map aE all4) (by kernel_rfl) (by kernel_rfl) (by kernel_rfl) hO (by kernel_rfl) (cD (c39 hg40)) ?_
        refine tI 11 ?_
        refine vT 2 lo38 2 0 (aE j7) (eI j7.At) [(aE j7)] (by kernel_rfl) (by kernel_rfl) (by kernel_rfl) hO (by kernel_rfl) rfl ?_
        refine nS ?_
        exact ⟨⟨[(4, (.msl 2 lo36 0 (List.length all4))), (5, (.msl 2 lo37 0 (List.length out5))), (6, (eI i6)), (7, (.lp lo38 0 0)), (40, (aM (decide (((gD all4 i6).At) = j7.At))))], by kernel_rfl, rfl, ⟨aR.refl _, aR.refl _, aR.refl _, aR.refl _, aR.eq (congrArg aM (BL hg40 rfl).symm), trivial⟩⟩, hO⟩
      refine nS ?_
      exact ⟨⟨[(4, (.msl 2 lo36 0 (List.length all4))), (5, (.msl 2 lo37 0 (List.length out5))), (6, (eI i6)), (7, (.lp lo38 0 0)), (40, (aM false))], by kernel_rfl, rfl, ⟨aR.refl _, aR.refl _, aR.refl _, aR.refl _, aR.eq (congrArg aM (BL hg40 rfl).symm), trivial⟩⟩, hO⟩
    · rintro T H ⟨hT, hO⟩
      refine cG hT ?_
      clear hT
      refine aI (aH ?_)
      refine bH h2 (fun h2 => ?_) (fun h2 => ?_)
      · refine bJ ?_
        refine bF [(4, (.msl 2 lo36 0 (List.length all4))), (5, (.msl 2 lo37 0 (List.length out5))), (6, (eI i6)), (7, (.lp lo38 0 0))] ?_
        refine aP ?_
        refine bO 3 ?_
        refine jP (jQ []) aG 10 ?_
        refine tI 1 ?_
        refine jW 2 lo38 2 0 (aE j7) (eI j7.Net) [(aE j7)] hO rfl ?_
        obtain ⟨c42, h2⟩ := bE h2
        refine cX 6 [0 ≤ i6 ∧ i6 < (lN all4)] ⟨c42, trivial⟩ ?_
        refine jW 0 lo36 2 (0 + Int.toNat i6) (aE (gD all4 i6)) (eI ((gD all4 i6).Net)) (List.map aE all4) hO (cD c42) ?_
        refine tI 9 ?_
        refine pW 2 lo38 2 0 (aE j7) (aE (aB.mk j7.At (wR (j7.Net + ((gD all4 i6).Net))))) [(aE j7)] [(lo36, 2, List.map aE all4), (lo37, 2, List.map aE out5), (lo38, 2, [(aE (aB.mk j7.At (wR (j7.Net + ((gD all4 i6).Net)))))])] hO rfl (by kernel_rfl) ?_
        intro H hO
        refine vJ (by kernel_rfl) ?_
        refine iZ [(4, (.msl 2 lo36 0 (List.length all4))), (5, (.msl 2 lo37 0 (List.length out5))), (6, (eI i6)), (7, (.lp lo38 0 0))] ?_
        refine aI (aT (aH (?_)))
        refine aV aG 3 ?_
        refine bC ?_
        exact aI (aH (⟨rfl, _, (oI h2).symm, _, _, _, .eq (by kernel_rfl), hO⟩))
      refine eP 2 ?_
      obtain rfl := oI h2
      obtain rfl : _ = rr1 := ho1
      replace h1 : qG all4 out5 i6 j7 = some out1 := h1
      exact aI (aU (aU (bL (aH (⟨rfl, _, _, _, _, _, _, _, .eq (by kernel_rfl), hO, h1⟩)))))
  refine eP 0 ?_
  replace hO := hO.pick (L' := [(lo22, 2, List.map aE out5)]) [1] (by decide) (by kernel_rfl)
  obtain rfl := oI h1
  obtain rfl : _ = rr0 := ho0
  replace h0 : qE out5 = some r := h0
  exact aI (aU (aU (bL (aH (⟨rfl, _, _, .eq (by kernel_rfl), hO, h0⟩)))))

theorem HO (f0 : (List aB)) (r : ((List aB) × Int)) (h0 : oR f0 = some r) : bV Try.prog 64 [(eL aE f0)] (.tup [(eL aE r.1), (eI r.2)]) := by
  intro H0
  refine cE Try.func64 ?_
  have hO := aN.start H0
  unfold oR at h0
  refine aS aG 2 [] [] ?_
  refine aP ?_
  refine aV aG 6 ?_
  refine bN 1 ?_
  obtain ⟨x1, hx2, h0⟩ := aW h0
  refine dA (LC f0 _ hx2) hO ?_
  intro H hO
  refine bC ?_
  refine bF [(2, (eL aE x1.1)), (3, (eI x1.2))] ?_
  refine bI ?_
  obtain rfl := oI h0
  exact aI (Q_r hO)

theorem LH (l0 : (List aC)) (r : ((List aC) × Int)) (h0 : rE l0 = some r) : bV Try.prog 23 [(eL aD l0)] (.tup [(eL aD r.1), (eI r.2)]) := by
  intro H0
  refine cE Try.func23 ?_
  have hO := aN.start H0
  unfold rE at h0
  refine aS aG 2 [] [] ?_
  refine aP ?_
  refine aP ?_
  refine aV aG 2 ?_
  refine bN 1 ?_
  obtain ⟨x1, hx2, h0⟩ := aW h0
  refine dA (kY l0 54 [] [] (fun y0 => oL y0) (fun y0 r h => HL y0 r h) _ hx2) hO ?_
  intro H hO
  refine cP ?_
  refine bR [] [(6, (aM x1))] ?_
  refine bH h0 (fun h0 => ?_) (fun h0 => ?_)
  · refine bQ aG 2 [(2, (.sl true 0 (fun _ => .bad))), (3, (eI (2 : Int)))] ?_
    refine bI ?_
    refine cG (l := [(2, (eL aD ([]))), (3, (eI (2 : Int)))]) ⟨[(2, (.sl true 0 (fun _ => .bad))), (3, (eI (2 : Int)))], by kernel_rfl, rfl, ⟨lJ, aR.refl _, trivial⟩⟩ ?_
    obtain rfl := oI h0
    exact aI (aX (Q_r hO))
  refine bJ ?_
  refine bF [(0, (eL aD l0))] ?_
  refine aP ?_
  refine aP ?_
  refine aV aG 2 ?_
  refine bN 1 ?_
  obtain ⟨x5, hx6, h0⟩ := aW h0
  refine dA (kY l0 56 [] [] (fun y0 => oN y0) (fun y0 r h => HE y0 r h) _ hx6) hO ?_
  intro H hO
  refine cP ?_
  refine bR [] [(8, (aM x5))] ?_
  refine bH h0 (fun h0 => ?_) (fun h0 => ?_)
  · refine bQ aG 2 [(2, (.sl true 0 (fun _ => .bad))), (3, (eI (13 : Int)))] ?_
    refine bI ?_
    refine cG (l := [(2, (eL aD ([]))), (3, (eI (13 : Int)))]) ⟨[(2, (.sl true 0 (fun _ => .bad))), (3, (eI (13 : Int)))], by kernel_rfl, rfl, ⟨lJ, aR.refl _, trivial⟩⟩ ?_
    obtain rfl := oI h0
    exact aI (aX (Q_r hO))
  refine bJ ?_
  refine bF [(0, (eL aD l0))] ?_
  refine aP ?_
  refine aV aG 3 ?_
  refine bN 1 ?_
  obtain ⟨x9, hx10, h0⟩ := aW h0
  refine NF (L' := fun lo11 => [(lo11, 3, List.map aD x9)]) 3 (List.map aD x9) 57 [(eL aD l0)] (fun lo11 => (.msl 3 lo11 0 (List.length x9))) (by kernel_rfl) (by kernel_rfl) (rX l0 _ hx10) hO (fun _ => by kernel_rfl) ?_
  intro lo11 H hO
  refine bC ?_
  refine bF [(4, (.msl 3 lo11 0 (List.length x9)))] ?_
  refine aP ?_
  refine aV aG 2 ?_
  refine bN 1 ?_
  obtain ⟨x12, hx13, h0⟩ := aW h0
  refine mE [(lo11, 3, List.map aD x12)] 0 (nY lo11 x9 59 [] [] (fun y0 y1 => kV y0 y1) (fun y0 y1 r h => HI y0 y1 r h) _ hx13) hO ?_
  intro H hO hl14
  simp only [List.length_map] at hl14
  refine cP ?_
  refine cG (l := [(4, (.msl 3 lo11 0 (List.length x12)))]) ⟨[(4, (.msl 3 lo11 0 (List.length x9)))], by kernel_rfl, rfl, ⟨aR.eq (by simp [hl14]), trivial⟩⟩ ?_
  refine aI (aH (?_))
  refine aP ?_
  refine aV aG 6 ?_
  refine wQ (e := aD) x12 0 4 3 lo11 (List.length x12) [] (by kernel_rfl) hO (by kernel_rfl) (by kernel_rfl) (by kernel_rfl) (by kernel_rfl) ?_
  intro H hO
  refine bN 1 ?_
  obtain ⟨x15, hx16, h0⟩ := aW h0
  refine dA (HQ x12 64 [] [] (fun y0 => oR y0) (fun y0 r h => HO y0 r h) _ hx16) hO ?_
  intro H hO
  refine bC ?_
  refine bF [(2, (eL aD x15.1)), (3, (eI x15.2))] ?_
  refine bI ?_
  obtain rfl := oI h0
  exact aI (Q_r hO)

theorem xK (l0 : (List aC)) (d1 : Int) (bT : Int) (r : ((List aC) × Int)) (h0 : nL l0 d1 bT = some r) : bV Try.prog 14 [(eL aD l0), (eI d1), (eI bT)] (.tup [(eL aD r.1), (eI r.2)]) := by
  intro H0
  refine cE Try.func14 ?_
  have hO := aN.start H0
  unfold nL at h0
  refine aP ?_
  refine aV aG 3 ?_
  refine kK 1 (eI d1) (by kernel_rfl) (by kernel_rfl) ?_
  refine bC ?_
  refine bR [1] [(4, (.rp (eI d1)))] ?_
  refine aP ?_
  refine bO 0 ?_
  refine aP ?_
  refine aV aG 12 ?_
  refine bN 1 ?_
  obtain ⟨x1, hx2, h0⟩ := aW h0
  refine dA (OM l0 _ hx2) hO ?_
  intro H hO
  refine bC ?_
  refine bR [] [(12, (aM (((!x1) || (decide (d1 < (1 : Int)))) || (decide ((1099511627776 : Int) < d1)))))] ?_
  refine bH h0 (fun h0 => ?_) (fun h0 => ?_)
  · refine bQ aG 2 [(6, (.sl true 0 (fun _ => .bad))), (7, (eI (2 : Int)))] ?_
    refine bI ?_
    refine cG (l := [(6, (eL aD ([]))), (7, (eI (2 : Int)))]) ⟨[(6, (.sl true 0 (fun _ => .bad))), (7, (eI (2 : Int)))], by kernel_rfl, rfl, ⟨lJ, aR.refl _, trivial⟩⟩ ?_
    obtain rfl := oI h0
    exact aI (bU (aX (Q_r hO)))
  refine aP ?_
  refine aV aG 4 ?_
  refine bN 1 ?_
  obtain ⟨x5, hx6, h0⟩ := aW h0
  refine dA (KR l0 _ hx6) hO ?_
  intro H hO
  refine bC ?_
  refine bR [12] [(24, (aM (!x5)))] ?_
  refine bH h0 (fun h0 => ?_) (fun h0 => ?_)
  · refine bQ aG 2 [(6, (.sl true 0 (fun _ => .bad))), (7, (eI (20 : Int)))] ?_
    refine bI ?_
    refine cG (l := [(6, (eL aD ([]))), (7, (eI (20 : Int)))]) ⟨[(6, (.sl true 0 (fun _ => .bad))), (7, (eI (20 : Int)))], by kernel_rfl, rfl, ⟨lJ, aR.refl _, trivial⟩⟩ ?_
    obtain rfl := oI h0
    exact aI (bU (aX (Q_r hO)))
  refine aS aG 7 [24] [(28, (aM ((decide (bT < (0 : Int))) || (decide ((1125899906842624 : Int) < bT)))))] ?_
  refine bH h0 (fun h0 => ?_) (fun h0 => ?_)
  · refine bQ aG 2 [(6, (.sl true 0 (fun _ => .bad))), (7, (eI (13 : Int)))] ?_
    refine bI ?_
    refine cG (l := [(6, (eL aD ([]))), (7, (eI (13 : Int)))]) ⟨[(6, (.sl true 0 (fun _ => .bad))), (7, (eI (13 : Int)))], by kernel_rfl, rfl, ⟨lJ, aR.refl _, trivial⟩⟩ ?_
    obtain rfl := oI h0
    exact aI (bU (aX (Q_r hO)))
  refine bJ ?_
  refine iZ [(0, (eL aD l0)), (2, (eI bT)), (4, (.rp (eI d1)))] ?_
  refine aI (aT (aH (?_)))
  refine aS aG 2 [4] [(8, (.fn (.func 43) [] [(.rp (eI d1))]))] ?_
  refine aP ?_
  refine aV aG 4 ?_
  refine bN 2 ?_
  obtain ⟨c10, h0⟩ := bE h0
  refine MY 3 40 (lN l0) (by kernel_rfl) (by kernel_rfl) c10 hO ?_
  intro lo11 H hO
  refine bC ?_
  refine bR [] [(9, (.msl 3 lo11 0 (List.length ([] : List aC))))] ?_
  refine cY (fun T H => ∃ out9 : List aC, ∃ lo12 : Nat, Has T [(9, (.msl 3 lo12 0 (List.length out9)))] ∧ aN ⟨H0, [], []⟩ H [(lo12, 3, List.map aD out9)] ∧ qJ out9 = some r) ?_ ?_
  · clear hO h0
    rintro T H ⟨out9, lo12, hT, hO, h0⟩
    refine aY hT ?_
    clear hT
    unfold qJ at h0
    refine aP ?_
    refine aV aG 6 ?_
    refine wQ (e := aD) out9 0 9 3 lo12 (List.length out9) [] (by kernel_rfl) hO (by kernel_rfl) (by kernel_rfl) (by kernel_rfl) (by kernel_rfl) ?_
    intro H hO
    refine bN 1 ?_
    obtain ⟨x13, hx14, h0⟩ := aW h0
    refine dA (LH out9 _ hx14) hO ?_
    intro H hO
    refine bC ?_
    refine bF [(6, (eL aD x13.1)), (7, (eI x13.2))] ?_
    refine bI ?_
    obtain rfl := oI h0
    exact aI (Q_r hO)
  refine aS aG 3 [0] [(39, (eL aD l0)), (40, (eI (lN l0))), (41, (eI (0 : Int)))] ?_
  refine bO 1 ?_
  refine dL [(2, (eI bT)), (8, (.fn (.func 43) [] [(.rp (eI d1))])), (9, (.msl 3 lo11 0 (List.length ([] : List aC)))), (39, (eL aD l0)), (40, (eI (lN l0))), (41, (eI (0 : Int)))] ?_
  refine cR (fun T H => ∃ lT : Int, ∃ out9 : List aC, ∃ t39 : (List aC), ∃ t40 : Int, ∃ t41 : Int, ∃ lo17 : Nat, Has T [(2, (eI bT)), (8, (.fn (.func 43) [] [(.rp (eI lT))])), (9, (.msl 3 lo17 0 (List.length out9))), (39, (eL aD t39)), (40, (eI t40)), (41, (eI t41))] ∧ aN ⟨H0, [], []⟩ H [(lo17, 3, List.map aD out9)] ∧ tM bT lT out9 t39 t40 t41 = some r) ?_ ⟨d1, ([] : List aC), l0, (lN l0), (0 : Int), lo11, .eq (by kernel_rfl), hO, h0⟩
  clear hO h0
  rintro T H ⟨lT, out9, t39, t40, t41, lo17, hT, hO, h0⟩
  refine aY hT ?_
  clear hT
  unfold tM at h0
  obtain ⟨rr0, hl0, h0⟩ := aW h0
  refine bZ (by kernel_rfl) (fun (s : List aC × Int) T H => ∃ lo17 : Nat, Has T [(2, (eI bT)), (8, (.fn (.func 43) [] [(.rp (eI lT))])), (9, (.msl 3 lo17 0 (List.length s.1))), (39, (eL aD t39)), (40, (eI t40)), (41, (eI s.2))] ∧ aN ⟨H0, [], []⟩ H [(lo17, 3, List.map aD s.1)]) hl0 ⟨lo17, .eq (by kernel_rfl), hO⟩ ?_
  clear hO
  rintro k0 s out1 T H ⟨lo17, hT, hO⟩ h1 ho0
  obtain ⟨out9, t41⟩ := s
  replace h1 : lW bT lT t39 t40 out9 t41 = some out1 := h1
  dsimp only at hT
  refine aY hT ?_
  clear hT
  unfold lW at h1
  refine aS aG 1 [] [(42, (aM (decide (t41 < t40))))] ?_
  refine aP ?_
  refine bH h1 (fun h1 => ?_) (fun h1 => ?_)
  · refine bJ ?_
    refine bF [(2, (eI bT)), (8, (.fn (.func 43) [] [(.rp (eI lT))])), (9, (.msl 3 lo17 0 (List.length out9))), (39, (eL aD t39)), (40, (eI t40)), (41, (eI t41))] ?_
    refine cY (fun T H => ∃ out9 : List aC, ∃ lo19 : Nat, Has T [(2, (eI bT)), (8, (.fn (.func 43) [] [(.rp (eI lT))])), (9, (.msl 3 lo19 0 (List.length out9))), (39, (eL aD t39)), (40, (eI t40)), (41, (eI t41))] ∧ aN ⟨H0, [], []⟩ H [(lo19, 3, List.map aD out9)] ∧ pR bT lT out9 t39 t40 t41 = some out1) ?_ ?_
    · clear hO h1
      rintro T H ⟨out9, lo19, hT, hO, h1⟩
      refine aY hT ?_
      clear hT
      unfold pR at h1
      refine aV aG 2 ?_
      refine bC ?_
      exact aI (aH (⟨rfl, _, (oI h1).symm, _, .eq (by kernel_rfl), hO⟩))
    refine bO 2 ?_
    refine aP ?_
    refine aV aG 4 ?_
    obtain ⟨c20, h1⟩ := bE h1
    refine uB 2 [0 ≤ t41 ∧ t41 < (lN t39)] ⟨c20, trivial⟩ ?_
    refine yQ 3 (.agg [(.sl true 0 (fun _ => .bad)), (eI 0), (eI 0)]) (aD (aC.mk ([]) 0 0)) (by kernel_rfl) (by kernel_rfl) (by kernel_rfl) (VN (xs := [(.sl true 0 (fun _ => .bad)), (eI 0), (eI 0)]) (ys := [(eL aL ([])), (eI 0), (eI 0)]) ⟨lJ, aR.refl _, aR.refl _, trivial⟩) (by kernel_rfl) (by kernel_rfl) hO ?_
    intro lo21 H hO
    refine nM 1 lo21 3 0 (aD (aC.mk ([]) 0 0)) (aD (gD t39 t41)) [(aD (aC.mk ([]) 0 0))] [(lo17, 3, List.map aD out9), (lo21, 3, [(aD (gD t39 t41))])] hO rfl (by kernel_rfl) ?_
    intro H hO
    refine cP ?_
    refine bR [] [(11, (.lp lo21 0 0))] ?_
    refine aP ?_
    refine aV aG 9 ?_
    refine bN 1 ?_
    refine wH 1 lo21 3 0 (aD (gD t39 t41)) (eI ((gD t39 t41).Net)) [(aD (gD t39 t41))] hO rfl ?_
    refine bN 5 ?_
    refine sH [(48, true)] 1 lo21 3 0 (aD (gD t39 t41)) (eI ((gD t39 t41).At)) [(aD (gD t39 t41))] (by kernel_rfl) (by kernel_rfl) hO (by kernel_rfl) (decide ((0 : Int) < ((gD t39 t41).Net))) (by kernel_rfl) (fun hb22 => rfl) ?_
    refine bC ?_
    refine bR [] [(53, (aM ((decide ((0 : Int) < ((gD t39 t41).Net))) && (decide (bT ≤ ((gD t39 t41).At))))))] ?_
    refine bH h1 (fun h1 => ?_) (fun h1 => ?_)
    · refine dL [(2, (eI bT)), (8, (.fn (.func 43) [] [(.rp (eI lT))])), (9, (.msl 3 lo17 0 (List.length out9))), (11, (.lp lo21 0 0)), (39, (eL aD t39)), (40, (eI t40)), (41, (eI t41)), (53, (aM ((decide ((0 : Int) < ((gD t39 t41).Net))) && (decide (bT ≤ ((gD t39 t41).At))))))] ?_
      refine GX 3 1 11 3 lo21 (aD (gD t39 t41)) [(lo17, 3, List.map aD out9)] hO (by kernel_rfl) (by kernel_rfl) (by kernel_rfl) ?_
      intro H hO
      refine jP (jQ [55, 57, 60, 63]) aG 15 ?_
      refine tI 7 ?_
      obtain ⟨x24, hx25, h1⟩ := aW h1
      refine vD (HG ((gD t39 t41).At) lT _ hx25) hO ?_
      intro H hO
      refine tI 12 ?_
      refine DQ (xs := [(aD (gD t39 t41)), (aD (aC.mk ((gD t39 t41).Row) x24 (wR (0 - ((gD t39 t41).Net)))))]) (k := 3) (by kernel_rfl) (by kernel_rfl) ?_
      obtain ⟨c28, h1⟩ := bE h1
      refine BN (e := aD) out9 ([gD t39 t41, aC.mk ((gD t39 t41).Row) x24 (wR (0 - ((gD t39 t41).Net)))]) 0 lo17 3 40 (lO [(aD (gD t39 t41)), (aD (aC.mk ((gD t39 t41).Row) x24 (wR (0 - ((gD t39 t41).Net)))))]) (fun lo27 => [(lo27, 3, List.map aD (out9 ++ ([gD t39 t41, aC.mk ((gD t39 t41).Row) x24 (wR (0 - ((gD t39 t41).Net)))])))]) (by kernel_rfl) (by kernel_rfl) hO (by kernel_rfl) (by kernel_rfl) c28 (fun _ => by kernel_rfl) ?_
      intro lo27 H hO
      refine nS ?_
      exact aI (aT (aH (⟨rfl, _, _, .eq (by kernel_rfl), hO, h1⟩)))
    refine bJ ?_
    replace hO := hO.pick (L' := [(lo17, 3, List.map aD out9)]) [0] (by decide) (by kernel_rfl)
    exact aI (aT (aH (⟨rfl, _, _, .eq (by kernel_rfl), hO, h1⟩)))
  refine eP 1 ?_
  obtain rfl := oI h1
  obtain rfl : _ = rr0 := ho0
  replace h0 : qJ out9 = some r := h0
  exact aI (aU (aU (bL (aH (⟨rfl, _, _, .eq (by kernel_rfl), hO, h0⟩)))))

theorem zZ  (r : Bool) (h0 : nW  = some r) : bV Try.prog 13 [] (aM r) := by
  intro H0
  refine cE Try.func13 ?_
  have hO := aN.start H0
  unfold nW at h0
  refine bQ aG 1 [] ?_
  refine aP ?_
  refine aV aG 3 ?_
  refine bN 1 ?_
  refine vM (xs := [(aL (aF.mk (1 : Int) (1 : Int) ByteArray.empty))]) (k := 3) (by kernel_rfl) (by kernel_rfl) ?_
  refine bC ?_
  refine cG (l := [(1, (eL aL ([aF.mk (1 : Int) (1 : Int) ByteArray.empty])))]) ⟨[(1, (lO [(aL (aF.mk (1 : Int) (1 : Int) ByteArray.empty))]))], by kernel_rfl, rfl, ⟨JQ (l := [aF.mk (1 : Int) (1 : Int) ByteArray.empty]), trivial⟩⟩ ?_
  refine aI (aH (?_))
  refine aP ?_
  refine aV aG 15 ?_
  refine bN 8 ?_
  refine vM (xs := [(aD (aC.mk ([aF.mk (1 : Int) (1 : Int) ByteArray.empty]) (2 : Int) (1 : Int))), (aD (aC.mk ([aF.mk (1 : Int) (1 : Int) ByteArray.empty]) (5 : Int) (1 : Int))), (aD (aC.mk ([aF.mk (1 : Int) (1 : Int) ByteArray.empty]) (6 : Int) (-1 : Int))), (aD (aC.mk ([aF.mk (1 : Int) (1 : Int) ByteArray.empty]) (9 : Int) (-1 : Int)))]) (k := 3) (by kernel_rfl) (by kernel_rfl) ?_
  obtain ⟨x1, hx2, h0⟩ := aW h0
  refine WK 14 [(lO [(aD (aC.mk ([aF.mk (1 : Int) (1 : Int) ByteArray.empty]) (2 : Int) (1 : Int))), (aD (aC.mk ([aF.mk (1 : Int) (1 : Int) ByteArray.empty]) (5 : Int) (1 : Int))), (aD (aC.mk ([aF.mk (1 : Int) (1 : Int) ByteArray.empty]) (6 : Int) (-1 : Int))), (aD (aC.mk ([aF.mk (1 : Int) (1 : Int) ByteArray.empty]) (9 : Int) (-1 : Int)))]), (eI (4 : Int)), (eI (0 : Int))] (.tup [(eL aD x1.1), (eI x1.2)]) (bV.sub (xK ([aC.mk ([aF.mk (1 : Int) (1 : Int) ByteArray.empty]) (2 : Int) (1 : Int), aC.mk ([aF.mk (1 : Int) (1 : Int) ByteArray.empty]) (5 : Int) (1 : Int), aC.mk ([aF.mk (1 : Int) (1 : Int) ByteArray.empty]) (6 : Int) (-1 : Int), aC.mk ([aF.mk (1 : Int) (1 : Int) ByteArray.empty]) (9 : Int) (-1 : Int)]) (4 : Int) (0 : Int) _ hx2) ⟨JQ (l := [aC.mk ([aF.mk (1 : Int) (1 : Int) ByteArray.empty]) (2 : Int) (1 : Int), aC.mk ([aF.mk (1 : Int) (1 : Int) ByteArray.empty]) (5 : Int) (1 : Int), aC.mk ([aF.mk (1 : Int) (1 : Int) ByteArray.empty]) (6 : Int) (-1 : Int), aC.mk ([aF.mk (1 : Int) (1 : Int) ByteArray.empty]) (9 : Int) (-1 : Int)]), aR.refl _, aR.refl _, trivial⟩) hO ?_
  intro H hO
  refine bC ?_
  refine bF [(2, (eL aD x1.1)), (3, (eI x1.2))] ?_
  refine aP ?_
  refine aV aG 6 ?_
  obtain ⟨x4, hx5, h0⟩ := aW h0
  refine WK 14 [(.sl true 0 (fun _ => .bad)), (eI (0 : Int)), (eI (0 : Int))] (.tup [(eL aD x4.1), (eI x4.2)]) (bV.sub (xK ([]) (0 : Int) (0 : Int) _ hx5) ⟨lJ, aR.refl _, aR.refl _, trivial⟩) hO ?_
  intro H hO
  refine bC ?_
  refine bR [] [(5, (eI x4.2))] ?_
  refine aP ?_
  refine aV aG 40 ?_
  obtain ⟨c7, h0⟩ := bE h0
  obtain ⟨c8, h0⟩ := bE h0
  obtain ⟨c9, h0⟩ := bE h0
  obtain ⟨c10, h0⟩ := bE h0
  refine pV [(((((decide (x1.2 = (0 : Int))) && (decide (x4.2 = (2 : Int)))) && (decide ((lN x1.1) = (4 : Int))))) = true → 0 ≤ (1 : Int) ∧ (1 : Int) < (lN x1.1)), ((((((decide (x1.2 = (0 : Int))) && (decide (x4.2 = (2 : Int)))) && (decide ((lN x1.1) = (4 : Int)))) && (decide (((gD x1.1 (1 : Int)).At) = (5 : Int))))) = true → 0 ≤ (2 : Int) ∧ (2 : Int) < (lN x1.1)), (((((((decide (x1.2 = (0 : Int))) && (decide (x4.2 = (2 : Int)))) && (decide ((lN x1.1) = (4 : Int)))) && (decide (((gD x1.1 (1 : Int)).At) = (5 : Int)))) && (decide (((gD x1.1 (2 : Int)).At) = (6 : Int))))) = true → 0 ≤ (2 : Int) ∧ (2 : Int) < (lN x1.1)), ((((((((decide (x1.2 = (0 : Int))) && (decide (x4.2 = (2 : Int)))) && (decide ((lN x1.1) = (4 : Int)))) && (decide (((gD x1.1 (1 : Int)).At) = (5 : Int)))) && (decide (((gD x1.1 (2 : Int)).At) = (6 : Int)))) && (decide (((gD x1.1 (2 : Int)).Net) = (-1 : Int))))) = true → 0 ≤ (3 : Int) ∧ (3 : Int) < (lN x1.1))] ⟨c7, c8, c9, c10, trivial⟩ ?_
  refine bF [(0, (aM (((((((decide (x1.2 = (0 : Int))) && (decide (x4.2 = (2 : Int)))) && (decide ((lN x1.1) = (4 : Int)))) && (decide (((gD x1.1 (1 : Int)).At) = (5 : Int)))) && (decide (((gD x1.1 (2 : Int)).At) = (6 : Int)))) && (decide (((gD x1.1 (2 : Int)).Net) = (-1 : Int)))) && (decide (((gD x1.1 (3 : Int)).At) = (9 : Int))))))] ?_
  refine bI ?_
  obtain rfl := oI h0
  exact aI (Q_r hO)

theorem KE (a0 : (List aF)) (b1 : (List aF)) (r : Bool) (h0 : qK a0 b1 = some r) : bV Try.prog 48 [(eL aL a0), (eL aL b1)] (aM r) := by
  intro H0
  refine cE Try.func48 ?_
  have hO := aN.start H0
  unfold qK at h0
  refine aS aG 1 [] [] ?_
  refine aP ?_
  refine aS aG 5 [] [(10, (aM (!decide ((lN a0) = (lN b1)))))] ?_
  refine bH h0 (fun h0 => ?_) (fun h0 => ?_)
  · refine bQ aG 1 [(4, (aM false))] ?_
    refine bI ?_
    obtain rfl := oI h0
    exact aI (aX (Q_r hO))
  refine bJ ?_
  refine bF [(0, (eL aL a0)), (1, (eL aL b1))] ?_
  refine cY (fun T H => Has T [] ∧ aN ⟨H0, [], []⟩ H [] ∧ oW  = some r) ?_ ?_
  · clear hO h0
    rintro T H ⟨hT, hO, h0⟩
    refine aY hT ?_
    clear hT
    unfold oW at h0
    refine bQ aG 1 [(4, (aM true))] ?_
    refine bI ?_
    obtain rfl := oI h0
    exact aI (Q_r hO)
  refine aS aG 1 [] [(5, (eI (0 : Int)))] ?_
  refine bO 0 ?_
  refine dL [(0, (eL aL a0)), (1, (eL aL b1)), (5, (eI (0 : Int)))] ?_
  refine cR (fun T H => ∃ i5 : Int, Has T [(0, (eL aL a0)), (1, (eL aL b1)), (5, (eI i5))] ∧ aN ⟨H0, [], []⟩ H [] ∧ rW a0 b1 i5 = some r) ?_ ⟨(0 : Int), .eq (by kernel_rfl), hO, h0⟩
  clear hO h0
  rintro T H ⟨i5, hT, hO, h0⟩
  refine aY hT ?_
  clear hT
  unfold rW at h0
  obtain ⟨rr0, hl0, h0⟩ := aW h0
  refine bZ (by kernel_rfl) (fun (s : Int) T H => Has T [(0, (eL aL a0)), (1, (eL aL b1)), (5, (eI s))] ∧ aN ⟨H0, [], []⟩ H []) hl0 ⟨.eq (by kernel_rfl), hO⟩ ?_
  clear hO
  rintro k0 s out1 T H ⟨hT, hO⟩ h1 ho0
  obtain ⟨i5, rfl⟩ : ∃ x, x = s := ⟨_, rfl⟩
  replace h1 : mW a0 b1 i5 = some out1 := h1
  refine aY hT ?_
  clear hT
  unfold mW at h1
  refine aP ?_
  refine aS aG 4 [] [(14, (aM (decide (i5 < (lN a0)))))] ?_
  refine bH h1 (fun h1 => ?_) (fun h1 => ?_)
  · refine bJ ?_
    refine bF [(0, (eL aL a0)), (1, (eL aL b1)), (5, (eI i5))] ?_
    refine aP ?_
    refine bO 1 ?_
    refine aP ?_
    refine jP (jQ [20, 24]) aG 9 ?_
    obtain ⟨c3, h1⟩ := bE h1
    obtain ⟨c4, h1⟩ := bE h1
    refine HZ (Ds := [0 ≤ i5 ∧ i5 < (lN a0), 0 ≤ i5 ∧ i5 < (lN b1)]) (by kernel_rfl) ⟨c3, c4, trivial⟩ ?_
    refine bR [] [(25, (aM (!((decide (((gD a0 i5).Kind) = ((gD b1 i5).Kind))) && ((decide (((gD a0 i5).Num) = ((gD b1 i5).Num))) && ((mD ((gD a0 i5).Text) ((gD b1 i5).Text)) && true))))))] ?_
    refine bH h1 (fun h1 => ?_) (fun h1 => ?_)
    · refine bQ aG 1 [(4, (aM false))] ?_
      refine bI ?_
      obtain rfl := oI h1
      obtain rfl : _ = rr0 := ho0
      replace h0 : some false = some r := h0
      obtain rfl := oI h0
      exact aI (bU (aX (aX (bU (aX (Q_r hO))))))
    refine bJ ?_
    refine iZ [(0, (eL aL a0)), (1, (eL aL b1)), (5, (eI i5))] ?_
    refine aI (aT (aH (?_)))
    refine aV aG 3 ?_
    refine bC ?_
    exact aI (aH (⟨rfl, _, (oI h1).symm, .eq (by kernel_rfl), hO⟩))
  refine eP 0 ?_
  obtain rfl := oI h1
  obtain rfl : _ = rr0 := ho0
  replace h0 : oW  = some r := h0
  exact aI (aU (aU (bL (aH (⟨rfl, .eq (by kernel_rfl), hO, h0⟩)))))

theorem zM (l0 : (List aC)) (r1 : (List aF)) (r : (List aB)) (h0 : nB l0 r1 = some r) : bV Try.prog 19 [(eL aD l0), (eL aL r1)] (eL aE r) := by
  intro H0
  refine cE Try.func19 ?_
  have hO := aN.start H0
  unfold nB at h0
  refine aS aG 1 [] [] ?_
  refine aP ?_
  refine aV aG 2 ?_
  refine vM (xs := []) (k := 2) (by kernel_rfl) (by kernel_rfl) ?_
  refine bC ?_
  refine bR [] [(5, (.sl true 0 (fun _ => .bad)))] ?_
  refine cY (fun T H => ∃ f5 : List aB, ∃ lo1 : Nat, Has T [(5, (.msl 2 lo1 0 (List.length f5)))] ∧ aN ⟨H0, [], []⟩ H [(lo1, 2, List.map aE f5)] ∧ qT f5 = some r) ?_ ?_
  · clear hO h0
    rintro T H ⟨f5, lo1, hT, hO, h0⟩
    refine aY hT ?_
    clear hT
    unfold qT at h0
    refine bQ aG 2 [(4, (.msl 2 lo1 0 (List.length f5)))] ?_
    refine bI ?_
    refine iZ [(4, (.msl 2 lo1 0 (List.length f5)))] ?_
    refine FY (en := aE) f5 0 0 4 2 lo1 (List.length f5) hO (by kernel_rfl) (by kernel_rfl) (by kernel_rfl) (L' := []) (by kernel_rfl) ?_
    intro H2 hO
    obtain rfl := oI h0
    exact aI (Q_r hO)
  refine aS aG 1 [] [(6, (eI (0 : Int)))] ?_
  refine bO 0 ?_
  refine dL [(0, (eL aD l0)), (1, (eL aL r1)), (5, (.sl true 0 (fun _ => .bad))), (6, (eI (0 : Int)))] ?_
  refine JU (el := (fun _ => .bad)) 2 5 2 hO (by kernel_rfl) ?_
  intro lo16 H17 hO
  refine cR (fun T H => ∃ f5 : List aB, ∃ i6 : Int, ∃ lo4 : Nat, Has T [(0, (eL aD l0)), (1, (eL aL r1)), (5, (.msl 2 lo4 0 (List.length f5))), (6, (eI i6))] ∧ aN ⟨H0, [], []⟩ H [(lo4, 2, List.map aE f5)] ∧ qS l0 r1 f5 i6 = some r) ?_ ⟨([] : List aB), (0 : Int), lo16, .eq (by kernel_rfl), hO, h0⟩
  clear hO h0
  rintro T H ⟨f5, i6, lo4, hT, hO, h0⟩
  refine aY hT ?_
  clear hT
  unfold qS at h0
  obtain ⟨rr0, hl0, h0⟩ := aW h0
  refine bZ (by kernel_rfl) (fun (s : List aB × Int) T H => ∃ lo4 : Nat, Has T [(0, (eL aD l0)), (1, (eL aL r1)), (5, (.msl 2 lo4 0 (List.length s.1))), (6, (eI s.2))] ∧ aN ⟨H0, [], []⟩ H [(lo4, 2, List.map aE s.1)]) hl0 ⟨lo4, .eq (by kernel_rfl), hO⟩ ?_
  clear hO
  rintro k0 s out1 T H ⟨lo4, hT, hO⟩ h1 ho0
  obtain ⟨f5, i6⟩ := s
  replace h1 : jZ l0 r1 f5 i6 = some out1 := h1
  dsimp only at hT
  refine aY hT ?_
  clear hT
  unfold jZ at h1
  refine aP ?_
  refine aS aG 4 [] [(11, (aM (decide (i6 < (lN l0)))))] ?_
  refine bH h1 (fun h1 => ?_) (fun h1 => ?_)
  · refine bJ ?_
    refine bF [(0, (eL aD l0)), (1, (eL aL r1)), (5, (.msl 2 lo4 0 (List.length f5))), (6, (eI i6))] ?_
    refine cY (fun T H => ∃ f5 : List aB, ∃ lo6 : Nat, Has T [(0, (eL aD l0)), (1, (eL aL r1)), (5, (.msl 2 lo6 0 (List.length f5))), (6, (eI i6))] ∧ aN ⟨H0, [], []⟩ H [(lo6, 2, List.map aE f5)] ∧ nR l0 r1 f5 i6 = some out1) ?_ ?_
    · clear hO h1
      rintro T H ⟨f5, lo6, hT, hO, h1⟩
      refine aY hT ?_
      clear hT
      unfold nR at h1
      refine aV aG 3 ?_
      refine bC ?_
      exact aI (aH (⟨rfl, _, (oI h1).symm, _, .eq (by kernel_rfl), hO⟩))
    refine bO 1 ?_
    refine aP ?_
    refine aV aG 7 ?_
    obtain ⟨c7, h1⟩ := bE h1
    refine uB 6 [0 ≤ i6 ∧ i6 < (lN l0)] ⟨c7, trivial⟩ ?_
    obtain ⟨x8, hx9, h1⟩ := aW h1
    refine dA (KE ((gD l0 i6).Row) r1 _ hx9) hO ?_
    intro H hO
    refine cP ?_
    refine bR [] [(20, (aM x8))] ?_
    refine bH h1 (fun h1 => ?_) (fun h1 => ?_)
    · refine jP (jQ [26, 31]) aG 15 ?_
      obtain ⟨c12, h1⟩ := bE h1
      obtain ⟨c13, h1⟩ := bE h1
      refine cX 12 [0 ≤ i6 ∧ i6 < (lN l0), 0 ≤ i6 ∧ i6 < (lN l0)] ⟨c12, c13, trivial⟩ ?_
      refine DQ (xs := [(aE (aB.mk ((gD l0 i6).At) ((gD l0 i6).Net)))]) (k := 2) (by kernel_rfl) (by kernel_rfl) ?_
      obtain ⟨c15, h1⟩ := bE h1
      refine BN (e := aE) f5 ([aB.mk ((gD l0 i6).At) ((gD l0 i6).Net)]) 0 lo4 2 16 (lO [(aE (aB.mk ((gD l0 i6).At) ((gD l0 i6).Net)))]) (fun lo14 => [(lo14, 2, List.map aE (f5 ++ ([aB.mk ((gD l0 i6).At) ((gD l0 i6).Net)])))]) (by kernel_rfl) (by kernel_rfl) hO (by kernel_rfl) (by kernel_rfl) c15 (fun _ => by kernel_rfl) ?_
      intro lo14 H hO
      refine nS ?_
      exact aI (aT (aH (⟨rfl, _, _, .eq (by kernel_rfl), hO, h1⟩)))
    refine bJ ?_
    exact aI (aT (aH (⟨rfl, _, _, .eq (by kernel_rfl), hO, h1⟩)))
  refine eP 0 ?_
  obtain rfl := oI h1
  obtain rfl : _ = rr0 := ho0
  replace h0 : qT f5 = some r := h0
  exact aI (aU (aU (bL (aH (⟨rfl, _, _, .eq (by kernel_rfl), hO, h0⟩)))))

theorem HC (f0 : (List aB)) (t1 : Int) (r : Int) (h0 : mY f0 t1 = some r) : bV Try.prog 20 [(eL aE f0), (eI t1)] (eI r) := by
  intro H0
  refine cE Try.func20 ?_
  have hO := aN.start H0
  unfold mY at h0
  refine aS aG 1 [] [] ?_
  refine aS aG 1 [] [(5, (eI (0 : Int)))] ?_
  refine cY (fun T H => ∃ v5 : Int, Has T [(5, (eI v5))] ∧ aN ⟨H0, [], []⟩ H [] ∧ nT v5 = some r) ?_ ?_
  · clear hO h0
    rintro T H ⟨v5, hT, hO, h0⟩
    refine aY hT ?_
    clear hT
    unfold nT at h0
    refine bQ aG 2 [(4, (eI v5))] ?_
    refine bI ?_
    obtain rfl := oI h0
    exact aI (Q_r hO)
  refine aS aG 1 [] [(6, (eI (0 : Int)))] ?_
  refine bO 0 ?_
  refine dL [(0, (eL aE f0)), (1, (eI t1)), (5, (eI (0 : Int))), (6, (eI (0 : Int)))] ?_
  refine cR (fun T H => ∃ v5 : Int, ∃ i6 : Int, Has T [(0, (eL aE f0)), (1, (eI t1)), (5, (eI v5)), (6, (eI i6))] ∧ aN ⟨H0, [], []⟩ H [] ∧ qQ f0 t1 v5 i6 = some r) ?_ ⟨(0 : Int), (0 : Int), .eq (by kernel_rfl), hO, h0⟩
  clear hO h0
  rintro T H ⟨v5, i6, hT, hO, h0⟩
  refine aY hT ?_
  clear hT
  unfold qQ at h0
  obtain ⟨rr0, hl0, h0⟩ := aW h0
  refine bZ (by kernel_rfl) (fun (s : Int × Int) T H => Has T [(0, (eL aE f0)), (1, (eI t1)), (5, (eI s.1)), (6, (eI s.2))] ∧ aN ⟨H0, [], []⟩ H []) hl0 ⟨.eq (by kernel_rfl), hO⟩ ?_
  clear hO
  rintro k0 s out1 T H ⟨hT, hO⟩ h1 ho0
  obtain ⟨v5, i6⟩ := s
  replace h1 : gU f0 t1 v5 i6 = some out1 := h1
  dsimp only at hT
  refine aY hT ?_
  clear hT
  unfold gU at h1
  refine aP ?_
  refine aS aG 4 [] [(10, (aM (decide (i6 < (lN f0)))))] ?_
  refine bH h1 (fun h1 => ?_) (fun h1 => ?_)
  · refine bJ ?_
    refine bF [(0, (eL aE f0)), (1, (eI t1)), (5, (eI v5)), (6, (eI i6))] ?_
    refine cY (fun T H => ∃ v5 : Int, Has T [(0, (eL aE f0)), (1, (eI t1)), (5, (eI v5)), (6, (eI i6))] ∧ aN ⟨H0, [], []⟩ H [] ∧ mP f0 t1 v5 i6 = some out1) ?_ ?_
    · clear hO h1
      rintro T H ⟨v5, hT, hO, h1⟩
      refine aY hT ?_
      clear hT
      unfold mP at h1
      refine aV aG 3 ?_
      refine bC ?_
      exact aI (aH (⟨rfl, _, (oI h1).symm, .eq (by kernel_rfl), hO⟩))
    refine bO 1 ?_
    refine aP ?_
    refine aV aG 7 ?_
    obtain ⟨c2, h1⟩ := bE h1
    refine pV [0 ≤ i6 ∧ i6 < (lN f0)] ⟨c2, trivial⟩ ?_
    refine bR [] [(19, (aM (decide (((gD f0 i6).At) ≤ t1))))] ?_
    refine bH h1 (fun h1 => ?_) (fun h1 => ?_)
    · refine aV aG 8 ?_
      obtain ⟨c4, h1⟩ := bE h1
      refine pV [0 ≤ i6 ∧ i6 < (lN f0)] ⟨c4, trivial⟩ ?_
      exact aI (aT (aH (⟨rfl, _, .eq (by kernel_rfl), hO, h1⟩)))
    refine bJ ?_
    exact aI (aT (aH (⟨rfl, _, .eq (by kernel_rfl), hO, h1⟩)))
  refine eP 0 ?_
  obtain rfl := oI h1
  obtain rfl : _ = rr0 := ho0
  replace h0 : nT v5 = some r := h0
  exact aI (aU (aU (bL (aH (⟨rfl, _, .eq (by kernel_rfl), hO, h0⟩)))))

theorem LD (f0 : (List aB)) (d1 : Int) (bT : Int) (t3 : Int) (r : Int) (h0 : rL f0 d1 bT t3 = some r) : bV Try.prog 18 [(eL aE f0), (eI d1), (eI bT), (eI t3)] (eI r) := by
  intro H0
  refine cE Try.func18 ?_
  have hO := aN.start H0
  unfold rL at h0
  refine aS aG 1 [] [] ?_
  refine aS aG 1 [] [(9, (eI (0 : Int)))] ?_
  refine cY (fun T H => ∃ n9 : Int, Has T [(9, (eI n9))] ∧ aN ⟨H0, [], []⟩ H [] ∧ qD n9 = some r) ?_ ?_
  · clear hO h0
    rintro T H ⟨n9, hT, hO, h0⟩
    refine aY hT ?_
    clear hT
    unfold qD at h0
    refine bQ aG 2 [(8, (eI n9))] ?_
    refine bI ?_
    obtain rfl := oI h0
    exact aI (Q_r hO)
  refine aS aG 1 [] [(10, (eI (0 : Int)))] ?_
  refine bO 0 ?_
  refine dL [(0, (eL aE f0)), (1, (eI d1)), (2, (eI bT)), (3, (eI t3)), (9, (eI (0 : Int))), (10, (eI (0 : Int)))] ?_
  refine cR (fun T H => ∃ n9 : Int, ∃ i10 : Int, Has T [(0, (eL aE f0)), (1, (eI d1)), (2, (eI bT)), (3, (eI t3)), (9, (eI n9)), (10, (eI i10))] ∧ aN ⟨H0, [], []⟩ H [] ∧ tQ f0 d1 bT t3 n9 i10 = some r) ?_ ⟨(0 : Int), (0 : Int), .eq (by kernel_rfl), hO, h0⟩
  clear hO h0
  rintro T H ⟨n9, i10, hT, hO, h0⟩
  refine aY hT ?_
  clear hT
  unfold tQ at h0
  obtain ⟨rr0, hl0, h0⟩ := aW h0
  refine bZ (by kernel_rfl) (fun (s : Int × Int) T H => Has T [(0, (eL aE f0)), (1, (eI d1)), (2, (eI bT)), (3, (eI t3)), (9, (eI s.1)), (10, (eI s.2))] ∧ aN ⟨H0, [], []⟩ H []) hl0 ⟨.eq (by kernel_rfl), hO⟩ ?_
  clear hO
  rintro k0 s out1 T H ⟨hT, hO⟩ h1 ho0
  obtain ⟨n9, i10⟩ := s
  replace h1 : lV f0 d1 bT t3 n9 i10 = some out1 := h1
  dsimp only at hT
  refine aY hT ?_
  clear hT
  unfold lV at h1
  refine aP ?_
  refine aS aG 4 [] [(14, (aM (decide (i10 < (lN f0)))))] ?_
  refine bH h1 (fun h1 => ?_) (fun h1 => ?_)
  · refine bJ ?_
    refine bF [(0, (eL aE f0)), (1, (eI d1)), (2, (eI bT)), (3, (eI t3)), (9, (eI n9)), (10, (eI i10))] ?_
    refine cY (fun T H => ∃ n9 : Int, Has T [(0, (eL aE f0)), (1, (eI d1)), (2, (eI bT)), (3, (eI t3)), (9, (eI n9)), (10, (eI i10))] ∧ aN ⟨H0, [], []⟩ H [] ∧ qL f0 d1 bT t3 n9 i10 = some out1) ?_ ?_
    · clear hO h1
      rintro T H ⟨n9, hT, hO, h1⟩
      refine aY hT ?_
      clear hT
      unfold qL at h1
      refine aV aG 3 ?_
      refine bC ?_
      exact aI (aH (⟨rfl, _, (oI h1).symm, .eq (by kernel_rfl), hO⟩))
    refine bO 1 ?_
    refine aP ?_
    refine aV aG 35 ?_
    obtain ⟨c2, h1⟩ := bE h1
    obtain ⟨c3, h1⟩ := bE h1
    obtain ⟨c4, h1⟩ := bE h1
    obtain ⟨c5, h1⟩ := bE h1
    refine pV [0 ≤ i10 ∧ i10 < (lN f0), (((decide ((0 : Int) < ((gD f0 i10).Net)))) = true → 0 ≤ i10 ∧ i10 < (lN f0)), ((((decide ((0 : Int) < ((gD f0 i10).Net))) && (decide (bT ≤ ((gD f0 i10).At))))) = true → 0 ≤ i10 ∧ i10 < (lN f0)), (((((decide ((0 : Int) < ((gD f0 i10).Net))) && (decide (bT ≤ ((gD f0 i10).At)))) && (decide (((gD f0 i10).At) ≤ t3)))) = true → 0 ≤ i10 ∧ i10 < (lN f0))] ⟨c2, c3, c4, c5, trivial⟩ ?_
    refine bR [] [(51, (aM ((((decide ((0 : Int) < ((gD f0 i10).Net))) && (decide (bT ≤ ((gD f0 i10).At)))) && (decide (((gD f0 i10).At) ≤ t3))) && (decide ((wR (t3 - d1)) < ((gD f0 i10).At))))))] ?_
    refine bH h1 (fun h1 => ?_) (fun h1 => ?_)
    · refine aV aG 8 ?_
      obtain ⟨c7, h1⟩ := bE h1
      refine pV [0 ≤ i10 ∧ i10 < (lN f0)] ⟨c7, trivial⟩ ?_
      exact aI (aT (aH (⟨rfl, _, .eq (by kernel_rfl), hO, h1⟩)))
    refine bJ ?_
    exact aI (aT (aH (⟨rfl, _, .eq (by kernel_rfl), hO, h1⟩)))
  refine eP 0 ?_
  obtain rfl := oI h1
  obtain rfl : _ = rr0 := ho0
  replace h0 : qD n9 = some r := h0
  exact aI (aU (aU (bL (aH (⟨rfl, _, .eq (by kernel_rfl), hO, h0⟩)))))

theorem BS (l0 : (List aC)) (d1 : Int) (bT : Int) (t3 : Int) (r : Bool) (h0 : nO l0 d1 bT t3 = some r) : bV Try.prog 4 [(eL aD l0), (eI d1), (eI bT), (eI t3)] (aM r) := by
  intro H0
  refine cE Try.func4 ?_
  have hO := aN.start H0
  unfold nO at h0
  refine aS aG 1 [] [] ?_
  refine aP ?_
  refine aV aG 9 ?_
  refine bN 3 ?_
  obtain ⟨x1, hx2, h0⟩ := aW h0
  refine dA (xK l0 d1 bT _ hx2) hO ?_
  intro H hO
  refine bC ?_
  refine bR [] [(9, (eL aD x1.1)), (10, (eI x1.2))] ?_
  refine aP ?_
  refine aS aG 15 [] [(34, (aM ((((!decide (x1.2 = (0 : Int))) || (decide ((200 : Int) < (lN l0)))) || (decide (t3 < (0 : Int)))) || (decide ((1125899906842624 : Int) ≤ t3)))))] ?_
  refine bH h0 (fun h0 => ?_) (fun h0 => ?_)
  · refine aP ?_
    refine aV aG 11 ?_
    obtain ⟨x5, hx6, h0⟩ := aW h0
    refine dA (zZ  _ hx6) hO ?_
    intro H hO
    refine bC ?_
    refine bF [(8, (aM (x5 && ((decide (x1.2 = (0 : Int))) || (decide ((lN x1.1) = (0 : Int)))))))] ?_
    refine bI ?_
    obtain rfl := oI h0
    exact aI (aX (Q_r hO))
  refine bJ ?_
  refine bF [(0, (eL aD l0)), (1, (eI d1)), (2, (eI bT)), (3, (eI t3)), (9, (eL aD x1.1))] ?_
  refine cY (fun T H => Has T [] ∧ aN ⟨H0, [], []⟩ H [] ∧ lU  = some r) ?_ ?_
  · clear hO h0
    rintro T H ⟨hT, hO, h0⟩
    refine aY hT ?_
    clear hT
    unfold lU at h0
    refine aP ?_
    refine aV aG 2 ?_
    obtain ⟨x8, hx9, h0⟩ := aW h0
    refine dA (zZ  _ hx9) hO ?_
    intro H hO
    refine bC ?_
    refine bF [(8, (aM x8))] ?_
    refine bI ?_
    obtain rfl := oI h0
    exact aI (Q_r hO)
  refine aS aG 1 [] [(11, (eI (0 : Int)))] ?_
  refine bO 0 ?_
  refine dL [(0, (eL aD l0)), (1, (eI d1)), (2, (eI bT)), (3, (eI t3)), (9, (eL aD x1.1)), (11, (eI (0 : Int)))] ?_
  refine cR (fun T H => ∃ a9 : (List aC), ∃ i11 : Int, Has T [(0, (eL aD l0)), (1, (eI d1)), (2, (eI bT)), (3, (eI t3)), (9, (eL aD a9)), (11, (eI i11))] ∧ aN ⟨H0, [], []⟩ H [] ∧ nG l0 d1 bT t3 a9 i11 = some r) ?_ ⟨x1.1, (0 : Int), .eq (by kernel_rfl), hO, h0⟩
  clear hO h0
  rintro T H ⟨a9, i11, hT, hO, h0⟩
  refine aY hT ?_
  clear hT
  unfold nG at h0
  obtain ⟨rr0, hl0, h0⟩ := aW h0
  refine bZ (by kernel_rfl) (fun (s : Int) T H => Has T [(0, (eL aD l0)), (1, (eI d1)), (2, (eI bT)), (3, (eI t3)), (9, (eL aD a9)), (11, (eI s))] ∧ aN ⟨H0, [], []⟩ H []) hl0 ⟨.eq (by kernel_rfl), hO⟩ ?_
  clear hO
  rintro k0 s out1 T H ⟨hT, hO⟩ h1 ho0
  obtain ⟨i11, rfl⟩ : ∃ x, x = s := ⟨_, rfl⟩
  replace h1 : hM l0 d1 bT t3 a9 i11 = some out1 := h1
  refine aY hT ?_
  clear hT
  unfold hM at h1
  refine aP ?_
  refine aS aG 4 [] [(48, (aM (decide (i11 < (lN l0)))))] ?_
  refine bH h1 (fun h1 => ?_) (fun h1 => ?_)
  · refine bJ ?_
    refine bF [(0, (eL aD l0)), (1, (eI d1)), (2, (eI bT)), (3, (eI t3)), (9, (eL aD a9)), (11, (eI i11))] ?_
    refine aP ?_
    refine bO 1 ?_
    refine aP ?_
    refine aV aG 12 ?_
    obtain ⟨c12, h1⟩ := bE h1
    refine uB 6 [0 ≤ i11 ∧ i11 < (lN l0)] ⟨c12, trivial⟩ ?_
    obtain ⟨x13, hx14, h1⟩ := aW h1
    refine dA (zM l0 ((gD l0 i11).Row) _ hx14) hO ?_
    intro H hO
    refine bN 10 ?_
    obtain ⟨x16, hx17, h1⟩ := aW h1
    refine dA (LD x13 d1 bT t3 _ hx17) hO ?_
    intro H hO
    refine bC ?_
    refine bR [] [(12, (eI x16))] ?_
    refine aP ?_
    refine aV aG 11 ?_
    obtain ⟨c19, h1⟩ := bE h1
    refine uB 6 [0 ≤ i11 ∧ i11 < (lN l0)] ⟨c19, trivial⟩ ?_
    obtain ⟨x20, hx21, h1⟩ := aW h1
    refine dA (zM a9 ((gD l0 i11).Row) _ hx21) hO ?_
    intro H hO
    refine bN 8 ?_
    obtain ⟨x23, hx24, h1⟩ := aW h1
    refine dA (HC x20 t3 _ hx24) hO ?_
    intro H hO
    refine bC ?_
    refine bR [12] [(72, (aM (!decide (x23 = x16))))] ?_
    refine bH h1 (fun h1 => ?_) (fun h1 => ?_)
    · refine bQ aG 1 [(8, (aM false))] ?_
      refine bI ?_
      obtain rfl := oI h1
      obtain rfl : _ = rr0 := ho0
      replace h0 : some false = some r := h0
      obtain rfl := oI h0
      exact aI (bU (aX (aX (bU (aX (Q_r hO))))))
    refine bJ ?_
    refine iZ [(0, (eL aD l0)), (1, (eI d1)), (2, (eI bT)), (3, (eI t3)), (9, (eL aD a9)), (11, (eI i11))] ?_
    refine aI (aT (aH (?_)))
    refine aV aG 3 ?_
    refine bC ?_
    exact aI (aH (⟨rfl, _, (oI h1).symm, .eq (by kernel_rfl), hO⟩))
  refine eP 0 ?_
  obtain rfl := oI h1
  obtain rfl : _ = rr0 := ho0
  replace h0 : lU  = some r := h0
  exact aI (aU (aU (bL (aH (⟨rfl, .eq (by kernel_rfl), hO, h0⟩)))))

end Go.Abs
namespace Go.Abs
open Go Go.RowKit Go.Proofs
theorem BG {H : Type} {enc : TypeId × Value → H} {w : World} : tD enc Try.prog w 60 aL wB :=
  AH Try.underlying60 (by kernel_rfl) (pG (c' := CC) (ok' := wB) (fun (a : Int) (b : Int × ByteArray × Unit) => (aF.mk a b.1 b.2.1 : aF)) (by kernel_rfl) (wO Try.underlying58) (pG (c' := fun (b : Int × ByteArray × Unit) => (V.cells (rY .i64 b.1) ++ (V.cells (uA b.2.1) ++ []))) (ok' := fun b => (sV b.1 ∧ ((fun s => s.size ≤ maxLen) b.2.1 ∧ True))) (fun a b => (a, b)) (by kernel_rfl) (wO Try.underlying3) (pG (c' := fun (b : ByteArray × Unit) => (V.cells (uA b.1) ++ [])) (ok' := fun b => ((fun s => s.size ≤ maxLen) b.1 ∧ True)) (fun a b => (a, b)) (by kernel_rfl) (II Try.underlying9) (ER ()) (fun _ _ => rfl) (fun _ _ h1 h2 => ⟨h1, h2⟩)) (fun _ _ => rfl) (fun _ _ h1 h2 => ⟨h1, h2⟩)) (fun _ _ => rfl) (fun _ _ h1 h2 => ⟨h1, h2⟩))

theorem BR {H : Type} {enc : TypeId × Value → H} {w : World} : tD enc Try.prog w 36 aD rB :=
  AH Try.underlying36 (by kernel_rfl) (pG (c' := DS) (ok' := rB) (fun (a : (List aF)) (b : Int × Int × Unit) => (aC.mk a b.1 b.2.1 : aC)) (by kernel_rfl) (LU Try.underlying34 (by decide +kernel) (fun _ => by kernel_rfl) (fun _ => rfl) BG (by kernel_rfl)) (pG (c' := fun (b : Int × Int × Unit) => (V.cells (rY .i64 b.1) ++ (V.cells (rY .i64 b.2.1) ++ []))) (ok' := fun b => (sV b.1 ∧ (sV b.2.1 ∧ True))) (fun a b => (a, b)) (by kernel_rfl) (wO Try.underlying3) (pG (c' := fun (b : Int × Unit) => (V.cells (rY .i64 b.1) ++ [])) (ok' := fun b => (sV b.1 ∧ True)) (fun a b => (a, b)) (by kernel_rfl) (wO Try.underlying3) (ER ()) (fun _ _ => rfl) (fun _ _ h1 h2 => ⟨h1, h2⟩)) (fun _ _ => rfl) (fun _ _ h1 h2 => ⟨h1, h2⟩)) (fun _ _ => rfl) (fun _ _ h1 h2 => ⟨h1, h2⟩))

end Go.Abs
namespace Go.Abs
open Go
theorem iF {n : Int} (h1 : -9223372036854775808 ≤ n) (h2 : n ≤ 9223372036854775807) : IntKind.i64.wrap n = n := by
  simp only [IntKind.wrap, IntKind.bits, IntKind.signed]
  simp
  split <;> omega

def rQ {α st R : Type} (step : st → α → Option (st ⊕ R)) (fin : st → R) : st → List α → Option R
  | s, [] => some (fin s)
  | s, a :: r => match step s a with
    | some (.inl s') => rQ step fin s' r
    | some (.inr x) => some x
    | none => none

theorem OB {α st R : Type} {step : st → α → Option (st ⊕ R)} {fin : st → R} {s s' : st} {a : α} {r : List α} (h : step s a = some (.inl s')) : rQ step fin s (a :: r) = rQ step fin s' r := by
  simp only [rQ, h]

theorem NI {α st R : Type} {step : st → α → Option (st ⊕ R)} {fin : st → R} {s : st} {x : R} {a : α} {r : List α} (h : step s a = some (.inr x)) : rQ step fin s (a :: r) = some x := by
  simp only [rQ, h]

theorem MZ {α S st R : Type} {body : S → Option (S ⊕ R)} {l : List α} (mk : st → Int → S) (step : st → α → Option (st ⊕ R)) (fin : st → R)
    (hn : ∀ (i : Nat) a s, l[i]? = some a → (∀ s', step s a = some (.inl s') → body (mk s i) = some (.inl (mk s' ((i + 1 : Nat) : Int)))) ∧ (∀ x, step s a = some (.inr x) → body (mk s i) = some (.inr x)))
    (he : ∀ s, body (mk s (l.length : Nat)) = some (.inr (fin s))) : ∀ (m k : Nat) (s : st) (r : R), l.length - k = m → k ≤ l.length → rQ step fin s (l.drop k) = some r → lp body (mk s k) = some r
  | 0, k, s, r, hm, hk, h => by
    have : k = l.length := by omega
    subst this
    rw [List.drop_length] at h
    simp only [rQ, Option.some.injEq] at h
    subst h
    exact cK (he s)
  | m + 1, k, s, r, hm, hk, h => by
    have hlt : k < l.length := by omega
    have hd : l.drop k = l[k] :: l.drop (k + 1) := List.drop_eq_getElem_cons hlt
    rw [hd] at h
    simp only [rQ] at h
    obtain ⟨h1, h2⟩ := hn k l[k] s (List.getElem?_eq_getElem hlt)
    split at h
    · rename_i s' hs
      rw [fN (h1 s' hs)]
      exact MZ mk step fin hn he m (k + 1) s' r (by omega) (by omega) h
    · rename_i x hs
      simp at h; subst h
      exact cK (h2 x hs)
    · cases h

theorem RS {α S st R : Type} {body : S → Option (S ⊕ R)} {l : List α} (mk : st → Int → S) (step : st → α → Option (st ⊕ R)) (fin : st → R)
    (hn : ∀ (i : Nat) a s, l[i]? = some a → (∀ s', step s a = some (.inl s') → body (mk s i) = some (.inl (mk s' ((i + 1 : Nat) : Int)))) ∧ (∀ x, step s a = some (.inr x) → body (mk s i) = some (.inr x)))
    (he : ∀ s, body (mk s (l.length : Nat)) = some (.inr (fin s))) {s : st} {r : R} (h : rQ step fin s l = some r) : lp body (mk s 0) = some r :=
  MZ mk step fin hn he _ 0 s r rfl (Nat.zero_le _) (by simpa using h)

theorem idx {α : Type} [Inhabited α] {l : List α} {i : Nat} {a : α} (h : l[i]? = some a) (hl : l.length < 4611686018427387904) :
    decide ((i : Int) < ((l.length : Nat) : Int)) = true ∧ (0 ≤ (i : Int) ∧ (i : Int) < ((l.length : Nat) : Int)) ∧ l.getD (Int.toNat (i : Int)) default = a ∧ IntKind.i64.wrap ((i : Int) + 1) = ((i + 1 : Nat) : Int) := by
  have hlt : i < l.length := (List.getElem?_eq_some_iff.1 h).1
  refine ⟨by simpa using hlt, ⟨by omega, by omega⟩, ?_, ?_⟩
  · rw [Int.toNat_natCast, List.getD_eq_getElem?_getD, h]; rfl
  · rw [iF (by omega) (by omega)]; omega

theorem kS {n : Nat} : decide (((n : Nat) : Int) < ((n : Nat) : Int)) = false := by simp

theorem XE {α : Type} {j : α} {r : List α} : (0 : Int) ≤ 0 ∧ (0 : Int) < ((List.length (j :: r) : Nat) : Int) := ⟨by omega, by simp⟩

theorem VM {α : Type} [Inhabited α] {j : α} {r : List α} : List.getD (j :: r) (Int.toNat (0 : Int)) default = j := rfl

end Go.Abs
namespace Go.Abs
open Go
theorem drop_cons {α : Type} {l r : List α} {a : α} {k : Nat} (h : l.drop k = a :: r) : l[k]? = some a ∧ l.drop (k + 1) = r := by
  have hk : k < l.length := by
    apply Classical.byContradiction; intro hn
    rw [List.drop_eq_nil_of_le (by omega)] at h; cases h
  rw [List.drop_eq_getElem_cons hk] at h
  obtain ⟨h1, h2⟩ := List.cons.inj h
  exact ⟨by rw [List.getElem?_eq_getElem hk, h1], h2⟩

theorem PX {α S st R : Type} {body : S → Option (S ⊕ R)} {l : List α} (mk : st → Int → S) (G : st → List α → R) (Inv : st → List α → Prop)
    (hn : ∀ (i : Nat) a r s, l[i]? = some a → Inv s (a :: r) → (∃ s', body (mk s i) = some (.inl (mk s' ((i + 1 : Nat) : Int))) ∧ Inv s' r ∧ G s' r = G s (a :: r)) ∨ body (mk s i) = some (.inr (G s (a :: r))))
    (he : ∀ s, Inv s [] → body (mk s (l.length : Nat)) = some (.inr (G s []))) : ∀ (r : List α) (k : Nat) (s : st), l.drop k = r → k ≤ l.length → Inv s r → lp body (mk s k) = some (G s r)
  | [], k, s, hd, hk, hi => by
    have : k = l.length := by
      have := congrArg List.length hd
      simp only [List.length_drop, List.length_nil] at this; omega
    subst this
    exact cK (he s hi)
  | a :: r, k, s, hd, hk, hi => by
    obtain ⟨h1, h2⟩ := drop_cons hd
    have hlt : k < l.length := (List.getElem?_eq_some_iff.1 h1).1
    rcases hn k a r s h1 hi with ⟨s', hb, hi', hg⟩ | hb
    · rw [fN hb, PX mk G Inv hn he r (k + 1) s' h2 (by omega) hi', hg]
    · exact cK hb

theorem tX {α S st R : Type} {body : S → Option (S ⊕ R)} {l : List α} (mk : st → Int → S) (G : st → List α → R) (Inv : st → List α → Prop) (s : st)
    (hn : ∀ (i : Nat) a r s, l[i]? = some a → Inv s (a :: r) → (∃ s', body (mk s i) = some (.inl (mk s' ((i + 1 : Nat) : Int))) ∧ Inv s' r ∧ G s' r = G s (a :: r)) ∨ body (mk s i) = some (.inr (G s (a :: r))))
    (he : ∀ s, Inv s [] → body (mk s (l.length : Nat)) = some (.inr (G s []))) (hi : Inv s l) : lp body (mk s 0) = some (G s l) :=
  PX mk G Inv hn he l 0 s rfl (Nat.zero_le _) hi

theorem VK {α S R : Type} {body : S → Option (S ⊕ R)} {l : List α} (mk : Int → S) (bad : α → Bool) (x y : R)
    (hn : ∀ (i : Nat) a, l[i]? = some a → body (mk i) = some (if bad a then .inr x else .inl (mk ((i + 1 : Nat) : Int))))
    (he : body (mk (l.length : Nat)) = some (.inr y)) : lp body (mk 0) = some (if l.any bad then x else y) := by
  refine tX (st := Unit) (fun _ i => mk i) (fun _ r => if r.any bad then x else y) (fun _ _ => True) () ?_ ?_ trivial
  · intro i a r s ha _
    have hb := hn i a ha
    cases h : bad a
    · left; refine ⟨(), ?_, trivial, ?_⟩
      · simpa [h] using hb
      · simp [List.any_cons, h]
    · right; simpa [h, List.any_cons] using hb
  · intro _ _; simpa using he

end Go.Abs
namespace Go.Abs
open Go
noncomputable def uO {α : Type} [Inhabited α] (cmp3 : α → α → Option Int) (aA : List α) (a1 : Int) (b2 : Int) (i8 : Int) : Option ((List α × Int) ⊕ ((List α))) :=
  some (.inl (aA, IntKind.i64.wrap (i8 + (1 : Int))))

noncomputable def kC {α : Type} [Inhabited α] (cmp3 : α → α → Option Int) (a1 : Int) (b2 : Int) (i8 : Int) (aA : List α) (j9 : Int) : Option ((List α × Int) ⊕ ((List α))) :=
  bD ((((decide (a1 < j9))) = true → 0 ≤ j9 ∧ j9 < ((List.length aA : Nat) : Int))) <|
  bD ((((decide (a1 < j9))) = true → 0 ≤ (IntKind.i64.wrap (j9 - (1 : Int))) ∧ (IntKind.i64.wrap (j9 - (1 : Int))) < ((List.length aA : Nat) : Int))) <|
  (kP (decide (a1 < j9)) (cmp3 (List.getD aA (Int.toNat j9) default) (List.getD aA (Int.toNat (IntKind.i64.wrap (j9 - (1 : Int)))) default))).bind fun x3 =>
  cond ((decide (a1 < j9)) && (decide (x3 < (0 : Int))))
  (bD (0 ≤ (IntKind.i64.wrap (j9 - (1 : Int))) ∧ (IntKind.i64.wrap (j9 - (1 : Int))) < ((List.length aA : Nat) : Int)) <|
  bD (0 ≤ j9 ∧ j9 < ((List.length aA : Nat) : Int)) <|
  bD (0 ≤ j9 ∧ j9 < ((List.length aA : Nat) : Int)) <|
  bD (0 ≤ (IntKind.i64.wrap (j9 - (1 : Int))) ∧ (IntKind.i64.wrap (j9 - (1 : Int))) < ((List.length aA : Nat) : Int)) <|
  some (.inl (List.set (List.set aA (Int.toNat j9) (List.getD aA (Int.toNat (IntKind.i64.wrap (j9 - (1 : Int)))) default)) (Int.toNat (IntKind.i64.wrap (j9 - (1 : Int)))) (List.getD aA (Int.toNat j9) default), IntKind.i64.wrap (j9 - (1 : Int)))))
  (some (.inr aA))

noncomputable def uV {α : Type} [Inhabited α] (cmp3 : α → α → Option Int) (aA : List α) (a1 : Int) (b2 : Int) (i8 : Int) (j9 : Int) : Option ((List α × Int) ⊕ ((List α))) :=
  (lp (fun s => kC cmp3 a1 b2 i8 s.1 s.2) (aA, j9)).bind (fun rr => uO cmp3 rr a1 b2 i8)

noncomputable def iB {α : Type} [Inhabited α] (cmp3 : α → α → Option Int) (a1 : Int) (b2 : Int) (aA : List α) (i8 : Int) : Option ((List α × Int) ⊕ ((List α))) :=
  cond (decide (i8 < b2))
  (uV cmp3 aA a1 b2 i8 i8)
  (some (.inr aA))

noncomputable def uS {α : Type} [Inhabited α] (cmp3 : α → α → Option Int) (aA : List α) (a1 : Int) (b2 : Int) (i8 : Int) : Option (List α) :=
  (lp (fun s => iB cmp3 a1 b2 s.1 s.2) (aA, i8)).bind (fun rr => some rr)

noncomputable def lF {α : Type} [Inhabited α] (aA : (List α)) (a1 : Int) (b2 : Int) (cmp3 : α → α → Option Int) : Option (List α) :=
  uS cmp3 aA a1 b2 (IntKind.i64.wrap (a1 + (1 : Int)))

noncomputable def mO {α : Type} [Inhabited α] (cmp4 : α → α → Option Int) (a1 : Int) (b2 : Int) (n3 : Int) (aA : List α) (i10 : Int) : Option ((List α × Int) ⊕ ((List α))) :=
  cond (decide (i10 < n3))
  (bD (0 ≤ (IntKind.i64.wrap (b2 + i10)) ∧ (IntKind.i64.wrap (b2 + i10)) < ((List.length aA : Nat) : Int)) <|
  bD (0 ≤ (IntKind.i64.wrap (a1 + i10)) ∧ (IntKind.i64.wrap (a1 + i10)) < ((List.length aA : Nat) : Int)) <|
  bD (0 ≤ (IntKind.i64.wrap (a1 + i10)) ∧ (IntKind.i64.wrap (a1 + i10)) < ((List.length aA : Nat) : Int)) <|
  bD (0 ≤ (IntKind.i64.wrap (b2 + i10)) ∧ (IntKind.i64.wrap (b2 + i10)) < ((List.length aA : Nat) : Int)) <|
  some (.inl (List.set (List.set aA (Int.toNat (IntKind.i64.wrap (a1 + i10))) (List.getD aA (Int.toNat (IntKind.i64.wrap (b2 + i10))) default)) (Int.toNat (IntKind.i64.wrap (b2 + i10))) (List.getD aA (Int.toNat (IntKind.i64.wrap (a1 + i10))) default), IntKind.i64.wrap (i10 + (1 : Int)))))
  (some (.inr aA))

noncomputable def yA {α : Type} [Inhabited α] (cmp4 : α → α → Option Int) (aA : List α) (a1 : Int) (b2 : Int) (n3 : Int) (i10 : Int) : Option (List α) :=
  (lp (fun s => mO cmp4 a1 b2 n3 s.1 s.2) (aA, i10)).bind (fun rr => some rr)

noncomputable def pO {α : Type} [Inhabited α] (aA : (List α)) (a1 : Int) (b2 : Int) (n3 : Int) (cmp4 : α → α → Option Int) : Option (List α) :=
  yA cmp4 aA a1 b2 n3 (0 : Int)

noncomputable def xM {α : Type} [Inhabited α] (cmp4 : α → α → Option Int) (aA : List α) (m2 : Int) (i10 : Int) : Option (List α) :=
  (pO aA (IntKind.i64.wrap (m2 - i10)) m2 i10 cmp4).bind fun x1 =>
  some x1

noncomputable def kI {α : Type} [Inhabited α] (cmp4 : α → α → Option Int) (m2 : Int) (aA : List α) (i10 : Int) (j11 : Int) : Option ((List α × Int × Int) ⊕ ((List α × Int))) :=
  cond (!decide (i10 = j11))
  (cond (decide (j11 < i10))
  ((pO aA (IntKind.i64.wrap (m2 - i10)) m2 j11 cmp4).bind fun x4 =>
  some (.inl (x4, IntKind.i64.wrap (i10 - j11), j11)))
  ((pO aA (IntKind.i64.wrap (m2 - i10)) (IntKind.i64.wrap ((IntKind.i64.wrap (m2 + j11)) - i10)) i10 cmp4).bind fun x7 =>
  some (.inl (x7, i10, IntKind.i64.wrap (j11 - i10)))))
  (some (.inr (aA, i10)))

noncomputable def BV {α : Type} [Inhabited α] (cmp4 : α → α → Option Int) (aA : List α) (m2 : Int) (i10 : Int) (j11 : Int) : Option (List α) :=
  (lp (fun s => kI cmp4 m2 s.1 s.2.1 s.2.2) (aA, i10, j11)).bind (fun rr => xM cmp4 rr.1 m2 rr.2)

noncomputable def wY {α : Type} [Inhabited α] (aA : (List α)) (a1 : Int) (m2 : Int) (b3 : Int) (cmp4 : α → α → Option Int) : Option (List α) :=
  BV cmp4 aA m2 (IntKind.i64.wrap (m2 - a1)) (IntKind.i64.wrap (b3 - m2))

noncomputable def vB {α : Type} [Inhabited α] (cmp4 : α → α → Option Int) (rec : (List α) → Int → Int → Int → Option (List α)) (aA : List α) (b3 : Int) (bG : Int) (dD : Int) : Option (List α) :=
  cond ((decide (bG < dD)) && (decide (dD < b3)))
  ((rec aA bG dD b3).bind fun x2 =>
  some x2)
  (some aA)

noncomputable def mZ {α : Type} [Inhabited α] (cmp4 : α → α → Option Int) (rec : (List α) → Int → Int → Int → Option (List α)) (aA : List α) (a1 : Int) (b3 : Int) (bG : Int) (aO : Int) (dD : Int) : Option (List α) :=
  cond ((decide (a1 < aO)) && (decide (aO < bG)))
  ((rec aA a1 aO bG).bind fun x6 =>
  vB cmp4 rec x6 b3 bG dD)
  (vB cmp4 rec aA b3 bG dD)

noncomputable def zP {α : Type} [Inhabited α] (cmp4 : α → α → Option Int) (rec : (List α) → Int → Int → Int → Option (List α)) (aA : List α) (a1 : Int) (m2 : Int) (b3 : Int) (bG : Int) (n19 : Int) (aO : Int) : Option (List α) :=
  cond ((decide (aO < m2)) && (decide (m2 < (IntKind.i64.wrap (n19 - aO)))))
  ((wY aA aO m2 (IntKind.i64.wrap (n19 - aO)) cmp4).bind fun x10 =>
  mZ cmp4 rec x10 a1 b3 bG aO (IntKind.i64.wrap (n19 - aO)))
  (mZ cmp4 rec aA a1 b3 bG aO (IntKind.i64.wrap (n19 - aO)))

noncomputable def mB {α : Type} [Inhabited α] (cmp4 : α → α → Option Int) (rec : (List α) → Int → Int → Int → Option (List α)) (a1 : Int) (m2 : Int) (b3 : Int) (bG : Int) (n19 : Int) (p22 : Int) (aA : List α) (aO : Int) (r21 : Int) : Option ((List α × Int × Int) ⊕ ((List α × Int))) :=
  cond (decide (aO < r21))
  (bD (0 ≤ (1 : Int)) <|
  bD (0 ≤ (IntKind.i64.wrap (p22 - (IntKind.i64.wrap (Int.fdiv (IntKind.u64.wrap (IntKind.i64.wrap (aO + r21))) (2 ^ (min (Int.toNat (1 : Int)) 64)))))) ∧ (IntKind.i64.wrap (p22 - (IntKind.i64.wrap (Int.fdiv (IntKind.u64.wrap (IntKind.i64.wrap (aO + r21))) (2 ^ (min (Int.toNat (1 : Int)) 64)))))) < ((List.length aA : Nat) : Int)) <|
  bD (0 ≤ (IntKind.i64.wrap (Int.fdiv (IntKind.u64.wrap (IntKind.i64.wrap (aO + r21))) (2 ^ (min (Int.toNat (1 : Int)) 64)))) ∧ (IntKind.i64.wrap (Int.fdiv (IntKind.u64.wrap (IntKind.i64.wrap (aO + r21))) (2 ^ (min (Int.toNat (1 : Int)) 64)))) < ((List.length aA : Nat) : Int)) <|
  (cmp4 (List.getD aA (Int.toNat (IntKind.i64.wrap (p22 - (IntKind.i64.wrap (Int.fdiv (IntKind.u64.wrap (IntKind.i64.wrap (aO + r21))) (2 ^ (min (Int.toNat (1 : Int)) 64))))))) default) (List.getD aA (Int.toNat (IntKind.i64.wrap (Int.fdiv (IntKind.u64.wrap (IntKind.i64.wrap (aO + r21))) (2 ^ (min (Int.toNat (1 : Int)) 64))))) default)).bind fun x17 =>
  cond (!(decide (x17 < (0 : Int))))
  (some (.inl (aA, IntKind.i64.wrap ((IntKind.i64.wrap (Int.fdiv (IntKind.u64.wrap (IntKind.i64.wrap (aO + r21))) (2 ^ (min (Int.toNat (1 : Int)) 64)))) + (1 : Int)), r21)))
  (some (.inl (aA, aO, IntKind.i64.wrap (Int.fdiv (IntKind.u64.wrap (IntKind.i64.wrap (aO + r21))) (2 ^ (min (Int.toNat (1 : Int)) 64)))))))
  (some (.inr (aA, aO)))

noncomputable def zL {α : Type} [Inhabited α] (cmp4 : α → α → Option Int) (rec : (List α) → Int → Int → Int → Option (List α)) (aA : List α) (a1 : Int) (m2 : Int) (b3 : Int) (bG : Int) (n19 : Int) (aO : Int) (r21 : Int) (p22 : Int) : Option (List α) :=
  (lp (fun s => mB cmp4 rec a1 m2 b3 bG n19 p22 s.1 s.2.1 s.2.2) (aA, aO, r21)).bind (fun rr => zP cmp4 rec rr.1 a1 m2 b3 bG n19 rr.2)

noncomputable def rM {α : Type} [Inhabited α] (cmp4 : α → α → Option Int) (rec : (List α) → Int → Int → Int → Option (List α)) (aA : List α) (a1 : Int) (m2 : Int) (b3 : Int) (bG : Int) (n19 : Int) (aO : Int) (r21 : Int) : Option (List α) :=
  zL cmp4 rec aA a1 m2 b3 bG n19 aO r21 (IntKind.i64.wrap (n19 - (1 : Int)))

noncomputable def rS {α : Type} [Inhabited α] (cmp4 : α → α → Option Int) (rec : (List α) → Int → Int → Int → Option (List α)) (aA : List α) (a1 : Int) (m2 : Int) (b3 : Int) : Option (List α) :=
  bD (0 ≤ (1 : Int)) <|
  cond (decide ((IntKind.i64.wrap (Int.fdiv (IntKind.u64.wrap (IntKind.i64.wrap (a1 + b3))) (2 ^ (min (Int.toNat (1 : Int)) 64)))) < m2))
  (rM cmp4 rec aA a1 m2 b3 (IntKind.i64.wrap (Int.fdiv (IntKind.u64.wrap (IntKind.i64.wrap (a1 + b3))) (2 ^ (min (Int.toNat (1 : Int)) 64)))) (IntKind.i64.wrap ((IntKind.i64.wrap (Int.fdiv (IntKind.u64.wrap (IntKind.i64.wrap (a1 + b3))) (2 ^ (min (Int.toNat (1 : Int)) 64)))) + m2)) (IntKind.i64.wrap ((IntKind.i64.wrap ((IntKind.i64.wrap (Int.fdiv (IntKind.u64.wrap (IntKind.i64.wrap (a1 + b3))) (2 ^ (min (Int.toNat (1 : Int)) 64)))) + m2)) - b3)) (IntKind.i64.wrap (Int.fdiv (IntKind.u64.wrap (IntKind.i64.wrap (a1 + b3))) (2 ^ (min (Int.toNat (1 : Int)) 64)))))
  (rM cmp4 rec aA a1 m2 b3 (IntKind.i64.wrap (Int.fdiv (IntKind.u64.wrap (IntKind.i64.wrap (a1 + b3))) (2 ^ (min (Int.toNat (1 : Int)) 64)))) (IntKind.i64.wrap ((IntKind.i64.wrap (Int.fdiv (IntKind.u64.wrap (IntKind.i64.wrap (a1 + b3))) (2 ^ (min (Int.toNat (1 : Int)) 64)))) + m2)) a1 m2)

noncomputable def zR {α : Type} [Inhabited α] (cmp4 : α → α → Option Int) (rec : (List α) → Int → Int → Int → Option (List α)) (aA : List α) : Option (List α) :=
  some aA

noncomputable def lI {α : Type} [Inhabited α] (cmp4 : α → α → Option Int) (rec : (List α) → Int → Int → Int → Option (List α)) (i14 : Int) (aA : List α) (k17 : Int) : Option ((List α × Int) ⊕ ((List α))) :=
  cond (decide (i14 < k17))
  (bD (0 ≤ (IntKind.i64.wrap (k17 - (1 : Int))) ∧ (IntKind.i64.wrap (k17 - (1 : Int))) < ((List.length aA : Nat) : Int)) <|
  bD (0 ≤ k17 ∧ k17 < ((List.length aA : Nat) : Int)) <|
  bD (0 ≤ k17 ∧ k17 < ((List.length aA : Nat) : Int)) <|
  bD (0 ≤ (IntKind.i64.wrap (k17 - (1 : Int))) ∧ (IntKind.i64.wrap (k17 - (1 : Int))) < ((List.length aA : Nat) : Int)) <|
  some (.inl (List.set (List.set aA (Int.toNat k17) (List.getD aA (Int.toNat (IntKind.i64.wrap (k17 - (1 : Int)))) default)) (Int.toNat (IntKind.i64.wrap (k17 - (1 : Int)))) (List.getD aA (Int.toNat k17) default), IntKind.i64.wrap (k17 - (1 : Int)))))
  (some (.inr aA))

noncomputable def xW {α : Type} [Inhabited α] (cmp4 : α → α → Option Int) (rec : (List α) → Int → Int → Int → Option (List α)) (aA : List α) (i14 : Int) (k17 : Int) : Option (List α) :=
  (lp (fun s => lI cmp4 rec i14 s.1 s.2) (aA, k17)).bind (fun rr => zR cmp4 rec rr)

noncomputable def zK {α : Type} [Inhabited α] (cmp4 : α → α → Option Int) (rec : (List α) → Int → Int → Int → Option (List α)) (aA : List α) (m2 : Int) (i14 : Int) : Option (List α) :=
  xW cmp4 rec aA i14 m2

noncomputable def lH {α : Type} [Inhabited α] (cmp4 : α → α → Option Int) (rec : (List α) → Int → Int → Int → Option (List α)) (m2 : Int) (aA : List α) (i14 : Int) (j15 : Int) : Option ((List α × Int × Int) ⊕ ((List α × Int))) :=
  cond (decide (i14 < j15))
  (bD (0 ≤ (1 : Int)) <|
  bD (0 ≤ m2 ∧ m2 < ((List.length aA : Nat) : Int)) <|
  bD (0 ≤ (IntKind.i64.wrap (Int.fdiv (IntKind.u64.wrap (IntKind.i64.wrap (i14 + j15))) (2 ^ (min (Int.toNat (1 : Int)) 64)))) ∧ (IntKind.i64.wrap (Int.fdiv (IntKind.u64.wrap (IntKind.i64.wrap (i14 + j15))) (2 ^ (min (Int.toNat (1 : Int)) 64)))) < ((List.length aA : Nat) : Int)) <|
  (cmp4 (List.getD aA (Int.toNat m2) default) (List.getD aA (Int.toNat (IntKind.i64.wrap (Int.fdiv (IntKind.u64.wrap (IntKind.i64.wrap (i14 + j15))) (2 ^ (min (Int.toNat (1 : Int)) 64))))) default)).bind fun x31 =>
  cond (!(decide (x31 < (0 : Int))))
  (some (.inl (aA, IntKind.i64.wrap ((IntKind.i64.wrap (Int.fdiv (IntKind.u64.wrap (IntKind.i64.wrap (i14 + j15))) (2 ^ (min (Int.toNat (1 : Int)) 64)))) + (1 : Int)), j15)))
  (some (.inl (aA, i14, IntKind.i64.wrap (Int.fdiv (IntKind.u64.wrap (IntKind.i64.wrap (i14 + j15))) (2 ^ (min (Int.toNat (1 : Int)) 64)))))))
  (some (.inr (aA, i14)))

noncomputable def yB {α : Type} [Inhabited α] (cmp4 : α → α → Option Int) (rec : (List α) → Int → Int → Int → Option (List α)) (aA : List α) (m2 : Int) (i14 : Int) (j15 : Int) : Option (List α) :=
  (lp (fun s => lH cmp4 rec m2 s.1 s.2.1 s.2.2) (aA, i14, j15)).bind (fun rr => zK cmp4 rec rr.1 m2 rr.2)

noncomputable def uZ {α : Type} [Inhabited α] (cmp4 : α → α → Option Int) (rec : (List α) → Int → Int → Int → Option (List α)) (aA : List α) (a1 : Int) (m2 : Int) (b3 : Int) : Option (List α) :=
  cond (decide ((IntKind.i64.wrap (b3 - m2)) = (1 : Int)))
  (yB cmp4 rec aA m2 a1 m2)
  (rS cmp4 rec aA a1 m2 b3)

noncomputable def xV {α : Type} [Inhabited α] (cmp4 : α → α → Option Int) (rec : (List α) → Int → Int → Int → Option (List α)) (aA : List α) : Option (List α) :=
  some aA

noncomputable def lK {α : Type} [Inhabited α] (cmp4 : α → α → Option Int) (rec : (List α) → Int → Int → Int → Option (List α)) (i10 : Int) (aA : List α) (k13 : Int) : Option ((List α × Int) ⊕ ((List α))) :=
  cond (decide (k13 < (IntKind.i64.wrap (i10 - (1 : Int)))))
  (bD (0 ≤ (IntKind.i64.wrap (k13 + (1 : Int))) ∧ (IntKind.i64.wrap (k13 + (1 : Int))) < ((List.length aA : Nat) : Int)) <|
  bD (0 ≤ k13 ∧ k13 < ((List.length aA : Nat) : Int)) <|
  bD (0 ≤ k13 ∧ k13 < ((List.length aA : Nat) : Int)) <|
  bD (0 ≤ (IntKind.i64.wrap (k13 + (1 : Int))) ∧ (IntKind.i64.wrap (k13 + (1 : Int))) < ((List.length aA : Nat) : Int)) <|
  some (.inl (List.set (List.set aA (Int.toNat k13) (List.getD aA (Int.toNat (IntKind.i64.wrap (k13 + (1 : Int)))) default)) (Int.toNat (IntKind.i64.wrap (k13 + (1 : Int)))) (List.getD aA (Int.toNat k13) default), IntKind.i64.wrap (k13 + (1 : Int)))))
  (some (.inr aA))

noncomputable def yE {α : Type} [Inhabited α] (cmp4 : α → α → Option Int) (rec : (List α) → Int → Int → Int → Option (List α)) (aA : List α) (i10 : Int) (k13 : Int) : Option (List α) :=
  (lp (fun s => lK cmp4 rec i10 s.1 s.2) (aA, k13)).bind (fun rr => xV cmp4 rec rr)

noncomputable def xQ {α : Type} [Inhabited α] (cmp4 : α → α → Option Int) (rec : (List α) → Int → Int → Int → Option (List α)) (aA : List α) (a1 : Int) (i10 : Int) : Option (List α) :=
  yE cmp4 rec aA i10 a1

noncomputable def lG {α : Type} [Inhabited α] (cmp4 : α → α → Option Int) (rec : (List α) → Int → Int → Int → Option (List α)) (a1 : Int) (aA : List α) (i10 : Int) (j11 : Int) : Option ((List α × Int × Int) ⊕ ((List α × Int))) :=
  cond (decide (i10 < j11))
  (bD (0 ≤ (1 : Int)) <|
  bD (0 ≤ (IntKind.i64.wrap (Int.fdiv (IntKind.u64.wrap (IntKind.i64.wrap (i10 + j11))) (2 ^ (min (Int.toNat (1 : Int)) 64)))) ∧ (IntKind.i64.wrap (Int.fdiv (IntKind.u64.wrap (IntKind.i64.wrap (i10 + j11))) (2 ^ (min (Int.toNat (1 : Int)) 64)))) < ((List.length aA : Nat) : Int)) <|
  bD (0 ≤ a1 ∧ a1 < ((List.length aA : Nat) : Int)) <|
  (cmp4 (List.getD aA (Int.toNat (IntKind.i64.wrap (Int.fdiv (IntKind.u64.wrap (IntKind.i64.wrap (i10 + j11))) (2 ^ (min (Int.toNat (1 : Int)) 64))))) default) (List.getD aA (Int.toNat a1) default)).bind fun x45 =>
  cond (decide (x45 < (0 : Int)))
  (some (.inl (aA, IntKind.i64.wrap ((IntKind.i64.wrap (Int.fdiv (IntKind.u64.wrap (IntKind.i64.wrap (i10 + j11))) (2 ^ (min (Int.toNat (1 : Int)) 64)))) + (1 : Int)), j11)))
  (some (.inl (aA, i10, IntKind.i64.wrap (Int.fdiv (IntKind.u64.wrap (IntKind.i64.wrap (i10 + j11))) (2 ^ (min (Int.toNat (1 : Int)) 64)))))))
  (some (.inr (aA, i10)))

noncomputable def xY {α : Type} [Inhabited α] (cmp4 : α → α → Option Int) (rec : (List α) → Int → Int → Int → Option (List α)) (aA : List α) (a1 : Int) (i10 : Int) (j11 : Int) : Option (List α) :=
  (lp (fun s => lG cmp4 rec a1 s.1 s.2.1 s.2.2) (aA, i10, j11)).bind (fun rr => xQ cmp4 rec rr.1 a1 rr.2)

noncomputable def dG {α : Type} [Inhabited α] (cmp4 : α → α → Option Int) (rec : (List α) → Int → Int → Int → Option (List α)) (aA : (List α)) (a1 : Int) (m2 : Int) (b3 : Int) : Option (List α) :=
  cond (decide ((IntKind.i64.wrap (m2 - a1)) = (1 : Int)))
  (xY cmp4 rec aA a1 m2 b3)
  (uZ cmp4 rec aA a1 m2 b3)

noncomputable def dH {α : Type} [Inhabited α] (cmp4 : α → α → Option Int) : Nat → (List α) → Int → Int → Int → Option (List α)
  | 0 => fun _ _ _ _ => none
  | k + 1 => dG cmp4 (dH cmp4 k)

noncomputable def mL {α : Type} [Inhabited α] (aA : (List α)) (a1 : Int) (m2 : Int) (b3 : Int) (cmp4 : α → α → Option Int) : Option (List α) := DE (fun k => dH cmp4 k aA a1 m2 b3)

noncomputable def uK {α : Type} [Inhabited α] (cmp2 : α → α → Option Int) (aA : List α) (n1 : Int) (aJ : Int) : Option ((List α × Int) ⊕ ((List α))) :=
  some (.inl (aA, IntKind.i64.wrap (aJ * (2 : Int))))

noncomputable def rA {α : Type} [Inhabited α] (cmp2 : α → α → Option Int) (aA : List α) (n1 : Int) (aJ : Int) (a7 : Int) : Option ((List α × Int) ⊕ ((List α))) :=
  cond (decide ((IntKind.i64.wrap (a7 + aJ)) < n1))
  ((mL aA a7 (IntKind.i64.wrap (a7 + aJ)) n1 cmp2).bind fun x4 =>
  uK cmp2 x4 n1 aJ)
  (uK cmp2 aA n1 aJ)

noncomputable def kJ {α : Type} [Inhabited α] (cmp2 : α → α → Option Int) (n1 : Int) (aJ : Int) (aA : List α) (a7 : Int) (b8 : Int) : Option ((List α × Int × Int) ⊕ ((List α × Int))) :=
  cond (decide (b8 ≤ n1))
  ((mL aA a7 (IntKind.i64.wrap (a7 + aJ)) b8 cmp2).bind fun x8 =>
  some (.inl (x8, b8, IntKind.i64.wrap (b8 + (IntKind.i64.wrap ((2 : Int) * aJ))))))
  (some (.inr (aA, a7)))

noncomputable def rJ {α : Type} [Inhabited α] (cmp2 : α → α → Option Int) (aA : List α) (n1 : Int) (aJ : Int) (a7 : Int) (b8 : Int) : Option ((List α × Int) ⊕ ((List α))) :=
  (lp (fun s => kJ cmp2 n1 aJ s.1 s.2.1 s.2.2) (aA, a7, b8)).bind (fun rr => rA cmp2 rr.1 n1 aJ rr.2)

noncomputable def iC {α : Type} [Inhabited α] (cmp2 : α → α → Option Int) (n1 : Int) (aA : List α) (aJ : Int) : Option ((List α × Int) ⊕ ((List α))) :=
  cond (decide (aJ < n1))
  (rJ cmp2 aA n1 aJ (0 : Int) (IntKind.i64.wrap ((2 : Int) * aJ)))
  (some (.inr aA))

noncomputable def uM {α : Type} [Inhabited α] (cmp2 : α → α → Option Int) (aA : List α) (n1 : Int) (aJ : Int) : Option (List α) :=
  (lp (fun s => iC cmp2 n1 s.1 s.2) (aA, aJ)).bind (fun rr => some rr)

noncomputable def uJ {α : Type} [Inhabited α] (cmp2 : α → α → Option Int) (aA : List α) (n1 : Int) (aJ : Int) (a7 : Int) : Option (List α) :=
  (lF aA a7 n1 cmp2).bind fun x1 =>
  uM cmp2 x1 n1 aJ

noncomputable def kH {α : Type} [Inhabited α] (cmp2 : α → α → Option Int) (n1 : Int) (aJ : Int) (aA : List α) (a7 : Int) (b8 : Int) : Option ((List α × Int × Int) ⊕ ((List α × Int))) :=
  cond (decide (b8 ≤ n1))
  ((lF aA a7 b8 cmp2).bind fun x13 =>
  some (.inl (x13, b8, IntKind.i64.wrap (b8 + aJ))))
  (some (.inr (aA, a7)))

noncomputable def uL {α : Type} [Inhabited α] (cmp2 : α → α → Option Int) (aA : List α) (n1 : Int) (aJ : Int) (a7 : Int) (b8 : Int) : Option (List α) :=
  (lp (fun s => kH cmp2 n1 aJ s.1 s.2.1 s.2.2) (aA, a7, b8)).bind (fun rr => uJ cmp2 rr.1 n1 aJ rr.2)

noncomputable def sI {α : Type} [Inhabited α] (aA : (List α)) (n1 : Int) (cmp2 : α → α → Option Int) : Option (List α) :=
  uL cmp2 aA n1 (20 : Int) (0 : Int) (20 : Int)

end Go.Abs
namespace Go.Abs
open Go
variable {α : Type} [Inhabited α]
structure Cmp {β : Type} (ok : β → Prop) (le : β → β → Prop) (cmp : β → β → Option Int) : Prop where
  ans : ∀ x y, ok x → ok y → ∃ v, cmp x y = some v ∧ (v < 0 ↔ ¬ le y x)
  trans : ∀ x y z, ok x → ok y → ok z → le x y → le y z → le x z
  total : ∀ x y, ok x → ok y → le x y ∨ le y x

abbrev Srt {β : Type} (le : β → β → Prop) (l : List β) : Prop := l.Pairwise le

abbrev Oks {β : Type} (ok : β → Prop) (l : List β) : Prop := ∀ x ∈ l, ok x

theorem SJ {Q R : List α} {x : α} : (Q ++ x :: R).getD Q.length default = x := by simp [List.getD_eq_getElem?_getD]

theorem UN {β : Type} {Q R : List β} {x y : β} : (Q ++ x :: R).set Q.length y = Q ++ y :: R := by simp

theorem mX {Q R d : List α} {x : α} {n : Nat} (hd : d = Q ++ x :: R) (hn : n = Q.length) : d.getD n default = x := by subst hd; subst hn; exact SJ

theorem xS {β : Type} {Q R d : List β} {x y : β} {n : Nat} (hd : d = Q ++ x :: R) (hn : n = Q.length) : d.set n y = Q ++ y :: R := by subst hd; subst hn; exact UN

theorem wr {n : Int} (h1 : -1099511627776 ≤ n) (h2 : n ≤ 8796093022208) : IntKind.i64.wrap n = n := iF (by omega) (by omega)

theorem KJ {β : Type} {Q M R d : List β} {x y : β} {a b : Nat} (hd : d = Q ++ x :: (M ++ y :: R)) (ha : a = Q.length) (hb : b = Q.length + 1 + M.length) : (d.set a y).set b x = Q ++ y :: (M ++ x :: R) := by
  rw [xS hd ha, xS (Q := Q ++ y :: M) (x := y) (R := R) (by simp) (by simp; omega)]
  simp

section ins
variable {ok : α → Prop} {le : α → α → Prop} {cmp : α → α → Option Int}
theorem zQ {A T : List α} {x : α} {a b i : Int} {P : List α} (ha : a = (P.length : Nat)) (hl : (P ++ A ++ x :: T).length ≤ 1099511627776)
    (hs : A = [] ∨ ∃ A' y v, A = A' ++ [y] ∧ cmp x y = some v ∧ ¬ v < 0) : kC cmp a b i (P ++ A ++ x :: T) ((P.length + A.length : Nat) : Int) = some (.inr (P ++ A ++ x :: T)) := by
  simp only [List.length_append, List.length_cons] at hl
  unfold kC
  rcases hs with rfl | ⟨A', y, v, rfl, hc, hv⟩
  · have h : decide (a < ((P.length + ([] : List α).length : Nat) : Int)) = false := by subst ha; simp
    rw [h, bB (fun h => by cases h), bB (fun h => by cases h)]
    simp [kP]
  · simp only [List.length_append, List.length_cons, List.length_nil] at hl ⊢
    have h : decide (a < ((P.length + (A'.length + (0 + 1)) : Nat) : Int)) = true := by subst ha; simp; omega
    have hw : IntKind.i64.wrap (((P.length + (A'.length + (0 + 1)) : Nat) : Int) - 1) = ((P.length + A'.length : Nat) : Int) := by rw [wr (by omega) (by omega)]; omega
    have g1 : (P ++ (A' ++ [y]) ++ x :: T).getD (P.length + (A'.length + (0 + 1))) default = x := mX (Q := P ++ (A' ++ [y])) rfl (by simp)
    have g2 : (P ++ (A' ++ [y]) ++ x :: T).getD (P.length + A'.length) default = y := mX (Q := P ++ A') (R := x :: T) (by simp) (by simp)
    rw [h, hw, bB (fun _ => ⟨by omega, by omega⟩), bB (fun _ => ⟨by omega, by omega⟩)]
    rw [Int.toNat_natCast, Int.toNat_natCast, g1, g2]
    simp [kP, hc, hv]

theorem LM {A T : List α} {x y : α} {v : Int} {a b i : Int} {P : List α} (ha : a = (P.length : Nat)) (hl : (P ++ (A ++ [y]) ++ x :: T).length ≤ 1099511627776)
    (hc : cmp x y = some v) (hv : v < 0) : kC cmp a b i (P ++ (A ++ [y]) ++ x :: T) ((P.length + (A ++ [y]).length : Nat) : Int) = some (.inl (P ++ A ++ x :: (y :: T), ((P.length + A.length : Nat) : Int))) := by
  simp only [List.length_append, List.length_cons, List.length_nil] at hl ⊢
  unfold kC
  have h : decide (a < ((P.length + (A.length + (0 + 1)) : Nat) : Int)) = true := by subst ha; simp; omega
  have hw : IntKind.i64.wrap (((P.length + (A.length + (0 + 1)) : Nat) : Int) - 1) = ((P.length + A.length : Nat) : Int) := by rw [wr (by omega) (by omega)]; omega
  have g1 : (P ++ (A ++ [y]) ++ x :: T).getD (P.length + (A.length + (0 + 1))) default = x := mX (Q := P ++ (A ++ [y])) rfl (by simp)
  have g2 : (P ++ (A ++ [y]) ++ x :: T).getD (P.length + A.length) default = y := mX (Q := P ++ A) (R := x :: T) (by simp) (by simp)
  have hs : ((P ++ (A ++ [y]) ++ x :: T).set (P.length + (A.length + (0 + 1))) y).set (P.length + A.length) x = P ++ A ++ x :: (y :: T) := by
    rw [xS (Q := P ++ (A ++ [y])) (x := x) (R := T) rfl (by simp), xS (Q := P ++ A) (x := y) (R := y :: T) (by simp) (by simp)]
  have b1 : 0 ≤ ((P.length + (A.length + (0 + 1)) : Nat) : Int) ∧ ((P.length + (A.length + (0 + 1)) : Nat) : Int) < ((List.length (P ++ (A ++ [y]) ++ x :: T) : Nat) : Int) := ⟨by omega, by simp only [List.length_append, List.length_cons, List.length_nil]; omega⟩
  have b2 : 0 ≤ ((P.length + A.length : Nat) : Int) ∧ ((P.length + A.length : Nat) : Int) < ((List.length (P ++ (A ++ [y]) ++ x :: T) : Nat) : Int) := ⟨by omega, by simp only [List.length_append, List.length_cons, List.length_nil]; omega⟩
  rw [h, hw, bB (fun _ => b1), bB (fun _ => b2), Int.toNat_natCast, Int.toNat_natCast, g1, g2]
  simp only [kP, cond_true, hc, Option.bind_some, Bool.true_and, decide_eq_true hv]
  rw [bB b2, bB b1, bB b1, bB b2, hs]

theorem RO (C : Cmp ok le cmp) {x : α} (hx : ok x) {a b i : Int} {P : List α} (ha : a = (P.length : Nat)) : ∀ (n : Nat) (A B T : List α), A.length = n → Oks ok A → Oks ok B → Srt le (A ++ B) → (∀ y ∈ B, ¬ le y x) → (P ++ A ++ x :: (B ++ T)).length ≤ 1099511627776 →
    ∃ D, D.Perm (A ++ x :: B) ∧ Srt le D ∧ lp (fun s : List α × Int => kC cmp a b i s.1 s.2) (P ++ A ++ x :: (B ++ T), ((P.length + A.length : Nat) : Int)) = some (P ++ D ++ T) := by
  intro n
  induction n with
  | zero =>
    intro A B T hn _ hB hs hlt hl
    have hA : A = [] := List.length_eq_zero_iff.1 hn
    subst hA
    refine ⟨x :: B, List.Perm.refl _, ?_, ?_⟩
    · refine List.pairwise_cons.2 ⟨fun y hy => ?_, by simpa using hs⟩
      rcases C.total x y hx (hB y hy) with h | h
      · exact h
      · exact absurd h (hlt y hy)
    · rw [cK (zQ ha hl (Or.inl rfl))]; simp
  | succ n ih =>
    intro A B T hn hA hB hs hlt hl
    obtain ⟨A', y, rfl⟩ : ∃ A' y, A = A' ++ [y] := by
      rcases List.eq_nil_or_concat A with h | ⟨A', y, h⟩
      · rw [h] at hn; simp at hn
      · exact ⟨A', y, by simpa using h⟩
    have hy : ok y := hA y (by simp)
    obtain ⟨v, hc, hv⟩ := C.ans x y hx hy
    by_cases hneg : v < 0
    · have hb := LM (i := i) (b := b) ha hl hc hneg
      have hl' : (P ++ A' ++ x :: ((y :: B) ++ T)).length ≤ 1099511627776 := by
        simp only [List.length_append, List.length_cons, List.length_nil] at hl ⊢; omega
      obtain ⟨D, d1, d2, d3⟩ := ih A' (y :: B) T (by simpa using hn) (fun z hz => hA z (by simp [hz])) (fun z hz => by rcases List.mem_cons.1 hz with rfl | hz; exact hy; exact hB z hz) (by simpa using hs)
        (fun z hz => by rcases List.mem_cons.1 hz with rfl | hz; exact hv.1 hneg; exact hlt z hz) hl'
      refine ⟨D, d1.trans ?_, d2, ?_⟩
      · simp only [List.append_assoc, List.singleton_append]
        exact List.Perm.append_left _ (List.Perm.swap ..)
      · rw [fN hb]; simpa using d3
    · refine ⟨A' ++ [y] ++ x :: B, List.Perm.refl _, ?_, ?_⟩
      · have hyx : le y x := Classical.byContradiction fun h => hneg (hv.2 h)
        simp only [Srt, List.pairwise_append] at hs ⊢
        obtain ⟨s1, s2, s3⟩ := hs
        refine ⟨s1, List.pairwise_cons.2 ⟨fun z hz => ?_, s2⟩, ?_⟩
        · rcases C.total x z hx (hB z hz) with h | h
          · exact h
          · exact absurd h (hlt z hz)
        · intro z hz w hw
          rcases List.mem_cons.1 hw with rfl | hw
          · rcases List.mem_append.1 hz with hz' | hz'
            · exact C.trans z y w (hA z hz) hy hx (s1.2.2 z hz' y (by simp)) hyx
            · rw [List.mem_singleton] at hz'; subst hz'; exact hyx
          · exact s3 z hz w hw
      · rw [cK (zQ ha hl (Or.inr ⟨A', y, v, rfl, hc, hneg⟩))]
        simp

theorem GR (C : Cmp ok le cmp) {a b : Int} {P : List α} (ha : a = (P.length : Nat)) : ∀ (B A T : List α), Oks ok A → Oks ok B → Srt le A → b = ((P.length + A.length + B.length : Nat) : Int) → (P ++ A ++ (B ++ T)).length ≤ 1099511627776 →
    ∃ D, D.Perm (A ++ B) ∧ Srt le D ∧ lp (fun s : List α × Int => iB cmp a b s.1 s.2) (P ++ A ++ (B ++ T), ((P.length + A.length : Nat) : Int)) = some (P ++ D ++ T)
  | [], A, T, _, _, hs, hb, _ => by
    refine ⟨A, by simp, hs, cK ?_⟩
    have : decide (((P.length + A.length : Nat) : Int) < b) = false := by subst hb; simp
    simp only [iB, this, cond_false, List.nil_append]
  | x :: B, A, T, hA, hB, hs, hb, hl => by
    obtain ⟨D, d1, d2, d3⟩ := RO C (hB x (by simp)) (b := b) (i := ((P.length + A.length : Nat) : Int)) ha A.length A [] (B ++ T) rfl hA (by intro z hz; simp at hz) (by simpa using hs) (by simp) (by simpa using hl)
    have hD : D.length = A.length + 1 := by rw [d1.length_eq]; simp
    have hlt : decide (((P.length + A.length : Nat) : Int) < b) = true := by subst hb; simp; omega
    have hbod : (fun s : List α × Int => iB cmp a b s.1 s.2) (P ++ A ++ (x :: B ++ T), ((P.length + A.length : Nat) : Int)) = some (.inl (P ++ D ++ (B ++ T), ((P.length + D.length : Nat) : Int))) := by
      show iB cmp a b _ _ = _
      simp only [iB, hlt, cond_true, uV]
      rw [show P ++ A ++ (x :: B ++ T) = P ++ A ++ x :: ([] ++ (B ++ T)) by simp, d3]
      simp only [Option.bind_some, uO]
      rw [wr (by omega) (by simp only [List.length_append, List.length_cons] at hl; omega), hD]
      congr 1
    have hl' : (P ++ D ++ (B ++ T)).length ≤ 1099511627776 := by simp only [List.length_append, List.length_cons] at hl ⊢; omega
    obtain ⟨E, e1, e2, e3⟩ := GR C (b := b) ha B D T (fun z hz => by
      have := d1.mem_iff.1 hz
      rcases List.mem_append.1 this with h | h
      · exact hA z h
      · rw [List.mem_singleton] at h; subst h; exact hB z (by simp)) (fun z hz => hB z (by simp [hz])) d2 (by rw [hb]; simp only [List.length_cons]; congr 1; omega) hl'
    refine ⟨E, e1.trans ?_, e2, by rw [fN hbod]; exact e3⟩
    have := d1.append_right B
    simpa using this

theorem PY (C : Cmp ok le cmp) {P A T : List α} {a b : Int} (ha : a = (P.length : Nat)) (hb : b = ((P.length + A.length : Nat) : Int)) (hA : Oks ok A) (hl : (P ++ A ++ T).length ≤ 1099511627776) :
    ∃ D, D.Perm A ∧ Srt le D ∧ lF (P ++ A ++ T) a b cmp = some (P ++ D ++ T) := by
  unfold lF uS
  simp only [List.length_append] at hl
  cases A with
  | nil =>
    refine ⟨[], List.Perm.refl _, List.Pairwise.nil, ?_⟩
    rw [cK (r := P ++ [] ++ T)]
    · rfl
    · have : decide (IntKind.i64.wrap (a + 1) < b) = false := by
        rw [wr (by omega) (by omega)]; subst ha; subst hb; simp; omega
      simp only [iB, this, cond_false]
  | cons x A =>
    simp only [List.length_cons] at hl
    have hw : IntKind.i64.wrap (a + 1) = ((P.length + [x].length : Nat) : Int) := by rw [wr (by omega) (by omega)]; subst ha; simp
    obtain ⟨D, d1, d2, d3⟩ := GR C (b := b) ha A [x] T (fun z hz => by rw [List.mem_singleton] at hz; subst hz; exact hA z (by simp)) (fun z hz => hA z (by simp [hz])) (by simp) (by rw [hb]; simp only [List.length_cons, List.length_nil]; congr 1; omega) (by simp only [List.length_append, List.length_cons, List.length_nil]; omega)
    refine ⟨D, by simpa using d1, d2, ?_⟩
    rw [hw, show P ++ x :: A ++ T = P ++ [x] ++ (A ++ T) by simp, d3]
    rfl

end ins
theorem AV {cmp : α → α → Option Int} {a b n : Int} : ∀ (X Y Q Z R : List α) (i : Nat), X.length = Y.length → a + i = (Q.length : Nat) → b + i = ((Q.length + X.length + Z.length : Nat) : Int) → n = ((i + X.length : Nat) : Int) → 0 ≤ a → 0 ≤ b → (Q ++ X ++ Z ++ Y ++ R).length ≤ 1099511627776 →
    lp (fun s : List α × Int => mO cmp a b n s.1 s.2) (Q ++ X ++ Z ++ Y ++ R, ((i : Nat) : Int)) = some (Q ++ Y ++ Z ++ X ++ R)
  | [], Y, Q, Z, R, i, hxy, ha, hb, hn, _, _, hl => by
    have : Y = [] := List.length_eq_zero_iff.1 hxy.symm
    subst this
    refine cK ?_
    have : decide (((i : Nat) : Int) < n) = false := by subst hn; simp
    simp only [mO, this, cond_false]
  | x :: X, [], Q, Z, R, i, hxy, _, _, _, _, _, _ => by simp at hxy
  | x :: X, y :: Y, Q, Z, R, i, hxy, ha, hb, hn, ha0, hb0, hl => by
    simp only [List.length_append, List.length_cons] at hl hb hn hxy
    have hlt : decide (((i : Nat) : Int) < n) = true := by subst hn; simp; omega
    have wa : IntKind.i64.wrap (a + i) = ((Q.length : Nat) : Int) := by rw [wr (by omega) (by omega)]; exact ha
    have wb : IntKind.i64.wrap (b + i) = ((Q.length + 1 + (X ++ Z).length : Nat) : Int) := by rw [wr (by omega) (by omega), hb]; simp only [List.length_append]; congr 1; omega
    have wi : IntKind.i64.wrap (((i : Nat) : Int) + 1) = ((i + 1 : Nat) : Int) := by rw [wr (by omega) (by omega)]; omega
    have hd : Q ++ x :: X ++ Z ++ y :: Y ++ R = Q ++ x :: ((X ++ Z) ++ y :: (Y ++ R)) := by simp
    have b1 : 0 ≤ ((Q.length : Nat) : Int) ∧ ((Q.length : Nat) : Int) < ((List.length (Q ++ x :: X ++ Z ++ y :: Y ++ R) : Nat) : Int) := ⟨by omega, by simp only [List.length_append, List.length_cons]; omega⟩
    have b2 : 0 ≤ ((Q.length + 1 + (X ++ Z).length : Nat) : Int) ∧ ((Q.length + 1 + (X ++ Z).length : Nat) : Int) < ((List.length (Q ++ x :: X ++ Z ++ y :: Y ++ R) : Nat) : Int) := ⟨by omega, by simp only [List.length_append, List.length_cons]; omega⟩
    have g1 : (Q ++ x :: X ++ Z ++ y :: Y ++ R).getD Q.length default = x := mX hd rfl
    have g2 : (Q ++ x :: X ++ Z ++ y :: Y ++ R).getD (Q.length + 1 + (X ++ Z).length) default = y := mX (Q := Q ++ x :: X ++ Z) (R := Y ++ R) (by simp) (by simp; omega)
    have hbod : (fun s : List α × Int => mO cmp a b n s.1 s.2) (Q ++ x :: X ++ Z ++ y :: Y ++ R, ((i : Nat) : Int)) = some (.inl ((Q ++ [y]) ++ X ++ (Z ++ [x]) ++ Y ++ R, ((i + 1 : Nat) : Int))) := by
      show mO cmp a b n _ _ = _
      simp only [mO, hlt, cond_true, wa, wb, wi, bB b1, bB b2, Int.toNat_natCast, g1, g2]
      rw [KJ hd rfl rfl]
      simp
    rw [fN hbod, AV X Y (Q ++ [y]) (Z ++ [x]) R (i + 1) (by omega) (by simp; omega) (by simp; omega) (by rw [hn]; congr 1; omega) ha0 hb0 (by simp only [List.length_append, List.length_cons, List.length_nil]; omega)]
    simp

theorem FA {cmp : α → α → Option Int} {a b n : Int} {X Y Q Z R d : List α} (hd : d = Q ++ X ++ Z ++ Y ++ R) (hxy : X.length = Y.length) (ha : a = (Q.length : Nat)) (hb : b = ((Q.length + X.length + Z.length : Nat) : Int)) (hn : n = (X.length : Nat)) (hl : d.length ≤ 1099511627776) :
    pO d a b n cmp = some (Q ++ Y ++ Z ++ X ++ R) := by
  subst hd
  unfold pO yA
  have := AV (cmp := cmp) (a := a) (b := b) (n := n) X Y Q Z R 0 hxy (by omega) (by omega) (by omega) (by omega) (by omega) hl
  simp only [Int.natCast_zero] at this
  rw [this]; rfl

theorem OY {cmp : α → α → Option Int} {m : Int} : ∀ (n : Nat) (X Y Q R : List α), X.length + Y.length ≤ n → X ≠ [] → Y ≠ [] → m = ((Q.length + X.length : Nat) : Int) → (Q ++ X ++ Y ++ R).length ≤ 1099511627776 →
    (lp (fun s : List α × Int × Int => kI cmp m s.1 s.2.1 s.2.2) (Q ++ X ++ Y ++ R, ((X.length : Nat) : Int), ((Y.length : Nat) : Int))).bind (fun rr => xM cmp rr.1 m rr.2) = some (Q ++ Y ++ X ++ R) := by
  intro n
  induction n with
  | zero => intro X Y Q R hn hX; exact absurd (List.length_eq_zero_iff.1 (by omega)) hX
  | succ n ih =>
    intro X Y Q R hn hX hY hm hl
    have hX' : 0 < X.length := List.length_pos_iff.2 hX
    have hY' : 0 < Y.length := List.length_pos_iff.2 hY
    simp only [List.length_append] at hl
    rcases Nat.lt_trichotomy X.length Y.length with h | h | h
    · -- the second is longer
      obtain ⟨Y1, Y2, rfl, hY2⟩ : ∃ Y1 Y2, Y = Y1 ++ Y2 ∧ Y2.length = X.length := ⟨Y.take (Y.length - X.length), Y.drop (Y.length - X.length), (List.take_append_drop _ _).symm, by rw [List.length_drop]; omega⟩
      simp only [List.length_append] at hn hl h
      have hne : decide (((X.length : Nat) : Int) = (((Y1 ++ Y2).length : Nat) : Int)) = false := by simp only [List.length_append]; simp; omega
      have hlt : decide ((((Y1 ++ Y2).length : Nat) : Int) < ((X.length : Nat) : Int)) = false := by simp only [List.length_append]; simp; omega
      have e1 : IntKind.i64.wrap (m - ((X.length : Nat) : Int)) = ((Q.length : Nat) : Int) := by rw [wr (by omega) (by omega)]; omega
      have e0 : IntKind.i64.wrap (m + (((Y1 ++ Y2).length : Nat) : Int)) = m + (((Y1 ++ Y2).length : Nat) : Int) := by simp only [List.length_append]; exact wr (by omega) (by omega)
      have e2 : IntKind.i64.wrap (m + (((Y1 ++ Y2).length : Nat) : Int) - ((X.length : Nat) : Int)) = ((Q.length + X.length + Y1.length : Nat) : Int) := by simp only [List.length_append]; rw [wr (by omega) (by omega)]; omega
      have e3 : IntKind.i64.wrap ((((Y1 ++ Y2).length : Nat) : Int) - ((X.length : Nat) : Int)) = ((Y1.length : Nat) : Int) := by simp only [List.length_append]; rw [wr (by omega) (by omega)]; omega
      have hbod : (fun s : List α × Int × Int => kI cmp m s.1 s.2.1 s.2.2) (Q ++ X ++ (Y1 ++ Y2) ++ R, ((X.length : Nat) : Int), (((Y1 ++ Y2).length : Nat) : Int)) = some (.inl (Q ++ Y2 ++ Y1 ++ (X ++ R), ((Y2.length : Nat) : Int), ((Y1.length : Nat) : Int))) := by
        show kI cmp m _ _ _ = _
        simp only [kI, hne, Bool.not_false, cond_true, hlt, cond_false, e0, e1, e2, e3]
        rw [FA (X := X) (Y := Y2) (Q := Q) (Z := Y1) (R := R) (by simp) hY2.symm rfl rfl rfl (by simp only [List.length_append]; omega)]
        simp [hY2]
      rw [fN hbod, ih Y2 Y1 Q (X ++ R) (by omega) (fun h => by rw [h] at hY2; simp at hY2; omega) (fun h' => by rw [h'] at h; simp at h; omega) (by rw [hm]; congr 1; omega) (by simp only [List.length_append]; omega)]
      simp
    · -- alike
      have hne : decide (((X.length : Nat) : Int) = ((Y.length : Nat) : Int)) = true := by simp; omega
      rw [cK (r := (Q ++ X ++ Y ++ R, ((X.length : Nat) : Int))) (by show kI cmp m _ _ _ = _; simp only [kI, hne, Bool.not_true, cond_false])]
      simp only [Option.bind_some, xM]
      have e1 : IntKind.i64.wrap (m - ((X.length : Nat) : Int)) = ((Q.length : Nat) : Int) := by rw [wr (by omega) (by omega)]; omega
      rw [e1, FA (X := X) (Y := Y) (Q := Q) (Z := []) (R := R) (by simp) h rfl (by rw [hm]; simp) rfl (by simp only [List.length_append]; omega)]
      simp
    · -- the first is longer
      obtain ⟨X1, X2, rfl, hX1⟩ : ∃ X1 X2, X = X1 ++ X2 ∧ X1.length = Y.length := ⟨X.take Y.length, X.drop Y.length, (List.take_append_drop _ _).symm, by rw [List.length_take]; omega⟩
      simp only [List.length_append] at hn hl h hm
      have hne : decide ((((X1 ++ X2).length : Nat) : Int) = ((Y.length : Nat) : Int)) = false := by simp only [List.length_append]; simp; omega
      have hlt : decide (((Y.length : Nat) : Int) < (((X1 ++ X2).length : Nat) : Int)) = true := by simp only [List.length_append]; simp; omega
      have e1 : IntKind.i64.wrap (m - (((X1 ++ X2).length : Nat) : Int)) = ((Q.length : Nat) : Int) := by simp only [List.length_append]; rw [wr (by omega) (by omega)]; omega
      have e3 : IntKind.i64.wrap ((((X1 ++ X2).length : Nat) : Int) - ((Y.length : Nat) : Int)) = ((X2.length : Nat) : Int) := by simp only [List.length_append]; rw [wr (by omega) (by omega)]; omega
      have hbod : (fun s : List α × Int × Int => kI cmp m s.1 s.2.1 s.2.2) (Q ++ (X1 ++ X2) ++ Y ++ R, (((X1 ++ X2).length : Nat) : Int), ((Y.length : Nat) : Int)) = some (.inl ((Q ++ Y) ++ X2 ++ X1 ++ R, ((X2.length : Nat) : Int), ((X1.length : Nat) : Int))) := by
        show kI cmp m _ _ _ = _
        simp only [kI, hne, Bool.not_false, cond_true, hlt, e1, e3]
        rw [FA (X := X1) (Y := Y) (Q := Q) (Z := X2) (R := R) (by simp) hX1 rfl (by rw [hm]; congr 1; omega) (by rw [hX1]) (by simp only [List.length_append]; omega)]
        simp [hX1]
      rw [fN hbod, ih X2 X1 (Q ++ Y) R (by omega) (fun h' => by rw [h'] at h; simp at h; omega) (fun h => by rw [h] at hX1; simp at hX1; omega) (by rw [hm]; simp only [List.length_append]; congr 1; omega) (by simp only [List.length_append]; omega)]
      simp

theorem VG {cmp : α → α → Option Int} {a m b : Int} {X Y Q R d : List α} (hd : d = Q ++ X ++ Y ++ R) (hX : X ≠ []) (hY : Y ≠ []) (ha : a = (Q.length : Nat)) (hm : m = ((Q.length + X.length : Nat) : Int)) (hb : b = ((Q.length + X.length + Y.length : Nat) : Int)) (hl : d.length ≤ 1099511627776) :
    wY d a m b cmp = some (Q ++ Y ++ X ++ R) := by
  subst hd
  unfold wY BV
  have hl' := hl
  simp only [List.length_append] at hl'
  rw [show IntKind.i64.wrap (m - a) = ((X.length : Nat) : Int) by rw [wr (by omega) (by omega)]; omega, show IntKind.i64.wrap (b - m) = ((Y.length : Nat) : Int) by rw [wr (by omega) (by omega)]; omega]
  exact OY _ X Y Q R (Nat.le_refl _) hX hY hm hl

end Go.Abs
namespace Go.Abs
open Go
variable {α : Type} [Inhabited α]
theorem half {s : Nat} (h : s ≤ 4398046511104) : IntKind.i64.wrap (Int.fdiv (IntKind.u64.wrap (IntKind.i64.wrap (s : Int))) (2 ^ (min (Int.toNat (1 : Int)) 64))) = ((s / 2 : Nat) : Int) := by
  rw [wr (n := (s : Int)) (by omega) (by omega)]
  have hu : IntKind.u64.wrap (s : Int) = (s : Int) := by
    simp only [IntKind.wrap, IntKind.bits, IntKind.signed]
    simp
    omega
  have hp : (2 : Int) ^ (min (Int.toNat (1 : Int)) 64) = 2 := by decide
  rw [hu, hp, Int.fdiv_eq_ediv_of_nonneg _ (by omega), wr (by omega) (by omega)]
  omega

theorem zA {P B S d : List α} {n k : Nat} (hd : d = P ++ B ++ S) (hn : n = P.length + k) (hk : k < B.length) : d.getD n default = B.getD k default := by
  subst hd; subst hn
  simp only [List.getD_eq_getElem?_getD]
  rw [List.append_assoc, List.getElem?_append_right (by omega), List.getElem?_append_left (by omega)]
  congr 2; omega

theorem yY {l : List α} {t : Nat} {y : α} (h : y ∈ l.take t) : ∃ i, i < t ∧ i < l.length ∧ y = l.getD i default := by
  obtain ⟨i, hi, rfl⟩ := List.mem_iff_getElem.1 h
  rw [List.length_take] at hi
  refine ⟨i, by omega, by omega, ?_⟩
  rw [List.getElem_take, List.getD_eq_getElem?_getD, List.getElem?_eq_getElem (by omega)]; rfl

theorem qA {l : List α} {t : Nat} {y : α} (h : y ∈ l.drop t) : ∃ i, t ≤ i ∧ i < l.length ∧ y = l.getD i default := by
  obtain ⟨i, hi, rfl⟩ := List.mem_iff_getElem.1 h
  rw [List.length_drop] at hi
  refine ⟨t + i, by omega, by omega, ?_⟩
  rw [List.getElem_drop, List.getD_eq_getElem?_getD, List.getElem?_eq_getElem (by omega)]; rfl

theorem cM {l : List α} {i : Nat} (h : i < l.length) : l.getD i default ∈ l := by
  rw [List.getD_eq_getElem?_getD, List.getElem?_eq_getElem h]; exact List.getElem_mem h

section sym
variable {ok : α → Prop} {le : α → α → Prop} {cmp : α → α → Option Int}
theorem Cmp.refl {β : Type} {ok : β → Prop} {le : β → β → Prop} {cmp : β → β → Option Int} (C : Cmp ok le cmp) {x : β} (h : ok x) : le x x := by rcases C.total x x h h with h | h <;> exact h

theorem oT (C : Cmp ok le cmp) {l : List α} (ho : Oks ok l) (hs : Srt le l) {i j : Nat} (hij : i ≤ j) (hj : j < l.length) : le (l.getD i default) (l.getD j default) := by
  rcases Nat.lt_or_eq_of_le hij with h | h
  · have := List.pairwise_iff_getElem.1 hs i j (by omega) hj h
    simpa [List.getD_eq_getElem?_getD, List.getElem?_eq_getElem hj, List.getElem?_eq_getElem (show i < l.length by omega)] using this
  · subst h; exact C.refl (ho _ (cM hj))

theorem JA {β : Type} {le : β → β → Prop} {l : List β} (h : Srt le l) (t : Nat) : Srt le (l.take t) := List.Pairwise.sublist (List.take_sublist t l) h

theorem JZ {β : Type} {le : β → β → Prop} {l : List β} (h : Srt le l) (t : Nat) : Srt le (l.drop t) := List.Pairwise.sublist (List.drop_sublist t l) h

theorem IJ {β : Type} {body : (List β × Int × Int) → Option ((List β × Int × Int) ⊕ (List β × Int))} {d : List β} {f : Nat → Prop} {lo hi : Nat}
    (hb : ∀ i j : Nat, lo ≤ i → i < j → j ≤ hi → ∃ t : Bool, (t = true ↔ f ((i + j) / 2)) ∧ body (d, (i : Int), (j : Int)) = some (.inl (if t then (d, (((i + j) / 2 + 1 : Nat) : Int), (j : Int)) else (d, (i : Int), (((i + j) / 2 : Nat) : Int)))))
    (he : ∀ i : Nat, body (d, (i : Int), (i : Int)) = some (.inr (d, (i : Int)))) :
    ∀ (n i j : Nat), j - i ≤ n → lo ≤ i → i ≤ j → j ≤ hi → (i = lo ∨ f (i - 1)) → (j = hi ∨ ¬ f j) → ∃ s, lo ≤ s ∧ s ≤ hi ∧ (s = lo ∨ f (s - 1)) ∧ (s = hi ∨ ¬ f s) ∧ lp body (d, (i : Int), (j : Int)) = some (d, ((s : Nat) : Int)) := by
  intro n
  induction n with
  | zero =>
    intro i j hn h1 h2 h3 h4 h5
    have : i = j := by omega
    subst this
    exact ⟨i, h1, h3, h4, h5, cK (he i)⟩
  | succ n ih =>
    intro i j hn h1 h2 h3 h4 h5
    by_cases hij : i = j
    · subst hij; exact ⟨i, h1, h3, h4, h5, cK (he i)⟩
    · obtain ⟨t, ht, hbt⟩ := hb i j h1 (by omega) h3
      cases t
      · obtain ⟨s, r1, r2, r3, r4, r5⟩ := ih i ((i + j) / 2) (by omega) h1 (by omega) (by omega) h4 (Or.inr (fun h => by have := ht.2 h; cases this))
        refine ⟨s, r1, r2, r3, r4, ?_⟩
        rw [fN hbt]; exact r5
      · obtain ⟨s, r1, r2, r3, r4, r5⟩ := ih ((i + j) / 2 + 1) j (by omega) (by omega) (by omega) h3 (Or.inr (by simpa using ht.1 rfl)) h5
        refine ⟨s, r1, r2, r3, r4, ?_⟩
        rw [fN hbt]; exact r5

def DW (le : α → α → Prop) (P A B S r : List α) : Prop := ∃ D, D.Perm (A ++ B) ∧ Srt le D ∧ r = P ++ D ++ S

theorem TO {cmp : α → α → Option Int} {rec : List α → Int → Int → Int → Option (List α)} {e : Int} {x : α} : ∀ (B Q R : List α) (k : Nat), k = Q.length → e = ((Q.length + B.length + 1 : Nat) : Int) → (Q ++ x :: B ++ R).length ≤ 1099511627776 →
    lp (fun s : List α × Int => lK cmp rec e s.1 s.2) (Q ++ x :: B ++ R, (k : Int)) = some (Q ++ B ++ x :: R)
  | [], Q, R, k, hk, he, hl => by
    simp only [List.length_append, List.length_cons, List.length_nil] at hl he
    refine cK ?_
    show lK cmp rec e _ _ = _
    have : decide ((k : Int) < IntKind.i64.wrap (e - 1)) = false := by rw [wr (by omega) (by omega)]; simp; omega
    simp only [lK, this, cond_false]
    simp
  | y :: B, Q, R, k, hk, he, hl => by
    simp only [List.length_append, List.length_cons] at hl he
    have h1 : decide ((k : Int) < IntKind.i64.wrap (e - 1)) = true := by rw [wr (by omega) (by omega)]; simp; omega
    have hw : IntKind.i64.wrap ((k : Int) + 1) = ((k + 1 : Nat) : Int) := by rw [wr (by omega) (by omega)]; omega
    have b1 : 0 ≤ (k : Int) ∧ (k : Int) < ((List.length (Q ++ x :: y :: B ++ R) : Nat) : Int) := ⟨by omega, by simp only [List.length_append, List.length_cons]; omega⟩
    have b2 : 0 ≤ ((k + 1 : Nat) : Int) ∧ ((k + 1 : Nat) : Int) < ((List.length (Q ++ x :: y :: B ++ R) : Nat) : Int) := ⟨by omega, by simp only [List.length_append, List.length_cons]; omega⟩
    have hd : Q ++ x :: y :: B ++ R = Q ++ x :: ([] ++ y :: (B ++ R)) := by simp
    have g1 : (Q ++ x :: y :: B ++ R).getD k default = x := mX hd hk
    have g2 : (Q ++ x :: y :: B ++ R).getD (k + 1) default = y := mX (Q := Q ++ [x]) (R := B ++ R) (by simp) (by simp; omega)
    have hb : (fun s : List α × Int => lK cmp rec e s.1 s.2) (Q ++ x :: y :: B ++ R, (k : Int)) = some (.inl ((Q ++ [y]) ++ x :: B ++ R, ((k + 1 : Nat) : Int))) := by
      show lK cmp rec e _ _ = _
      simp only [lK, h1, cond_true, hw, bB b1, bB b2, Int.toNat_natCast, g1, g2]
      rw [KJ (M := []) hd hk (by simp; omega)]
      simp
    rw [fN hb, TO B (Q ++ [y]) R (k + 1) (by simp; omega) (by rw [he]; simp only [List.length_append, List.length_cons, List.length_nil]; congr 1; omega) (by simp only [List.length_append, List.length_cons, List.length_nil]; omega)]
    simp

theorem UA {cmp : α → α → Option Int} {rec : List α → Int → Int → Int → Option (List α)} {e : Int} {x : α} {Q : List α} (he : e = (Q.length : Nat)) : ∀ (n : Nat) (A R : List α) (k : Nat), A.length = n → k = Q.length + A.length → (Q ++ A ++ x :: R).length ≤ 1099511627776 →
    lp (fun s : List α × Int => lI cmp rec e s.1 s.2) (Q ++ A ++ x :: R, (k : Int)) = some (Q ++ x :: A ++ R) := by
  intro n
  induction n with
  | zero =>
    intro A R k hn hk hl
    have hA : A = [] := List.length_eq_zero_iff.1 hn
    subst hA
    refine cK ?_
    show lI cmp rec e _ _ = _
    have : decide (e < (k : Int)) = false := by simp only [List.length_nil] at hk; simp; omega
    simp only [lI, this, cond_false]
    simp
  | succ n ih =>
    intro A R k hn hk hl
    obtain ⟨A', y, rfl⟩ : ∃ A' y, A = A' ++ [y] := by
      rcases List.eq_nil_or_concat A with h | ⟨A', y, h⟩
      · rw [h] at hn; simp at hn
      · exact ⟨A', y, by simpa using h⟩
    simp only [List.length_append, List.length_cons, List.length_nil] at hl hk hn
    have h1 : decide (e < (k : Int)) = true := by simp; omega
    have hw : IntKind.i64.wrap ((k : Int) - 1) = ((Q.length + A'.length : Nat) : Int) := by rw [wr (by omega) (by omega)]; omega
    have b1 : 0 ≤ (k : Int) ∧ (k : Int) < ((List.length (Q ++ (A' ++ [y]) ++ x :: R) : Nat) : Int) := ⟨by omega, by simp only [List.length_append, List.length_cons, List.length_nil]; omega⟩
    have b2 : 0 ≤ ((Q.length + A'.length : Nat) : Int) ∧ ((Q.length + A'.length : Nat) : Int) < ((List.length (Q ++ (A' ++ [y]) ++ x :: R) : Nat) : Int) := ⟨by omega, by simp only [List.length_append, List.length_cons, List.length_nil]; omega⟩
    have g1 : (Q ++ (A' ++ [y]) ++ x :: R).getD k default = x := mX (Q := Q ++ (A' ++ [y])) rfl (by simp; omega)
    have g2 : (Q ++ (A' ++ [y]) ++ x :: R).getD (Q.length + A'.length) default = y := mX (Q := Q ++ A') (R := x :: R) (by simp) (by simp)
    have hb : (fun s : List α × Int => lI cmp rec e s.1 s.2) (Q ++ (A' ++ [y]) ++ x :: R, (k : Int)) = some (.inl (Q ++ A' ++ x :: (y :: R), ((Q.length + A'.length : Nat) : Int))) := by
      show lI cmp rec e _ _ = _
      simp only [lI, h1, cond_true, hw, bB b1, bB b2, Int.toNat_natCast, g1, g2]
      rw [xS (Q := Q ++ (A' ++ [y])) (x := x) (R := R) rfl (by simp; omega), xS (Q := Q ++ A') (x := y) (R := y :: R) (by simp) (by simp)]
    rw [fN hb, ih A' (y :: R) (Q.length + A'.length) (by omega) rfl (by simp only [List.length_append, List.length_cons]; omega)]
    simp

def ML (cmp : α → α → Option Int) (le : α → α → Prop) (P A B S : List α) (d : List α) (a m b : Int) : Prop :=
  (∃ r, DW le P A B S r ∧ ∀ rec, dG cmp rec d a m b = some r) ∨
  (∃ A1 A2 B1 B2, A = A1 ++ A2 ∧ B = B1 ++ B2 ∧ 0 < A1.length + B1.length ∧ 0 < A2.length + B2.length ∧ (∀ x ∈ A1 ++ B1, ∀ y ∈ A2 ++ B2, le x y) ∧
    ∀ rec, dG cmp rec d a m b = (cond (decide (A1 ≠ [] ∧ B1 ≠ [])) (rec (P ++ A1 ++ B1 ++ A2 ++ B2 ++ S) a (a + (A1.length : Nat)) (a + ((A1.length + B1.length : Nat) : Int))) (some (P ++ A1 ++ B1 ++ A2 ++ B2 ++ S))).bind fun x =>
      cond (decide (A2 ≠ [] ∧ B2 ≠ [])) (rec x (a + ((A1.length + B1.length : Nat) : Int)) (a + ((A1.length + B1.length + A2.length : Nat) : Int)) b) (some x))

theorem QC (C : Cmp ok le cmp) {P B S : List α} {x : α} {a m b : Int} (hx : ok x) (hB : Oks ok B) (hs : Srt le B) (ha : a = (P.length : Nat)) (hm : m = ((P.length + 1 : Nat) : Int)) (hb : b = ((P.length + 1 + B.length : Nat) : Int)) (hl : (P ++ x :: B ++ S).length ≤ 1099511627776) :
    ∃ r, DW le P [x] B S r ∧ ∀ rec, dG cmp rec (P ++ x :: B ++ S) a m b = some r := by
  have hl' := hl
  simp only [List.length_append, List.length_cons] at hl'
  have hgx : (P ++ x :: B ++ S).getD P.length default = x := mX (Q := P) (R := B ++ S) (by simp) rfl
  have hgb : ∀ k, k < B.length → (P ++ x :: B ++ S).getD (P.length + 1 + k) default = B.getD k default := fun k hk => zA (P := P ++ [x]) (B := B) (S := S) (by simp) (by simp) hk
  have hbin : ∀ rec, ∃ s : Nat, P.length + 1 ≤ s ∧ s ≤ P.length + 1 + B.length ∧ (s = P.length + 1 ∨ ¬ le x (B.getD (s - 1 - (P.length + 1)) default)) ∧ (s = P.length + 1 + B.length ∨ ¬ ¬ le x (B.getD (s - (P.length + 1)) default)) ∧
      lp (fun s : List α × Int × Int => lG cmp rec a s.1 s.2.1 s.2.2) (P ++ x :: B ++ S, m, b) = some (P ++ x :: B ++ S, ((s : Nat) : Int)) := by
    intro rec
    rw [hm, hb]
    refine IJ (lo := P.length + 1) (hi := P.length + 1 + B.length) (f := fun k => ¬ le x (B.getD (k - (P.length + 1)) default)) ?_ ?_ _ _ _ (Nat.le_refl _) (Nat.le_refl _) (by omega) (Nat.le_refl _) (Or.inl rfl) (Or.inl rfl)
    · intro i j h1 h2 h3
      have hh : (i + j) / 2 - (P.length + 1) < B.length := by omega
      have e1 : (P ++ x :: B ++ S).getD ((i + j) / 2) default = B.getD ((i + j) / 2 - (P.length + 1)) default := by
        have := hgb ((i + j) / 2 - (P.length + 1)) hh
        rwa [show P.length + 1 + ((i + j) / 2 - (P.length + 1)) = (i + j) / 2 by omega] at this
      obtain ⟨v, hc, hv⟩ := C.ans _ x (hB _ (cM hh)) hx
      refine ⟨decide (v < 0), by simpa using hv, ?_⟩
      show lG cmp rec a _ _ _ = _
      have hlt : decide ((i : Int) < (j : Int)) = true := by simpa using h2
      have hadd : ((i : Int) + (j : Int)) = ((i + j : Nat) : Int) := by omega
      have w1 : IntKind.i64.wrap ((((i + j) / 2 : Nat) : Int) + 1) = (((i + j) / 2 + 1 : Nat) : Int) := by rw [wr (by omega) (by omega)]; omega
      simp only [lG, hlt, cond_true, hadd, half (s := i + j) (by omega), Int.toNat_natCast, ha, e1, hgx, hc, Option.bind_some, w1]
      rw [bB (by omega), bB ⟨by omega, by simp only [List.length_append, List.length_cons]; omega⟩, bB ⟨by omega, by simp only [List.length_append, List.length_cons]; omega⟩]
      by_cases hneg : v < 0 <;> simp [hneg]
    · intro i
      show lG cmp rec a _ _ _ = _
      have hlt : decide ((i : Int) < (i : Int)) = false := by simp
      simp only [lG, hlt, cond_false]
  obtain ⟨s, s1, s2, s3, s4, s5⟩ := hbin (fun _ _ _ _ => none)
  obtain ⟨t, rfl⟩ : ∃ t, s = P.length + 1 + t := ⟨s - (P.length + 1), by omega⟩
  have ht : t ≤ B.length := by omega
  have hx1 : ∀ i, i < t → le (B.getD i default) x := fun i hi => by
    have h3 : ¬ le x (B.getD (t - 1) default) := by
      rcases s3 with h | h
      · omega
      · rwa [show P.length + 1 + t - 1 - (P.length + 1) = t - 1 by omega] at h
    have h4 : le (B.getD (t - 1) default) x := by
      rcases C.total x _ hx (hB _ (cM (show t - 1 < B.length by omega))) with h | h
      · exact absurd h h3
      · exact h
    exact C.trans _ _ _ (hB _ (cM (by omega))) (hB _ (cM (by omega))) hx (oT C hB hs (show i ≤ t - 1 by omega) (by omega)) h4
  have hx2 : ∀ j, t ≤ j → j < B.length → le x (B.getD j default) := fun j hj hj' => by
    have h3 : le x (B.getD t default) := by
      rcases s4 with h | h
      · omega
      · rw [show P.length + 1 + t - (P.length + 1) = t by omega] at h
        exact Classical.not_not.1 h
    exact C.trans _ _ _ hx (hB _ (cM (by omega))) (hB _ (cM hj')) h3 (oT C hB hs hj hj')
  have hBs : B.take t ++ B.drop t = B := List.take_append_drop t B
  have hlt : (B.take t).length = t := by rw [List.length_take]; omega
  refine ⟨P ++ (B.take t ++ x :: B.drop t) ++ S, ⟨_, ?_, ?_, rfl⟩, fun rec => ?_⟩
  · have := List.perm_middle (a := x) (l₁ := B.take t) (l₂ := B.drop t)
    rw [hBs] at this; exact this
  · simp only [Srt, List.pairwise_append, List.pairwise_cons]
    refine ⟨JA hs t, ⟨fun z hz => ?_, JZ hs t⟩, fun y hy z hz => ?_⟩
    · obtain ⟨j, j1, j2, rfl⟩ := qA hz
      exact hx2 j j1 j2
    · obtain ⟨i, i1, i2, rfl⟩ := yY hy
      rcases List.mem_cons.1 hz with rfl | hz
      · exact hx1 i i1
      · obtain ⟨j, j1, j2, rfl⟩ := qA hz
        exact oT C hB hs (by omega) j2
  · have h1 : decide (IntKind.i64.wrap (m - a) = 1) = true := by rw [wr (by omega) (by omega)]; simp; omega
    have s5' : lp (fun s : List α × Int × Int => lG cmp rec a s.1 s.2.1 s.2.2) (P ++ x :: B ++ S, m, b) = some (P ++ x :: B ++ S, ((P.length + 1 + t : Nat) : Int)) := s5
    simp only [dG, h1, cond_true, xY, s5', Option.bind_some, xQ, yE]
    have hmv := TO (cmp := cmp) (rec := rec) (e := ((P.length + 1 + t : Nat) : Int)) (x := x) (B.take t) P (B.drop t ++ S) P.length rfl (by rw [hlt]; congr 1; omega) (by simp only [List.length_append, List.length_cons, List.length_drop]; omega)
    have hd : P ++ x :: B.take t ++ (B.drop t ++ S) = P ++ x :: B ++ S := by
      have : P ++ x :: B.take t ++ (B.drop t ++ S) = P ++ x :: (B.take t ++ B.drop t) ++ S := by simp only [List.append_assoc, List.cons_append]
      rw [this, hBs]
    rw [hd] at hmv
    rw [ha, hmv]
    simp [xV]

theorem RX (C : Cmp ok le cmp) {P A S : List α} {x : α} {a m b : Int} (hx : ok x) (hA : Oks ok A) (hs : Srt le A) (hA1 : A.length ≠ 1) (ha : a = (P.length : Nat)) (hm : m = ((P.length + A.length : Nat) : Int)) (hb : b = ((P.length + A.length + 1 : Nat) : Int)) (hl : (P ++ A ++ x :: S).length ≤ 1099511627776) :
    ∃ r, DW le P A [x] S r ∧ ∀ rec, dG cmp rec (P ++ A ++ x :: S) a m b = some r := by
  have hl' := hl
  simp only [List.length_append, List.length_cons] at hl'
  have hgx : (P ++ A ++ x :: S).getD (P.length + A.length) default = x := mX (Q := P ++ A) (R := S) rfl (by simp)
  have hga : ∀ k, k < A.length → (P ++ A ++ x :: S).getD (P.length + k) default = A.getD k default := fun k hk => zA (P := P) (B := A) (S := x :: S) rfl rfl hk
  have hbin : ∀ rec, ∃ s : Nat, P.length ≤ s ∧ s ≤ P.length + A.length ∧ (s = P.length ∨ le (A.getD (s - 1 - P.length) default) x) ∧ (s = P.length + A.length ∨ ¬ le (A.getD (s - P.length) default) x) ∧
      lp (fun s : List α × Int × Int => lH cmp rec m s.1 s.2.1 s.2.2) (P ++ A ++ x :: S, a, m) = some (P ++ A ++ x :: S, ((s : Nat) : Int)) := by
    intro rec
    rw [ha, hm]
    refine IJ (lo := P.length) (hi := P.length + A.length) (f := fun k => le (A.getD (k - P.length) default) x) ?_ ?_ _ _ _ (Nat.le_refl _) (Nat.le_refl _) (by omega) (Nat.le_refl _) (Or.inl rfl) (Or.inl rfl)
    · intro i j h1 h2 h3
      have hh : (i + j) / 2 - P.length < A.length := by omega
      have e1 : (P ++ A ++ x :: S).getD ((i + j) / 2) default = A.getD ((i + j) / 2 - P.length) default := by
        have := hga ((i + j) / 2 - P.length) hh
        rwa [show P.length + ((i + j) / 2 - P.length) = (i + j) / 2 by omega] at this
      obtain ⟨v, hc, hv⟩ := C.ans x _ hx (hA _ (cM hh))
      refine ⟨!decide (v < 0), by simp only [Bool.not_eq_true', decide_eq_false_iff_not, hv, Classical.not_not], ?_⟩
      show lH cmp rec _ _ _ _ = _
      have hlt : decide ((i : Int) < (j : Int)) = true := by simpa using h2
      have hadd : ((i : Int) + (j : Int)) = ((i + j : Nat) : Int) := by omega
      have w1 : IntKind.i64.wrap ((((i + j) / 2 : Nat) : Int) + 1) = (((i + j) / 2 + 1 : Nat) : Int) := by rw [wr (by omega) (by omega)]; omega
      simp only [lH, hlt, cond_true, hadd, half (s := i + j) (by omega), Int.toNat_natCast, e1, hgx, hc, Option.bind_some, w1]
      rw [bB (by omega), bB ⟨by omega, by simp only [List.length_append, List.length_cons]; omega⟩, bB ⟨by omega, by simp only [List.length_append, List.length_cons]; omega⟩]
      by_cases hneg : v < 0 <;> simp [hneg]
    · intro i
      show lH cmp rec _ _ _ _ = _
      have hlt : decide ((i : Int) < (i : Int)) = false := by simp
      simp only [lH, hlt, cond_false]
  obtain ⟨s, s1, s2, s3, s4, s5⟩ := hbin (fun _ _ _ _ => none)
  obtain ⟨t, rfl⟩ : ∃ t, s = P.length + t := ⟨s - P.length, by omega⟩
  have ht : t ≤ A.length := by omega
  have hx1 : ∀ i, i < t → le (A.getD i default) x := fun i hi => by
    have h4 : le (A.getD (t - 1) default) x := by
      rcases s3 with h | h
      · omega
      · rwa [show P.length + t - 1 - P.length = t - 1 by omega] at h
    exact C.trans _ _ _ (hA _ (cM (by omega))) (hA _ (cM (by omega))) hx (oT C hA hs (show i ≤ t - 1 by omega) (by omega)) h4
  have hx2 : ∀ j, t ≤ j → j < A.length → le x (A.getD j default) := fun j hj hj' => by
    have h3 : le x (A.getD t default) := by
      rcases s4 with h | h
      · omega
      · rw [show P.length + t - P.length = t by omega] at h
        rcases C.total x _ hx (hA _ (cM (show t < A.length by omega))) with h' | h'
        · exact h'
        · exact absurd h' h
    exact C.trans _ _ _ hx (hA _ (cM (by omega))) (hA _ (cM hj')) h3 (oT C hA hs hj hj')
  have hAs : A.take t ++ A.drop t = A := List.take_append_drop t A
  have hlt : (A.take t).length = t := by rw [List.length_take]; omega
  refine ⟨P ++ (A.take t ++ x :: A.drop t) ++ S, ⟨_, ?_, ?_, rfl⟩, fun rec => ?_⟩
  · have := List.perm_middle (a := x) (l₁ := A.take t) (l₂ := A.drop t)
    rw [hAs] at this
    exact this.trans (by simpa using (List.perm_append_comm (l₁ := [x]) (l₂ := A)))
  · simp only [Srt, List.pairwise_append, List.pairwise_cons]
    refine ⟨JA hs t, ⟨fun z hz => ?_, JZ hs t⟩, fun y hy z hz => ?_⟩
    · obtain ⟨j, j1, j2, rfl⟩ := qA hz
      exact hx2 j j1 j2
    · obtain ⟨i, i1, i2, rfl⟩ := yY hy
      rcases List.mem_cons.1 hz with rfl | hz
      · exact hx1 i i1
      · obtain ⟨j, j1, j2, rfl⟩ := qA hz
        exact oT C hA hs (by omega) j2
  · have h1 : decide (IntKind.i64.wrap (m - a) = 1) = false := by rw [wr (by omega) (by omega)]; simp; omega
    have h2 : decide (IntKind.i64.wrap (b - m) = 1) = true := by rw [wr (by omega) (by omega)]; simp; omega
    have s5' : lp (fun s : List α × Int × Int => lH cmp rec m s.1 s.2.1 s.2.2) (P ++ A ++ x :: S, a, m) = some (P ++ A ++ x :: S, ((P.length + t : Nat) : Int)) := s5
    simp only [dG, h1, cond_false, uZ, h2, cond_true, yB, s5', Option.bind_some, zK, xW]
    have hmv := UA (cmp := cmp) (rec := rec) (e := ((P.length + t : Nat) : Int)) (x := x) (Q := P ++ A.take t) (by simp [hlt]) (A.drop t).length (A.drop t) S (P.length + A.length) rfl (by simp only [List.length_append, List.length_drop, hlt]; omega) (by simp only [List.length_append, List.length_cons, List.length_drop, hlt]; omega)
    have hd : P ++ A.take t ++ A.drop t ++ x :: S = P ++ A ++ x :: S := by
      have : P ++ A.take t ++ A.drop t ++ x :: S = P ++ (A.take t ++ A.drop t) ++ x :: S := by simp only [List.append_assoc]
      rw [this, hAs]
    rw [hd] at hmv
    rw [hm, hmv]
    simp [zR]

theorem UT (C : Cmp ok le cmp) {P A B S : List α} {a m b : Int} (hA : Oks ok A) (hB : Oks ok B) (hsA : Srt le A) (hsB : Srt le B) (hA2 : 2 ≤ A.length) (hB2 : 2 ≤ B.length)
    (ha : a = (P.length : Nat)) (hm : m = ((P.length + A.length : Nat) : Int)) (hb : b = ((P.length + A.length + B.length : Nat) : Int)) (hl : (P ++ A ++ B ++ S).length ≤ 1099511627776) :
    ML cmp le P A B S (P ++ A ++ B ++ S) a m b := by
  right
  have hl' := hl
  simp only [List.length_append] at hl'
  -- the middle
  obtain ⟨mid, hmid⟩ : ∃ mid : Nat, mid = (P.length + (P.length + A.length + B.length)) / 2 := ⟨_, rfl⟩
  have hga : ∀ k, P.length ≤ k → k < P.length + A.length → (P ++ A ++ B ++ S).getD k default = A.getD (k - P.length) default := fun k h1 h2 => zA (P := P) (B := A) (S := B ++ S) (by simp) (by omega) (by omega)
  have hgb : ∀ k, P.length + A.length ≤ k → k < P.length + A.length + B.length → (P ++ A ++ B ++ S).getD k default = B.getD (k - (P.length + A.length)) default := fun k h1 h2 => zA (P := P ++ A) (B := B) (S := S) (by simp) (by simp; omega) (by omega)
  -- the search
  obtain ⟨lo, hi, hlo, hhi, hbnd, hlohi, hrange, hinit⟩ : ∃ lo hi : Nat, (lo = P.length ∨ lo + (P.length + A.length + B.length) = mid + (P.length + A.length)) ∧ (hi = P.length + A.length ∨ hi = mid) ∧ (P.length ≤ lo ∧ mid + (P.length + A.length) ≤ lo + (P.length + A.length + B.length) ∧ hi ≤ P.length + A.length ∧ hi ≤ mid) ∧ lo ≤ hi ∧
      (∀ c, lo ≤ c → c < hi → P.length ≤ c ∧ c < P.length + A.length ∧ P.length + A.length ≤ mid + (P.length + A.length) - 1 - c ∧ mid + (P.length + A.length) - 1 - c < P.length + A.length + B.length) ∧
      (∀ rec, rS cmp rec (P ++ A ++ B ++ S) a m b = rM cmp rec (P ++ A ++ B ++ S) a m b (mid : Int) ((mid + (P.length + A.length) : Nat) : Int) (lo : Int) (hi : Int)) := by
    have hw0 : IntKind.i64.wrap (Int.fdiv (IntKind.u64.wrap (IntKind.i64.wrap (a + b))) (2 ^ (min (Int.toNat (1 : Int)) 64))) = ((mid : Nat) : Int) := by
      rw [show a + b = ((P.length + (P.length + A.length + B.length) : Nat) : Int) by omega, half (by omega), hmid]
    have hw1 : IntKind.i64.wrap ((mid : Int) + m) = ((mid + (P.length + A.length) : Nat) : Int) := by rw [wr (by omega) (by omega)]; omega
    by_cases hc : mid < P.length + A.length
    · refine ⟨mid + (P.length + A.length) - (P.length + A.length + B.length), mid, Or.inr (by omega), Or.inr (by omega), by omega, by omega, fun c h1 h2 => ⟨by omega, by omega, by omega, by omega⟩, fun rec => ?_⟩
      have hlt : decide ((mid : Int) < m) = true := by simp; omega
      simp only [rS, hw0, hlt, cond_true, hw1]
      rw [bB (by omega), show IntKind.i64.wrap (((mid + (P.length + A.length) : Nat) : Int) - b) = ((mid + (P.length + A.length) - (P.length + A.length + B.length) : Nat) : Int) by rw [wr (by omega) (by omega)]; omega]
    · refine ⟨P.length, P.length + A.length, Or.inl rfl, Or.inl rfl, by omega, by omega, fun c h1 h2 => ⟨by omega, by omega, by omega, by omega⟩, fun rec => ?_⟩
      have hlt : decide ((mid : Int) < m) = false := by simp; omega
      simp only [rS, hw0, hlt, cond_false, hw1]
      rw [bB (by omega)]
      rw [ha, hm]
  have hbin : ∀ rec, ∃ s : Nat, lo ≤ s ∧ s ≤ hi ∧ (s = lo ∨ le (A.getD (s - 1 - P.length) default) (B.getD (mid + (P.length + A.length) - 1 - (s - 1) - (P.length + A.length)) default)) ∧ (s = hi ∨ ¬ le (A.getD (s - P.length) default) (B.getD (mid + (P.length + A.length) - 1 - s - (P.length + A.length)) default)) ∧
      lp (fun s : List α × Int × Int => mB cmp rec a m b (mid : Int) ((mid + (P.length + A.length) : Nat) : Int) ((mid + (P.length + A.length) - 1 : Nat) : Int) s.1 s.2.1 s.2.2) (P ++ A ++ B ++ S, (lo : Int), (hi : Int)) = some (P ++ A ++ B ++ S, ((s : Nat) : Int)) := by
    intro rec
    refine IJ (lo := lo) (hi := hi) (f := fun k => le (A.getD (k - P.length) default) (B.getD (mid + (P.length + A.length) - 1 - k - (P.length + A.length)) default)) ?_ ?_ _ _ _ (Nat.le_refl _) (Nat.le_refl _) hlohi (Nat.le_refl _) (Or.inl rfl) (Or.inl rfl)
    · intro i j h1 h2 h3
      obtain ⟨r1, r2, r3, r4⟩ := hrange ((i + j) / 2) (by omega) (by omega)
      have e1 := hga ((i + j) / 2) r1 r2
      have e2 := hgb (mid + (P.length + A.length) - 1 - (i + j) / 2) r3 r4
      obtain ⟨v, hc, hv⟩ := C.ans (B.getD (mid + (P.length + A.length) - 1 - (i + j) / 2 - (P.length + A.length)) default) (A.getD ((i + j) / 2 - P.length) default) (hB _ (cM (by omega))) (hA _ (cM (by omega)))
      refine ⟨!decide (v < 0), by simp only [Bool.not_eq_true', decide_eq_false_iff_not, hv, Classical.not_not], ?_⟩
      show mB cmp rec _ _ _ _ _ _ _ _ _ = _
      have hlt : decide ((i : Int) < (j : Int)) = true := by simpa using h2
      have hadd : ((i : Int) + (j : Int)) = ((i + j : Nat) : Int) := by omega
      have w1 : IntKind.i64.wrap ((((i + j) / 2 : Nat) : Int) + 1) = (((i + j) / 2 + 1 : Nat) : Int) := by rw [wr (by omega) (by omega)]; omega
      have w2 : IntKind.i64.wrap (((mid + (P.length + A.length) - 1 : Nat) : Int) - (((i + j) / 2 : Nat) : Int)) = ((mid + (P.length + A.length) - 1 - (i + j) / 2 : Nat) : Int) := by rw [wr (by omega) (by omega)]; omega
      simp only [mB, hlt, cond_true, hadd, half (s := i + j) (by omega), w1, w2, Int.toNat_natCast, e1, e2, hc, Option.bind_some]
      rw [bB (by omega), bB ⟨by omega, by simp only [List.length_append]; omega⟩, bB ⟨by omega, by simp only [List.length_append]; omega⟩]
      by_cases hneg : v < 0 <;> simp [hneg]
    · intro i
      show mB cmp rec _ _ _ _ _ _ _ _ _ = _
      have hlt : decide ((i : Int) < (i : Int)) = false := by simp
      simp only [mB, hlt, cond_false]
  obtain ⟨s, s1, s2, s3, s4, s5⟩ := hbin (fun _ _ _ _ => none)
  have hsA0 : P.length ≤ s ∧ s ≤ P.length + A.length := by
    omega
  have hsB0 : P.length + A.length ≤ mid + (P.length + A.length) - s ∧ mid + (P.length + A.length) - s ≤ P.length + A.length + B.length := by
    omega
  obtain ⟨t, rfl⟩ : ∃ t, s = P.length + t := ⟨s - P.length, by omega⟩
  obtain ⟨u, hu⟩ : ∃ u, mid + (P.length + A.length) - (P.length + t) = P.length + A.length + u := ⟨mid + (P.length + A.length) - (P.length + t) - (P.length + A.length), by omega⟩
  have htA : t ≤ A.length := by omega
  have huB : u ≤ B.length := by omega
  have hmtu : mid = P.length + t + u := by omega
  have hAs : A.take t ++ A.drop t = A := List.take_append_drop t A
  have hBs : B.take u ++ B.drop u = B := List.take_append_drop u B
  have hlA1 : (A.take t).length = t := by rw [List.length_take]; omega
  have hlA2 : (A.drop t).length = A.length - t := by rw [List.length_drop]
  have hlB1 : (B.take u).length = u := by rw [List.length_take]; omega
  have hlB2 : (B.drop u).length = B.length - u := by rw [List.length_drop]
  refine ⟨A.take t, A.drop t, B.take u, B.drop u, hAs.symm, hBs.symm, by rw [hlA1, hlB1]; omega, by rw [hlA2, hlB2]; omega, ?_, fun rec => ?_⟩
  · -- who stands ahead of whom
    intro x hx y hy
    rcases List.mem_append.1 hx with hx | hx
    · obtain ⟨i, i1, i2, rfl⟩ := yY hx
      rcases List.mem_append.1 hy with hy | hy
      · obtain ⟨j, j1, j2, rfl⟩ := qA hy
        exact oT C hA hsA (by omega) j2
      · obtain ⟨j, j1, j2, rfl⟩ := qA hy
        have h3 : le (A.getD (t - 1) default) (B.getD u default) := by
          rcases s3 with h | h
          · rcases hlo with h' | h' <;> omega
          · rwa [show P.length + t - 1 - P.length = t - 1 by omega, show mid + (P.length + A.length) - 1 - (P.length + t - 1) - (P.length + A.length) = u by omega] at h
        exact C.trans _ _ _ (hA _ (cM i2)) (hA _ (cM (by omega))) (hB _ (cM j2)) (oT C hA hsA (show i ≤ t - 1 by omega) (by omega))
          (C.trans _ _ _ (hA _ (cM (by omega))) (hB _ (cM (by omega))) (hB _ (cM j2)) h3 (oT C hB hsB j1 j2))
    · obtain ⟨i, i1, i2, rfl⟩ := yY hx
      rcases List.mem_append.1 hy with hy | hy
      · obtain ⟨j, j1, j2, rfl⟩ := qA hy
        have h3 : le (B.getD (u - 1) default) (A.getD t default) := by
          have h0 : ¬ le (A.getD t default) (B.getD (u - 1) default) := by
            rcases s4 with h | h
            · rcases hhi with h' | h' <;> omega
            · rwa [show P.length + t - P.length = t by omega, show mid + (P.length + A.length) - 1 - (P.length + t) - (P.length + A.length) = u - 1 by omega] at h
          rcases C.total _ _ (hA _ (cM (show t < A.length by omega))) (hB _ (cM (show u - 1 < B.length by omega))) with h | h
          · exact absurd h h0
          · exact h
        exact C.trans _ _ _ (hB _ (cM i2)) (hB _ (cM (by omega))) (hA _ (cM j2)) (oT C hB hsB (show i ≤ u - 1 by omega) (by omega))
          (C.trans _ _ _ (hB _ (cM (by omega))) (hA _ (cM (by omega))) (hA _ (cM j2)) h3 (oT C hA hsA j1 j2))
      · obtain ⟨j, j1, j2, rfl⟩ := qA hy
        exact oT C hB hsB (by omega) j2
  · have h1 : decide (IntKind.i64.wrap (m - a) = 1) = false := by rw [wr (by omega) (by omega)]; simp; omega
    have h2 : decide (IntKind.i64.wrap (b - m) = 1) = false := by rw [wr (by omega) (by omega)]; simp; omega
    have s5' : lp (fun s : List α × Int × Int => mB cmp rec a m b (mid : Int) ((mid + (P.length + A.length) : Nat) : Int) ((mid + (P.length + A.length) - 1 : Nat) : Int) s.1 s.2.1 s.2.2) (P ++ A ++ B ++ S, (lo : Int), (hi : Int)) = some (P ++ A ++ B ++ S, ((P.length + t : Nat) : Int)) := s5
    have hp : IntKind.i64.wrap (((mid + (P.length + A.length) : Nat) : Int) - 1) = ((mid + (P.length + A.length) - 1 : Nat) : Int) := by rw [wr (by omega) (by omega)]; omega
    have he : IntKind.i64.wrap (((mid + (P.length + A.length) : Nat) : Int) - ((P.length + t : Nat) : Int)) = ((P.length + A.length + u : Nat) : Int) := by rw [wr (by omega) (by omega)]; omega
    simp only [dG, h1, cond_false, uZ, h2, hinit rec, rM, zL, hp, s5', Option.bind_some, zP, he]
    -- the turn
    have hd : P ++ A ++ B ++ S = (P ++ A.take t) ++ A.drop t ++ B.take u ++ (B.drop u ++ S) := by
      have : (P ++ A.take t) ++ A.drop t ++ B.take u ++ (B.drop u ++ S) = P ++ (A.take t ++ A.drop t) ++ (B.take u ++ B.drop u) ++ S := by simp only [List.append_assoc]
      rw [this, hAs, hBs]
    have hrot : cond (decide (((P.length + t : Nat) : Int) < m) && decide (m < ((P.length + A.length + u : Nat) : Int)))
        ((wY (P ++ A ++ B ++ S) ((P.length + t : Nat) : Int) m ((P.length + A.length + u : Nat) : Int) cmp).bind fun x10 => mZ cmp rec x10 a b (mid : Int) ((P.length + t : Nat) : Int) ((P.length + A.length + u : Nat) : Int))
        (mZ cmp rec (P ++ A ++ B ++ S) a b (mid : Int) ((P.length + t : Nat) : Int) ((P.length + A.length + u : Nat) : Int))
        = mZ cmp rec (P ++ A.take t ++ B.take u ++ A.drop t ++ B.drop u ++ S) a b (mid : Int) ((P.length + t : Nat) : Int) ((P.length + A.length + u : Nat) : Int) := by
      by_cases hc : t < A.length ∧ 0 < u
      · have : (decide (((P.length + t : Nat) : Int) < m) && decide (m < ((P.length + A.length + u : Nat) : Int))) = true := by simp; omega
        rw [this, cond_true, VG (Q := P ++ A.take t) (X := A.drop t) (Y := B.take u) (R := B.drop u ++ S) hd (fun h => by rw [h] at hlA2; simp at hlA2; omega) (fun h => by rw [h] at hlB1; simp at hlB1; omega)
          (by simp only [List.length_append, hlA1]) (by simp only [List.length_append, hlA1, hlA2]; rw [hm]; congr 1; omega) (by simp only [List.length_append, hlA1, hlA2, hlB1]; congr 1; omega) hl]
        simp
      · have : (decide (((P.length + t : Nat) : Int) < m) && decide (m < ((P.length + A.length + u : Nat) : Int))) = false := by
          rw [Bool.eq_false_iff]; intro h; simp at h; apply hc; omega
        rw [this, cond_false, hd]
        congr 1
        by_cases h0 : t < A.length
        · have : u = 0 := by omega
          subst this; simp
        · have hz : A.drop t = [] := List.drop_eq_nil_of_le (by omega)
          simp only [hz, List.append_nil, List.append_assoc, List.nil_append]
    rw [hrot]
    have hne1 : decide (A.take t ≠ [] ∧ B.take u ≠ []) = (decide (a < ((P.length + t : Nat) : Int)) && decide (((P.length + t : Nat) : Int) < (mid : Int))) := by
      have q1 : A.take t ≠ [] ↔ 0 < t := by rw [← List.length_pos_iff, hlA1]
      have q2 : B.take u ≠ [] ↔ 0 < u := by rw [← List.length_pos_iff, hlB1]
      rw [Bool.eq_iff_iff]; simp [q1, q2]; omega
    have hne2 : decide (A.drop t ≠ [] ∧ B.drop u ≠ []) = (decide ((mid : Int) < ((P.length + A.length + u : Nat) : Int)) && decide (((P.length + A.length + u : Nat) : Int) < b)) := by
      have q1 : A.drop t ≠ [] ↔ t < A.length := by rw [← List.length_pos_iff, hlA2]; omega
      have q2 : B.drop u ≠ [] ↔ u < B.length := by rw [← List.length_pos_iff, hlB2]; omega
      rw [Bool.eq_iff_iff]; simp [q1, q2]; omega
    rw [hne1, hne2, hlA1, hlB1, hlA2]
    have f1 : a + ((t : Nat) : Int) = ((P.length + t : Nat) : Int) := by omega
    have f2 : a + ((t + u : Nat) : Int) = (mid : Int) := by omega
    have f3 : a + ((t + u + (A.length - t) : Nat) : Int) = ((P.length + A.length + u : Nat) : Int) := by omega
    rw [f1, f2, f3]
    simp only [mZ, vB]
    cases (decide (a < ((P.length + t : Nat) : Int)) && decide (((P.length + t : Nat) : Int) < (mid : Int))) <;> simp only [cond_true, cond_false, Option.bind_some, Option.bind_fun_some]

end sym
end Go.Abs
namespace Go.Abs
open Go
variable {α : Type} [Inhabited α] {ok : α → Prop} {le : α → α → Prop} {cmp : α → α → Option Int}
theorem UY (C : Cmp ok le cmp) {P A B S : List α} {a m b : Int} (hA : A ≠ []) (hB : B ≠ []) (oA : Oks ok A) (oB : Oks ok B) (sA : Srt le A) (sB : Srt le B)
    (ha : a = (P.length : Nat)) (hm : m = ((P.length + A.length : Nat) : Int)) (hb : b = ((P.length + A.length + B.length : Nat) : Int)) (hl : (P ++ A ++ B ++ S).length ≤ 1099511627776) : ML cmp le P A B S (P ++ A ++ B ++ S) a m b := by
  by_cases h1 : A.length = 1
  · obtain ⟨x, rfl⟩ := List.length_eq_one_iff.1 h1
    left
    obtain ⟨r, h, h'⟩ := QC C (P := P) (S := S) (x := x) (oA x (by simp)) oB sB ha (by simpa using hm) (by simpa using hb) (by simpa using hl)
    exact ⟨r, h, fun rec => by have := h' rec; simpa using this⟩
  · by_cases h2 : B.length = 1
    · obtain ⟨x, rfl⟩ := List.length_eq_one_iff.1 h2
      left
      obtain ⟨r, h, h'⟩ := RX C (P := P) (S := S) (x := x) (oB x (by simp)) oA sA h1 ha hm (by simpa using hb) (by simpa using hl)
      exact ⟨r, h, fun rec => by have := h' rec; simpa using this⟩
    · have p1 := List.length_pos_iff.2 hA
      have p2 := List.length_pos_iff.2 hB
      exact UT C oA oB sA sB (by omega) (by omega) ha hm hb hl

theorem CY (C : Cmp ok le cmp) : ∀ (k : Nat) (P A B S : List α) (a m b : Int), A ≠ [] → B ≠ [] → Oks ok A → Oks ok B → Srt le A → Srt le B →
    a = (P.length : Nat) → m = ((P.length + A.length : Nat) : Int) → b = ((P.length + A.length + B.length : Nat) : Int) → (P ++ A ++ B ++ S).length ≤ 1099511627776 →
    (∀ r, dH cmp k (P ++ A ++ B ++ S) a m b = some r → DW le P A B S r) ∧ (A.length + B.length ≤ k → ∃ r, dH cmp k (P ++ A ++ B ++ S) a m b = some r)
  | 0, P, A, B, S, a, m, b, hA, hB, oA, oB, sA, sB, ha, hm, hb, hl => by
    refine ⟨fun r h => by simp [dH] at h, fun h => ?_⟩
    exact absurd (List.length_eq_zero_iff.1 (by omega)) hA
  | k + 1, P, A, B, S, a, m, b, hA, hB, oA, oB, sA, sB, ha, hm, hb, hl => by
    have part : ∀ (P' A' B' S' : List α) (a' m' b' : Int), Oks ok A' → Oks ok B' → Srt le A' → Srt le B' → a' = (P'.length : Nat) → m' = ((P'.length + A'.length : Nat) : Int) → b' = ((P'.length + A'.length + B'.length : Nat) : Int) → (P' ++ A' ++ B' ++ S').length ≤ 1099511627776 →
        (∀ r, cond (decide (A' ≠ [] ∧ B' ≠ [])) (dH cmp k (P' ++ A' ++ B' ++ S') a' m' b') (some (P' ++ A' ++ B' ++ S')) = some r → DW le P' A' B' S' r) ∧
        (A'.length + B'.length ≤ k → ∃ r, cond (decide (A' ≠ [] ∧ B' ≠ [])) (dH cmp k (P' ++ A' ++ B' ++ S') a' m' b') (some (P' ++ A' ++ B' ++ S')) = some r) := by
      intro P' A' B' S' a' m' b' oA' oB' sA' sB' ha' hm' hb' hl'
      by_cases h : A' ≠ [] ∧ B' ≠ []
      · rw [decide_eq_true h, cond_true]
        exact CY C k P' A' B' S' a' m' b' h.1 h.2 oA' oB' sA' sB' ha' hm' hb' hl'
      · rw [decide_eq_false h, cond_false]
        refine ⟨fun r hr => ?_, fun _ => ⟨_, rfl⟩⟩
        cases hr
        refine ⟨A' ++ B', List.Perm.refl _, ?_, by simp⟩
        by_cases h1 : A' = []
        · subst h1; simpa using sB'
        · have h2 : B' = [] := Classical.byContradiction fun h2 => h ⟨h1, h2⟩
          subst h2; simpa using sA'
    rcases UY C hA hB oA oB sA sB ha hm hb hl with ⟨r, hr, hs⟩ | ⟨A1, A2, B1, B2, rfl, rfl, p1, p2, hcross, hs⟩
    · have e : dH cmp (k + 1) (P ++ A ++ B ++ S) a m b = some r := hs _
      exact ⟨fun r' h => by rw [e] at h; cases h; exact hr, fun _ => ⟨r, e⟩⟩
    · have e := hs (dH cmp k)
      rw [show dG cmp (dH cmp k) = dH cmp (k + 1) from rfl] at e
      have q1 := part P A1 B1 (A2 ++ B2 ++ S) a (a + (A1.length : Nat)) (a + ((A1.length + B1.length : Nat) : Int)) (fun x hx => oA x (by simp [hx])) (fun x hx => oB x (by simp [hx]))
        (List.pairwise_append.1 sA).1 (List.pairwise_append.1 sB).1 ha (by omega) (by omega) (by simp only [List.length_append] at hl ⊢; omega)
      have hd1 : P ++ A1 ++ B1 ++ A2 ++ B2 ++ S = P ++ A1 ++ B1 ++ (A2 ++ B2 ++ S) := by simp
      rw [hd1] at e
      have q2 : ∀ D1 : List α, D1.Perm (A1 ++ B1) → _ := fun D1 hD1 => part (P ++ D1) A2 B2 S (a + ((A1.length + B1.length : Nat) : Int)) (a + ((A1.length + B1.length + A2.length : Nat) : Int)) b (fun x hx => oA x (by simp [hx])) (fun x hx => oB x (by simp [hx]))
        (List.pairwise_append.1 sA).2.1 (List.pairwise_append.1 sB).2.1 (by have := hD1.length_eq; simp only [List.length_append] at this ⊢; omega) (by have := hD1.length_eq; simp only [List.length_append] at this ⊢; omega)
        (by have := hD1.length_eq; rw [hb]; simp only [List.length_append] at this ⊢; congr 1; omega) (by have := hD1.length_eq; simp only [List.length_append] at hl this ⊢; omega)
      refine ⟨fun r h => ?_, fun hk => ?_⟩
      · rw [e] at h
        obtain ⟨x, h1, h2⟩ := Option.bind_eq_some_iff.1 h
        obtain ⟨D1, d1, d2, rfl⟩ := q1.1 x h1
        have h2' : cond (decide (A2 ≠ [] ∧ B2 ≠ [])) (dH cmp k (P ++ D1 ++ A2 ++ B2 ++ S) (a + ((A1.length + B1.length : Nat) : Int)) (a + ((A1.length + B1.length + A2.length : Nat) : Int)) b) (some (P ++ D1 ++ A2 ++ B2 ++ S)) = some r := by
          have : P ++ D1 ++ (A2 ++ B2 ++ S) = P ++ D1 ++ A2 ++ B2 ++ S := by simp
          rw [this] at h2; exact h2
        obtain ⟨D2, f1, f2, rfl⟩ := (q2 D1 d1).1 r h2'
        refine ⟨D1 ++ D2, ?_, ?_, by simp⟩
        · refine (d1.append f1).trans ?_
          have : (B1 ++ (A2 ++ B2)).Perm (A2 ++ (B1 ++ B2)) := by
            have := (List.perm_append_comm (l₁ := B1) (l₂ := A2)).append_right B2
            simpa using this
          have := this.append_left A1
          simpa using this
        · rw [Srt, List.pairwise_append]
          exact ⟨d2, f2, fun x hx y hy => hcross x (d1.mem_iff.1 hx) y (f1.mem_iff.1 hy)⟩
      · simp only [List.length_append] at hk
        obtain ⟨x, hx⟩ := q1.2 (by omega)
        obtain ⟨D1, d1, d2, rfl⟩ := q1.1 x hx
        obtain ⟨r, hr⟩ := (q2 D1 d1).2 (by omega)
        refine ⟨r, ?_⟩
        rw [e, hx]
        have : P ++ D1 ++ (A2 ++ B2 ++ S) = P ++ D1 ++ A2 ++ B2 ++ S := by simp
        rw [this]; exact hr

theorem NJ {β : Type} {g : Nat → Option β} (h : ∃ k r, g k = some r) : ∃ r, DE g = some r := by
  unfold DE
  rw [dif_pos h]
  exact Classical.choose_spec h

theorem QX (C : Cmp ok le cmp) {P A B S d : List α} {a m b : Int} (hd : d = P ++ A ++ B ++ S) (hA : A ≠ []) (hB : B ≠ []) (oA : Oks ok A) (oB : Oks ok B) (sA : Srt le A) (sB : Srt le B)
    (ha : a = (P.length : Nat)) (hm : m = ((P.length + A.length : Nat) : Int)) (hb : b = ((P.length + A.length + B.length : Nat) : Int)) (hl : d.length ≤ 1099511627776) :
    ∃ D, D.Perm (A ++ B) ∧ Srt le D ∧ mL d a m b cmp = some (P ++ D ++ S) := by
  subst hd
  unfold mL
  obtain ⟨r, hr⟩ := (CY C (A.length + B.length) P A B S a m b hA hB oA oB sA sB ha hm hb hl).2 (Nat.le_refl _)
  obtain ⟨r', hr'⟩ := NJ (g := fun k => dH cmp k (P ++ A ++ B ++ S) a m b) ⟨_, r, hr⟩
  obtain ⟨k, hk⟩ := AS hr'
  obtain ⟨D, d1, d2, rfl⟩ := (CY C k P A B S a m b hA hB oA oB sA sB ha hm hb hl).1 r' hk
  exact ⟨D, d1, d2, hr'⟩

inductive kZ {β : Type} (le : β → β → Prop) (n : Nat) : List β → Prop
  | last {l : List β} : l.length ≤ n → Srt le l → kZ le n l
  | cons {x l : List β} : x.length = n → Srt le x → kZ le n l → kZ le n (x ++ l)

theorem kZ.srt {β : Type} {le : β → β → Prop} {n : Nat} {l : List β} (h : kZ le n l) (hl : l.length ≤ n) : Srt le l := by
  cases h with
  | last _ h => exact h
  | cons hx hs hr =>
    rename_i x r
    have : r = [] := List.length_eq_zero_iff.1 (by simp only [List.length_append] at hl; omega)
    subst this; simpa using hs

theorem kZ.split {β : Type} {le : β → β → Prop} {n : Nat} {l : List β} (h : kZ le n l) (hl : n < l.length) : ∃ x r, l = x ++ r ∧ x.length = n ∧ Srt le x ∧ kZ le n r := by
  cases h with
  | last h' _ => omega
  | cons hx hs hr => exact ⟨_, _, rfl, hx, hs, hr⟩

theorem kZ.WA {β : Type} {le : β → β → Prop} {n : Nat} {l : List β} (hn : 0 < n) (h : kZ le n l) (hl : 2 * n ≤ l.length) : ∃ x y r, l = x ++ y ++ r ∧ x.length = n ∧ y.length = n ∧ Srt le x ∧ Srt le y ∧ kZ le n r := by
  obtain ⟨x, r, rfl, h1, h2, h3⟩ := h.split (by omega)
  simp only [List.length_append] at hl
  by_cases he : r.length = n
  · exact ⟨x, r, [], by simp, h1, he, h2, h3.srt (by omega), kZ.last (by simp) List.Pairwise.nil⟩
  · obtain ⟨y, r', rfl, e1, e2, e3⟩ := h3.split (by omega)
    exact ⟨x, y, r', by simp, h1, e1, h2, e2, e3⟩

theorem Oks.perm {β : Type} {ok : β → Prop} {l l' : List β} (h : Oks ok l) (hp : l'.Perm l) : Oks ok l' := fun x hx => h x (hp.mem_iff.1 hx)

theorem VT (C : Cmp ok le cmp) {n1 : Int} : ∀ (n : Nat) (F G : List α), G.length ≤ n → Oks ok G → n1 = ((F.length + G.length : Nat) : Int) → (F ++ G).length ≤ 1099511627776 →
    ∃ G1 G2, (G1 ++ G2).Perm G ∧ G2.length < 20 ∧ (∀ H, H.length ≤ 20 → Srt le H → kZ le 20 (G1 ++ H)) ∧
      lp (fun s : List α × Int × Int => kH cmp n1 20 s.1 s.2.1 s.2.2) (F ++ G, ((F.length : Nat) : Int), ((F.length + 20 : Nat) : Int)) = some (F ++ G1 ++ G2, ((F.length + G1.length : Nat) : Int)) := by
  intro n
  induction n with
  | zero =>
    intro F G hn hG h1 hl
    refine ⟨[], G, by simp, by omega, fun H h2 h3 => kZ.last (by simpa using h2) (by simpa using h3), ?_⟩
    rw [cK (r := (F ++ G, ((F.length : Nat) : Int)))]
    · simp
    · have : decide (((F.length + 20 : Nat) : Int) ≤ n1) = false := by subst h1; simp; omega
      simp only [kH, this, cond_false]
  | succ n ih =>
    intro F G hn hG h1 hl
    by_cases hg : G.length < 20
    · refine ⟨[], G, by simp, by omega, fun H h2 h3 => kZ.last (by simpa using h2) (by simpa using h3), ?_⟩
      rw [cK (r := (F ++ G, ((F.length : Nat) : Int)))]
      · simp
      · have : decide (((F.length + 20 : Nat) : Int) ≤ n1) = false := by subst h1; simp; omega
        simp only [kH, this, cond_false]
    · obtain ⟨X, R, rfl, hX⟩ : ∃ X R, G = X ++ R ∧ X.length = 20 := ⟨G.take 20, G.drop 20, (List.take_append_drop _ _).symm, by rw [List.length_take]; omega⟩
      simp only [List.length_append] at hn hl h1 hg
      obtain ⟨D, d1, d2, d3⟩ := PY C (P := F) (A := X) (T := R) (a := ((F.length : Nat) : Int)) (b := ((F.length + 20 : Nat) : Int)) rfl (by rw [hX]) (fun x hx => hG x (by simp [hx])) (by simp only [List.length_append]; omega)
      have hD : D.length = 20 := by rw [d1.length_eq, hX]
      obtain ⟨G1, G2, g1, g2, g3, g4⟩ := ih (F ++ D) R (by omega) (fun x hx => hG x (by simp [hx])) (by rw [h1]; simp only [List.length_append]; congr 1; omega) (by simp only [List.length_append]; omega)
      refine ⟨D ++ G1, G2, ?_, g2, fun H h2 h3 => ?_, ?_⟩
      · have := d1.append g1
        simpa using this
      · rw [List.append_assoc]; exact kZ.cons hD d2 (g3 H h2 h3)
      · have hb : (fun s : List α × Int × Int => kH cmp n1 20 s.1 s.2.1 s.2.2) (F ++ (X ++ R), ((F.length : Nat) : Int), ((F.length + 20 : Nat) : Int)) = some (.inl (F ++ D ++ R, (((F ++ D).length : Nat) : Int), (((F ++ D).length + 20 : Nat) : Int))) := by
          show kH cmp n1 20 _ _ _ = _
          have : decide (((F.length + 20 : Nat) : Int) ≤ n1) = true := by subst h1; simp; omega
          simp only [kH, this, cond_true]
          rw [show F ++ (X ++ R) = F ++ X ++ R by simp, d3]
          simp only [Option.bind_some, List.length_append, hD]
          rw [wr (by omega) (by omega)]
          congr 1
        rw [fN hb, g4]
        simp only [List.length_append, List.append_assoc]
        congr 2
        congr 1; omega

theorem WM (C : Cmp ok le cmp) {n1 : Int} {bs : Nat} (hbs : 0 < bs) (hbs' : bs ≤ 1099511627776) : ∀ (n : Nat) (F G : List α), G.length ≤ n → Oks ok G → kZ le bs G → n1 = ((F.length + G.length : Nat) : Int) → (F ++ G).length ≤ 1099511627776 →
    ∃ G1 G2, (G1 ++ G2).Perm G ∧ G2.length < 2 * bs ∧ kZ le bs G2 ∧ (∀ H, H.length ≤ 2 * bs → Srt le H → kZ le (2 * bs) (G1 ++ H)) ∧
      lp (fun s : List α × Int × Int => kJ cmp n1 (bs : Int) s.1 s.2.1 s.2.2) (F ++ G, ((F.length : Nat) : Int), ((F.length + 2 * bs : Nat) : Int)) = some (F ++ G1 ++ G2, ((F.length + G1.length : Nat) : Int)) := by
  have stop : ∀ (F G : List α), kZ le bs G → G.length < 2 * bs → n1 = ((F.length + G.length : Nat) : Int) → ∃ G1 G2, (G1 ++ G2).Perm G ∧ G2.length < 2 * bs ∧ kZ le bs G2 ∧ (∀ H, H.length ≤ 2 * bs → Srt le H → kZ le (2 * bs) (G1 ++ H)) ∧
      lp (fun s : List α × Int × Int => kJ cmp n1 (bs : Int) s.1 s.2.1 s.2.2) (F ++ G, ((F.length : Nat) : Int), ((F.length + 2 * bs : Nat) : Int)) = some (F ++ G1 ++ G2, ((F.length + G1.length : Nat) : Int)) := by
    intro F G hG hg h1
    refine ⟨[], G, by simp, hg, hG, fun H h2 h3 => kZ.last (by simpa using h2) (by simpa using h3), ?_⟩
    rw [cK (r := (F ++ G, ((F.length : Nat) : Int)))]
    · simp
    · have : decide (((F.length + 2 * bs : Nat) : Int) ≤ n1) = false := by subst h1; simp; omega
      show kJ cmp n1 _ _ _ _ = _
      simp only [kJ, this, cond_false]
  intro n
  induction n with
  | zero => intro F G hn _ hB h1 _; exact stop F G hB (by omega) h1
  | succ n ih =>
    intro F G hn hG hB h1 hl
    by_cases hg : G.length < 2 * bs
    · exact stop F G hB hg h1
    · obtain ⟨x, y, R, rfl, x1, y1, sx, sy, hR⟩ := hB.WA hbs (by omega)
      simp only [List.length_append] at hn hl h1 hg
      obtain ⟨D, d1, d2, d3⟩ := QX C (P := F) (A := x) (B := y) (S := R) (d := F ++ (x ++ y ++ R)) (a := ((F.length : Nat) : Int)) (m := ((F.length + bs : Nat) : Int)) (b := ((F.length + 2 * bs : Nat) : Int)) (by simp) (fun h => by rw [h] at x1; simp at x1; omega) (fun h => by rw [h] at y1; simp at y1; omega)
        (fun z hz => hG z (by simp [hz])) (fun z hz => hG z (by simp [hz])) sx sy rfl (by rw [x1]) (by rw [x1, y1]; congr 1; omega) (by simp only [List.length_append]; omega)
      have hD : D.length = 2 * bs := by rw [d1.length_eq]; simp only [List.length_append]; omega
      obtain ⟨G1, G2, g1, g2, g3, g4, g5⟩ := ih (F ++ D) R (by omega) (fun z hz => hG z (by simp [hz])) hR (by rw [h1]; simp only [List.length_append]; congr 1; omega) (by simp only [List.length_append]; omega)
      refine ⟨D ++ G1, G2, ?_, g2, g3, fun H h2 h3 => ?_, ?_⟩
      · have := d1.append g1
        simpa using this
      · rw [List.append_assoc]; exact kZ.cons hD d2 (g4 H h2 h3)
      · have hb : (fun s : List α × Int × Int => kJ cmp n1 (bs : Int) s.1 s.2.1 s.2.2) (F ++ (x ++ y ++ R), ((F.length : Nat) : Int), ((F.length + 2 * bs : Nat) : Int)) = some (.inl (F ++ D ++ R, (((F ++ D).length : Nat) : Int), (((F ++ D).length + 2 * bs : Nat) : Int))) := by
          show kJ cmp n1 _ _ _ _ = _
          have : decide (((F.length + 2 * bs : Nat) : Int) ≤ n1) = true := by subst h1; simp; omega
          have w1 : IntKind.i64.wrap (((F.length : Nat) : Int) + (bs : Int)) = ((F.length + bs : Nat) : Int) := by rw [wr (by omega) (by omega)]; omega
          have w2 : IntKind.i64.wrap (2 * (bs : Int)) = 2 * (bs : Int) := wr (by omega) (by omega)
          have w3 : IntKind.i64.wrap (((F.length + 2 * bs : Nat) : Int) + 2 * (bs : Int)) = ((F.length + 2 * bs + 2 * bs : Nat) : Int) := by rw [wr (by omega) (by omega)]; omega
          simp only [kJ, this, cond_true, w1, w2, w3, d3, Option.bind_some, List.length_append, hD]
        rw [fN hb, g5]
        simp only [List.length_append, List.append_assoc]
        congr 2
        congr 1; omega

theorem OS (C : Cmp ok le cmp) {d : List α} {bs : Nat} (hbs : 0 < bs) (hbs' : bs < d.length) (ho : Oks ok d) (hB : kZ le bs d) (hl : d.length ≤ 1099511627776) :
    ∃ r, r.Perm d ∧ kZ le (2 * bs) r ∧ iC cmp ((d.length : Nat) : Int) d (bs : Int) = some (.inl (r, ((2 * bs : Nat) : Int))) := by
  obtain ⟨G1, G2, g1, g2, g3, g4, g5⟩ := WM C (n1 := ((d.length : Nat) : Int)) hbs (by omega) d.length [] d (Nat.le_refl _) ho hB (by simp) (by simpa using hl)
  have hlen := g1.length_eq
  simp only [List.length_append] at hlen
  have w2 : IntKind.i64.wrap (2 * (bs : Int)) = ((2 * bs : Nat) : Int) := by rw [wr (by omega) (by omega)]; omega
  have w4 : IntKind.i64.wrap ((bs : Int) * 2) = ((2 * bs : Nat) : Int) := by rw [wr (by omega) (by omega)]; omega
  have hlt : decide ((bs : Int) < ((d.length : Nat) : Int)) = true := by simp; omega
  simp only [List.nil_append, List.length_nil, Nat.zero_add, Int.natCast_zero] at g5
  have w1 : IntKind.i64.wrap (((G1.length : Nat) : Int) + (bs : Int)) = ((G1.length + bs : Nat) : Int) := by rw [wr (by omega) (by omega)]; omega
  by_cases hg : bs < G2.length
  · obtain ⟨x, y, rfl, x1, sx, hy⟩ := g3.split hg
    simp only [List.length_append] at g2 hg hlen
    have sy : Srt le y := hy.srt (by omega)
    have og : Oks ok (G1 ++ (x ++ y)) := ho.perm g1
    obtain ⟨D, d1, d2, d3⟩ := QX C (P := G1) (A := x) (B := y) (S := []) (d := G1 ++ (x ++ y)) (a := ((G1.length : Nat) : Int)) (m := ((G1.length + bs : Nat) : Int)) (b := ((d.length : Nat) : Int)) (by simp) (fun h => by rw [h] at x1; simp at x1; omega) (fun h => by rw [h] at hg; simp at hg; omega)
      (fun z hz => og z (by simp [hz])) (fun z hz => og z (by simp [hz])) sx sy rfl (by rw [x1]) (by congr 1; omega) (by simp only [List.length_append]; omega)
    refine ⟨G1 ++ D, ?_, ?_, ?_⟩
    · exact (d1.append_left G1).trans g1
    · exact g4 D (by rw [d1.length_eq]; simp only [List.length_append]; omega) d2
    · have hc : decide (((G1.length + bs : Nat) : Int) < ((d.length : Nat) : Int)) = true := by simp; omega
      simp only [iC, hlt, cond_true, w2, rJ, g5, Option.bind_some, rA, w1, hc, d3, uK, w4]
      simp
  · refine ⟨G1 ++ G2, g1, g4 G2 (by omega) (g3.srt (by omega)), ?_⟩
    have hc : decide (((G1.length + bs : Nat) : Int) < ((d.length : Nat) : Int)) = false := by simp; omega
    simp only [iC, hlt, cond_true, w2, rJ, g5, Option.bind_some, rA, w1, hc, cond_false, uK, w4]

theorem PU (C : Cmp ok le cmp) : ∀ (n : Nat) (d : List α) (bs : Nat), d.length - bs ≤ n → 0 < bs → Oks ok d → kZ le bs d → d.length ≤ 1099511627776 →
    ∃ r, r.Perm d ∧ Srt le r ∧ lp (fun s : List α × Int => iC cmp ((d.length : Nat) : Int) s.1 s.2) (d, (bs : Int)) = some r := by
  have stop : ∀ (d : List α) (bs : Nat), d.length ≤ bs → kZ le bs d → ∃ r, r.Perm d ∧ Srt le r ∧ lp (fun s : List α × Int => iC cmp ((d.length : Nat) : Int) s.1 s.2) (d, (bs : Int)) = some r := by
    intro d bs h hB
    refine ⟨d, List.Perm.refl _, hB.srt h, cK ?_⟩
    show iC cmp _ _ _ = _
    have : decide ((bs : Int) < ((d.length : Nat) : Int)) = false := by simp; omega
    simp only [iC, this, cond_false]
  intro n
  induction n with
  | zero => intro d bs hn _ _ hB _; exact stop d bs (by omega) hB
  | succ n ih =>
    intro d bs hn hbs ho hB hl
    by_cases h : d.length ≤ bs
    · exact stop d bs h hB
    · obtain ⟨r, r1, r2, r3⟩ := OS C hbs (by omega) ho hB hl
      obtain ⟨r', e1, e2, e3⟩ := ih r (2 * bs) (by rw [r1.length_eq]; omega) (by omega) (ho.perm r1) r2 (by rw [r1.length_eq]; exact hl)
      rw [r1.length_eq] at e3
      refine ⟨r', e1.trans r1, e2, ?_⟩
      rw [fN (show (fun s : List α × Int => iC cmp ((d.length : Nat) : Int) s.1 s.2) (d, (bs : Int)) = _ from r3)]
      exact e3

theorem GF (C : Cmp ok le cmp) {d : List α} (ho : Oks ok d) (hl : d.length ≤ 1099511627776) : ∃ r, r.Perm d ∧ Srt le r ∧ sI d ((d.length : Nat) : Int) cmp = some r := by
  obtain ⟨G1, G2, g1, g2, g3, g4⟩ := VT C (n1 := ((d.length : Nat) : Int)) d.length [] d (Nat.le_refl _) ho (by simp) (by simpa using hl)
  have hlen := g1.length_eq
  simp only [List.length_append] at hlen
  have og := ho.perm g1
  obtain ⟨D, d1, d2, d3⟩ := PY C (P := G1) (A := G2) (T := []) (a := ((G1.length : Nat) : Int)) (b := ((d.length : Nat) : Int)) rfl (by congr 1; omega) (fun z hz => og z (by simp [hz])) (by simp only [List.length_append, List.length_nil]; omega)
  have hp : (G1 ++ D).Perm d := (d1.append_left G1).trans g1
  obtain ⟨r, r1, r2, r3⟩ := PU C (G1 ++ D).length (G1 ++ D) 20 (by omega) (by omega) (ho.perm hp) (g3 D (by rw [d1.length_eq]; omega) d2) (by rw [hp.length_eq]; exact hl)
  refine ⟨r, r1.trans hp, r2, ?_⟩
  simp only [List.nil_append, List.length_nil, Nat.zero_add, Int.natCast_zero] at g4
  unfold sI uL
  have g4' : lp (fun s : List α × Int × Int => kH cmp ((d.length : Nat) : Int) 20 s.1 s.2.1 s.2.2) (d, (0 : Int), (20 : Int)) = some (G1 ++ G2, ((G1.length : Nat) : Int)) := g4
  rw [g4']
  simp only [Option.bind_some, uJ]
  rw [show G1 ++ G2 = G1 ++ G2 ++ [] by simp, d3]
  simp only [Option.bind_some, uM, List.append_nil]
  rw [hp.length_eq] at r3
  have r3' : lp (fun s : List α × Int => iC cmp ((d.length : Nat) : Int) s.1 s.2) (G1 ++ D, (20 : Int)) = some r := r3
  rw [r3']; rfl

end Go.Abs
namespace Go.Abs
open Go
def BK (n : Int) : Bool := decide (n ≤ 1048576) && decide (-1048576 ≤ n)

theorem ME (n : Int) : rC n = some (BK n) := rfl

def CR (last : Int) (j : aB) : Bool := decide (j.At ≤ last) || decide (1125899906842624 ≤ j.At) || decide (j.Net = 0) || !BK j.Net

def chk (last : Int) : List aB → Bool
  | [] => true
  | j :: r => !CR last j && chk j.At r

def kN (f : List aB) : Bool := decide (f.length ≤ 1024) && chk (-2) f

theorem JE {f : List aB} {i : Nat} {a : aB} {last : Int} (ha : f[i]? = some a) (hl : f.length < 4611686018427387904) :
    kG f (f.length : Nat) last i = some (if CR last a then .inr (.inr false) else .inl (a.At, ((i + 1 : Nat) : Int))) := by
  obtain ⟨d1, d2, d3, d4⟩ := idx ha hl
  simp only [kG, d1, cond_true, bB d2, d3, d4, ME]
  unfold CR
  cases h : (decide (a.At ≤ last) || decide (1125899906842624 ≤ a.At) || decide (a.Net = 0)) <;> cases h2 : BK a.Net <;> simp [kP]

theorem JX : ∀ (f : List aB) (last : Int), rQ (fun last (j : aB) => some (if CR last j then .inr (.inr false) else .inl j.At)) (fun _ => (.inl () : Unit ⊕ Bool)) last f = some (if chk last f then .inl () else .inr false)
  | [], last => by simp [rQ, chk]
  | j :: r, last => by
    cases h : CR last j
    · rw [OB (s' := j.At) (by simp [h])]
      rw [JX r j.At]
      simp [chk, h]
    · rw [NI (x := .inr false) (by simp [h])]
      simp [chk, h]

theorem EW (f : List aB) : mF f = some (kN f) := by
  unfold mF kN
  by_cases hl : f.length ≤ 1024
  · have h1 : decide ((1024 : Int) < ((f.length : Nat) : Int)) = false := by simp; omega
    rw [h1, cond_false]
    unfold uH
    have key := RS (l := f) (body := fun s : Int × Int => kG f (f.length : Nat) s.1 s.2) (fun last i => (last, i)) _ _
      (fun i a s ha => by
        constructor
        · intro s' hs
          show kG f (f.length : Nat) s i = _
          rw [JE ha (by omega)]
          split at hs <;> simp_all
        · intro x hs
          show kG f (f.length : Nat) s i = _
          rw [JE ha (by omega)]
          split at hs <;> simp_all)
      (fun s => by show kG f (f.length : Nat) s (f.length : Nat) = _; simp only [kG, kS, cond_false]) (JX f (-2))
    rw [key]
    cases h : chk (-2) f <;> simp [rG, hl]
  · have h1 : decide ((1024 : Int) < ((f.length : Nat) : Int)) = true := by simp; omega
    rw [h1, cond_true]
    simp [hl]

theorem NY {last : Int} {j : aB} : CR last j = false ↔ last < j.At ∧ j.At < 1125899906842624 ∧ j.Net ≠ 0 ∧ j.Net ≤ 1048576 ∧ -1048576 ≤ j.Net := by
  simp [CR, BK]
  omega

def tF (last : Int) : List aB → Prop
  | [] => True
  | j :: r => (last < j.At ∧ j.At < 1125899906842624 ∧ j.Net ≠ 0 ∧ j.Net ≤ 1048576 ∧ -1048576 ≤ j.Net) ∧ tF j.At r

theorem MS : ∀ {f : List aB} {last : Int}, chk last f = true ↔ tF last f
  | [], last => by simp [chk, tF]
  | j :: r, last => by simp [chk, tF, NY, MS]

theorem sL {f : List aB} : kN f = true ↔ f.length ≤ 1024 ∧ tF (-2) f := by simp [kN, MS]

theorem tF.above : ∀ {f : List aB} {last : Int}, tF last f → ∀ j ∈ f, last < j.At ∧ j.At < 1125899906842624 ∧ j.Net ≠ 0 ∧ j.Net ≤ 1048576 ∧ -1048576 ≤ j.Net
  | [], _, _, j, hj => by simp at hj
  | a :: r, last, h, j, hj => by
    rcases List.mem_cons.1 hj with rfl | hj
    · exact h.1
    · have := h.2.above j hj
      have h1 := h.1.1
      exact ⟨by omega, this.2⟩

def val (f : List aB) (t : Int) : Int := (f.map fun j => if j.At ≤ t then j.Net else 0).sum

theorem pI (t : Int) : val [] t = 0 := rfl

theorem cF (j : aB) (r : List aB) (t : Int) : val (j :: r) t = (if j.At ≤ t then j.Net else 0) + val r t := by simp [val]

theorem zC (f g : List aB) (t : Int) : val (f ++ g) t = val f t + val g t := by simp [val]

theorem uX {f : List aB} {t : Int} (h : ∀ j ∈ f, t < j.At) : val f t = 0 := by
  induction f with
  | nil => rfl
  | cons j r ih =>
    rw [cF, ih (fun k hk => h k (List.mem_cons_of_mem _ hk))]
    have := h j (List.mem_cons_self ..)
    rw [if_neg (by omega)]; rfl

theorem UZ (f : List aB) : oZ f = some (if kN f then (f, 0) else ([], 7)) := by
  unfold oZ
  rw [EW]
  cases h : kN f <;> simp

end Go.Abs
namespace Go.Abs
open Go
section both
variable {op : Int → Int → Option Int} {f g r : List aB} {out : List aB} {a b was t : Int} {j : aB}
end both
def emit (p v was : Int) : List aB := if v = was then [] else [⟨p, v - was⟩]

def uI (was : Int) : List (Int × Int) → List aB
  | [] => []
  | x :: r => emit x.1 x.2 was ++ uI x.2 r

def merge (f g : List aB) (a b : Int) : List (Int × Int × Int) :=
  match f, g with
  | [], [] => []
  | j :: f, [] => (j.At, a + j.Net, b) :: merge f [] (a + j.Net) b
  | [], k :: g => (k.At, a, b + k.Net) :: merge [] g a (b + k.Net)
  | j :: f, k :: g =>
    if j.At < k.At then (j.At, a + j.Net, b) :: merge f (k :: g) (a + j.Net) b
    else if k.At < j.At then (k.At, a, b + k.Net) :: merge (j :: f) g a (b + k.Net)
    else (j.At, a + j.Net, b + k.Net) :: merge f g (a + j.Net) (b + k.Net)

termination_by f.length + g.length
end Go.Abs
namespace Go.Abs
open Go
def comb (OP : Int → Int → Int) (f g : List aB) : List aB := uI 0 ((merge f g 0 0).map fun x => (x.1, OP x.2.1 x.2.2))

def told (f : List aB) : List aB × Int := if kN f then (f, 0) else ([], 7)

theorem RV (f : List aB) : oZ f = some (told f) := UZ f

def two (OP : Int → Int → Int) (f g : List aB) : List aB × Int := if kN f && kN g then told (comb OP f g) else ([], 2)

end Go.Abs
namespace Go.Abs
open Go
theorem SP (p v was t : Int) : val (emit p v was) t = if p ≤ t then v - was else 0 := by
  unfold emit
  by_cases h : v = was
  · rw [if_pos h, pI, h]; split <;> omega
  · rw [if_neg h, cF, pI]; simp

theorem tF.tZ {l t : Int} {f : List aB} (h : tF l f) (ht : t ≤ l) : val f t = 0 := uX fun j hj => by have := (h.above j hj).1; omega

end Go.Abs
namespace Go.Abs
open Go
def NL (f : List aB) : Int := (f.map aB.Net).sum

def FI (t : Int) : List aB → List aB
  | [] => []
  | j :: r => if t ≤ j.At then [] else j :: FI t r

def aft (t : Int) : List aB → List aB
  | [] => []
  | j :: r => if t ≤ j.At then j :: r else aft t r

def WC (t : Int) (f : List aB) : List aB := FI t f ++ (if NL (FI t f) = 0 then [] else [⟨t, -NL (FI t f)⟩])

def ahead (f : List aB) (t : Int) : List aB × Int :=
  if kN f then (if 1125899906842624 ≤ t then (f, 0) else told (WC t f)) else ([], 2)

end Go.Abs
namespace Go.Abs
open Go
def WT (t : Int) (f : List aB) : List aB := (if NL (FI t f) = 0 then [] else [⟨-1, NL (FI t f)⟩]) ++ aft t f

def rest (f : List aB) (t : Int) : List aB × Int :=
  if kN f then (if 1125899906842624 ≤ t then ([], 0) else if t ≤ -1 then (f, 0) else told (WT t f)) else ([], 2)

end Go.Abs
namespace Go.Abs
open Go
def Up (last : Int) : List aB → Prop
  | [] => True
  | j :: r => (last < j.At ∧ j.At < 1125899906842624 ∧ j.Net ≠ 0) ∧ Up j.At r

theorem Up.above : ∀ {f : List aB} {last : Int}, Up last f → ∀ j ∈ f, last < j.At ∧ j.At < 1125899906842624 ∧ j.Net ≠ 0
  | [], _, _, j, hj => by simp at hj
  | a :: r, last, h, j, hj => by
    rcases List.mem_cons.1 hj with rfl | hj
    · exact h.1
    · have := h.2.above j hj
      have h1 := h.1.1
      exact ⟨by omega, this.2⟩

theorem Up.tZ {l t : Int} {f : List aB} (h : Up l f) (ht : t ≤ l) : val f t = 0 := uX fun j hj => by have := (h.above j hj).1; omega

theorem Up.weaken {a b : Int} {f : List aB} (h : Up b f) (hab : a ≤ b) : Up a f := by
  cases f with
  | nil => trivial
  | cons j r => exact ⟨⟨by have := h.1.1; omega, h.1.2⟩, h.2⟩

theorem tF.up : ∀ {f : List aB} {last : Int}, tF last f → Up last f
  | [], _, _ => trivial
  | _ :: _, _, h => ⟨⟨h.1.1, h.1.2.1, h.1.2.2.1⟩, h.2.up⟩

theorem Up.ext : ∀ {f g : List aB} {last : Int}, Up last f → Up last g → (∀ t, last < t → t < 1125899906842624 → val f t = val g t) → f = g
  | [], [], _, _, _, _ => rfl
  | j :: r, [], last, hf, _, h => by
    have := h j.At hf.1.1 hf.1.2.1
    rw [cF, if_pos (Int.le_refl _), hf.2.tZ (Int.le_refl _), pI] at this
    exact absurd (by omega) hf.1.2.2
  | [], k :: s, last, _, hg, h => by
    have := h k.At hg.1.1 hg.1.2.1
    rw [cF, if_pos (Int.le_refl _), hg.2.tZ (Int.le_refl _), pI] at this
    exact absurd (by omega) hg.1.2.2
  | j :: r, k :: s, last, hf, hg, h => by
    have h1 := h j.At hf.1.1 hf.1.2.1
    have h2 := h k.At hg.1.1 hg.1.2.1
    rw [cF, if_pos (Int.le_refl _), hf.2.tZ (Int.le_refl _), cF] at h1
    rw [cF, cF k, if_pos (Int.le_refl _), hg.2.tZ (Int.le_refl _)] at h2
    have n1 := hf.1.2.2
    have n2 := hg.1.2.2
    have he : j.At = k.At := by
      rcases Int.lt_trichotomy j.At k.At with h3 | h3 | h3
      · rw [if_neg (by omega), hg.2.tZ (by omega)] at h1; omega
      · exact h3
      · rw [if_neg (by omega), hf.2.tZ (by omega)] at h2; omega
    rw [if_pos (by omega), hg.2.tZ (by omega)] at h1
    have hj : j = k := by
      obtain ⟨a, b⟩ := j; obtain ⟨c, d⟩ := k
      simp only at he h1
      simp only [Int.add_zero] at h1
      rw [he, h1]
    subst hj
    rw [hf.2.ext hg.2 (fun t ht ht' => by
      have := h t (by have := hf.1.1; omega) ht'
      rw [cF, cF] at this; omega)]

def Inc (last : Int) : List Int → Prop
  | [] => True
  | p :: r => (last < p ∧ p < 1125899906842624) ∧ Inc p r

theorem Inc.above : ∀ {ps : List Int} {last : Int}, Inc last ps → ∀ p ∈ ps, last < p ∧ p < 1125899906842624
  | [], _, _, j, hj => by simp at hj
  | a :: r, last, h, j, hj => by
    rcases List.mem_cons.1 hj with rfl | hj
    · exact h.1
    · have := h.2.above j hj
      have h1 := h.1.1
      exact ⟨by omega, this.2⟩

theorem yG : ∀ {l : List (Int × Int)} {last was : Int}, Inc last (l.map Prod.fst) → Up last (uI was l)
  | [], _, _, _ => trivial
  | x :: r, last, was, h => by
    simp only [uI]
    have ih : Up x.1 (uI x.2 r) := yG h.2
    have h1 : last < x.1 ∧ x.1 < 1125899906842624 := h.1
    unfold emit
    split
    · exact ih.weaken (by omega)
    · exact ⟨⟨h1.1, h1.2, by simp only; omega⟩, ih⟩

theorem AM {F : Int → Int} : ∀ {ps : List Int} {last : Int}, Inc last ps → (∀ s t, last ≤ s → s ≤ t → t < 1125899906842624 → (∀ p ∈ ps, ¬ (s < p ∧ p ≤ t)) → F s = F t) →
    ∀ t, last ≤ t → t < 1125899906842624 → val (uI (F last) (ps.map fun p => (p, F p))) t = F t - F last
  | [], last, _, hF, t, h1, h2 => by
    have := hF last t (Int.le_refl _) h1 h2 (by simp)
    simp [uI, val, this]
  | p :: r, last, hi, hF, t, h1, h2 => by
    simp only [List.map_cons, uI]
    rw [zC, SP]
    by_cases hp : p ≤ t
    · rw [if_pos hp, AM (F := F) hi.2 (fun s t' hs hst ht' hn => hF s t' (by have := hi.1.1; omega) hst ht' (fun q hq => by
        rcases List.mem_cons.1 hq with rfl | hq
        · omega
        · exact hn q hq)) t hp h2]
      omega
    · have := hF last t (Int.le_refl _) h1 h2 (fun q hq => by
        rcases List.mem_cons.1 hq with rfl | hq
        · omega
        · have := (hi.2.above q hq).1; omega)
      rw [if_neg hp, Up.tZ (yG (last := p) (by rw [List.map_map]; simpa [Function.comp_def] using hi.2)) (by omega)]
      omega

theorem TC {F : Int → Int} (h2 : F (-2) = 0) {ps : List Int} (hi : Inc (-2) ps) (hF : ∀ s t, -2 ≤ s → s ≤ t → t < 1125899906842624 → (∀ p ∈ ps, ¬ (s < p ∧ p ≤ t)) → F s = F t) {h : List aB} (hh : Up (-2) h) (hv : ∀ t, -2 < t → t < 1125899906842624 → val h t = F t) :
    uI 0 (ps.map fun p => (p, F p)) = h := by
  refine (yG (by rw [List.map_map]; simpa [Function.comp_def] using hi)).ext hh fun t h3 h4 => ?_
  have := AM hi hF t (by omega) h4
  rw [h2] at this
  rw [this, hv t h3 h4]; omega

end Go.Abs
namespace Go.Abs
open Go
theorem LA {f : List aB} (t : Int) (hb : ∀ j ∈ f, j.Net ≤ 1048576 ∧ -1048576 ≤ j.Net) (hl : f.length ≤ 1099511627776) : mY f t = some (val f t) := by
  unfold mY qQ
  rw [tX (l := f) (body := fun s : Int × Int => gU f t s.1 s.2) (fun v i => (v, i)) (fun v r => v + val r t)
    (fun v r => (∀ j ∈ r, j.Net ≤ 1048576 ∧ -1048576 ≤ j.Net) ∧ r.length ≤ 1099511627776 ∧ v ≤ 1048576 * (1099511627776 - r.length) ∧ -(1048576 * (1099511627776 - r.length)) ≤ v) 0 ?_ ?_ ?_]
  · simp [nT]
  · intro i a r v ha ⟨h1, h2, h3, h4⟩
    obtain ⟨d1, d2, d3, d4⟩ := idx ha (by omega)
    have hj := h1 a (List.mem_cons_self ..)
    simp only [List.length_cons] at h2 h3 h4
    left
    by_cases h : a.At ≤ t
    · refine ⟨v + a.Net, ?_, ⟨fun j hj => h1 j (List.mem_cons_of_mem _ hj), by omega, by omega, by omega⟩, ?_⟩
      · show gU f t v i = _
        have hw : IntKind.i64.wrap (v + a.Net) = v + a.Net := iF (by omega) (by omega)
        simp only [gU, mP, d1, cond_true, bB d2, d3, d4, h, decide_true, hw]
      · show v + a.Net + val r t = v + val (a :: r) t
        rw [cF, if_pos h]; omega
    · refine ⟨v, ?_, ⟨fun j hj => h1 j (List.mem_cons_of_mem _ hj), by omega, by omega, by omega⟩, ?_⟩
      · show gU f t v i = _
        simp only [gU, mP, d1, cond_true, bB d2, d3, d4, h, decide_false, cond_false]
      · show v + val r t = v + val (a :: r) t
        rw [cF, if_neg h]; omega
  · intro s _
    show gU f t s (f.length : Nat) = _
    simp only [gU, kS, cond_false]
    simp [val]
  · exact ⟨hb, hl, by omega, by omega⟩

theorem CQ {f : List aB} (h : kN f = true) : ∀ j ∈ f, j.Net ≤ 1048576 ∧ -1048576 ≤ j.Net := fun j hj => by have := (sL.1 h).2.above j hj; omega

theorem KI {f : List aB} (h : kN f = true) (t : Int) : mY f t = some (val f t) :=
  LA t (CQ h) (by have := (sL.1 h).1; omega)

def xB (t : Int) : List Int → List Int
  | [] => [t]
  | p :: r => if p = t then p :: r else if t < p then t :: p :: r else p :: xB t r

theorem GV {t x : Int} : ∀ {ps : List Int}, x ∈ xB t ps ↔ x = t ∨ x ∈ ps
  | [] => by simp [xB]
  | p :: r => by
    unfold xB
    split
    · rename_i h; subst h; simp
    · split
      · simp
      · simp only [List.mem_cons, GV (ps := r)]; constructor <;> (intro h; rcases h with h | h | h <;> simp [h])

theorem GA {t : Int} : ∀ {ps : List Int} {last : Int}, Inc last ps → last < t → t < 1125899906842624 → Inc last (xB t ps)
  | [], last, _, h1, h2 => ⟨⟨h1, h2⟩, trivial⟩
  | p :: r, last, h, h1, h2 => by
    unfold xB
    split
    · exact h
    · split
      · rename_i h3 h4
        exact ⟨⟨h1, h2⟩, ⟨h4, h.1.2⟩, h.2⟩
      · exact ⟨h.1, GA h.2 (by omega) h2⟩

def FW (ps : List Int) (f : List aB) : List Int := f.foldl (fun ps j => xB j.At ps) ps

theorem CO {x : Int} : ∀ {f : List aB} {ps : List Int}, x ∈ FW ps f ↔ x ∈ ps ∨ ∃ j ∈ f, j.At = x
  | [], ps => by simp [FW]
  | k :: r, ps => by
    have := CO (x := x) (f := r) (ps := xB k.At ps)
    unfold FW at this ⊢
    rw [List.foldl_cons, this, GV]
    constructor
    · rintro ((h | h) | ⟨j, h, h'⟩)
      · exact Or.inr ⟨k, List.mem_cons_self .., h.symm⟩
      · exact Or.inl h
      · exact Or.inr ⟨j, List.mem_cons_of_mem _ h, h'⟩
    · rintro (h | ⟨j, h, h'⟩)
      · exact Or.inl (Or.inr h)
      · rcases List.mem_cons.1 h with rfl | h
        · exact Or.inl (Or.inl h'.symm)
        · exact Or.inr ⟨j, h, h'⟩

theorem KX : ∀ {f : List aB} {ps : List Int} {last : Int}, Inc last ps → (∀ j ∈ f, last < j.At ∧ j.At < 1125899906842624) → Inc last (FW ps f)
  | [], _, _, h, _ => h
  | k :: r, ps, last, h, hf => by
    have hk := hf k (List.mem_cons_self ..)
    exact KX (f := r) (GA h hk.1 hk.2) fun j hj => hf j (List.mem_cons_of_mem _ hj)

end Go.Abs
namespace Go.Abs
open Go
def mn (a b : Int) : Int := if b < a then b else a

def parts (v : Int) : List aB → List Int
  | [] => []
  | j :: r => (v + j.Net) :: parts (v + j.Net) r

def yC (f : List aB) : Int := (f.map fun j => val f j.At).foldl mn (val f (-1))

theorem parts_eq : ∀ {f : List aB} {l v : Int}, tF l f → parts v f = f.map fun j => v + val f j.At
  | [], _, _, _ => rfl
  | j :: r, l, v, h => by
    simp only [parts, List.map_cons]
    rw [parts_eq h.2, cF, if_pos (Int.le_refl _), h.2.tZ (Int.le_refl _), Int.add_zero]
    congr 1
    apply List.map_congr_left
    intro k hk
    have := (h.2.above k hk).1
    rw [cF, if_pos (by omega)]; omega

theorem PD {j : aB} {r : List aB} (h : tF (-2) (j :: r)) : val (j :: r) (-1) = if j.At = -1 then j.Net else 0 := by
  have := h.1.1
  by_cases e : j.At = -1
  · rw [if_pos e, cF, if_pos (by omega), h.2.tZ (by omega)]; omega
  · rw [if_neg e, uX]
    intro k hk
    rcases List.mem_cons.1 hk with rfl | hk
    · omega
    · have := (h.2.above k hk).1; omega

theorem EY {f : List aB} (hf : kN f = true) (m : Int) (hm : -1125899906842624 ≤ m ∧ m ≤ 1125899906842624) : oM 0 m f (f.length : Nat) 0 = some ((f.map fun j => val f j.At).foldl mn m) := by
  obtain ⟨hl, hr⟩ := sL.1 hf
  unfold oM
  rw [tX (l := f) (body := fun s : Int × Int × Int => kT f (f.length : Nat) s.1 s.2.1 s.2.2) (fun (s : Int × Int) i => (s.1, s.2, i)) (fun s r => (parts s.1 r).foldl mn s.2)
    (fun s r => (∀ j ∈ r, j.Net ≤ 1048576 ∧ -1048576 ≤ j.Net) ∧ r.length ≤ 1024 ∧ s.1 ≤ 1048576 * (1024 - r.length) ∧ -(1048576 * (1024 - r.length)) ≤ s.1) (0, m) ?_ ?_ ?_]
  · simp only [Option.bind_some, oP, parts_eq hr, Int.zero_add]
  · rintro i a r ⟨v, m⟩ ha ⟨h1, h2, h3, h4⟩
    obtain ⟨d1, d2, d3, d4⟩ := idx ha (by omega)
    have hj := h1 a (List.mem_cons_self ..)
    simp only [List.length_cons] at h2 h3 h4
    have hw : IntKind.i64.wrap (v + a.Net) = v + a.Net := iF (by omega) (by omega)
    left
    refine ⟨(v + a.Net, mn m (v + a.Net)), ?_, ⟨fun j hj => h1 j (List.mem_cons_of_mem _ hj), by omega, by simp only; omega, by simp only; omega⟩, rfl⟩
    show kT f (f.length : Nat) v m i = _
    simp only [kT, d1, cond_true, bB d2, d3, d4, hw, mn]
  · rintro ⟨v, m⟩ _
    show kT f (f.length : Nat) v m (f.length : Nat) = _
    simp only [kT, kS, cond_false, parts, List.foldl_nil]
  · exact ⟨CQ hf, hl, by simp only; omega, by simp only; omega⟩

theorem SY (f : List aB) : pX f = some (if kN f then yC f else 0) := by
  unfold pX
  rw [EW]
  cases h : kN f
  · simp
  · cases f with
    | nil => simp [yC, val]
    | cons j r =>
      obtain ⟨hl, hr⟩ := sL.1 h
      have hne : decide (((List.length (j :: r) : Nat) : Int) = 0) = false := by simp; omega
      simp only [Option.bind_some, Bool.not_true, Bool.false_or, hne, cond_false, bB XE, VM, if_true]
      have hj := hr.1
      unfold yC
      rw [PD hr]
      by_cases e : j.At = -1
      · simp only [e, decide_true, cond_true, if_true, nA]
        exact EY h j.Net (by omega)
      · simp only [e, decide_false, cond_false, if_false, nA]
        exact EY h 0 (by omega)

theorem wW {s t : Int} (hst : s ≤ t) : ∀ {f : List aB}, (∀ j ∈ f, ¬ (s < j.At ∧ j.At ≤ t)) → val f s = val f t
  | [], _ => rfl
  | j :: r, h => by
    have hj := h j (List.mem_cons_self ..)
    rw [cF, cF, wW hst (fun k hk => h k (List.mem_cons_of_mem _ hk))]
    by_cases e : j.At ≤ s
    · rw [if_pos e, if_pos (by omega)]
    · rw [if_neg e, if_neg (by omega)]

theorem VC : kN [] = true := by decide

end Go.Abs
namespace Go.Abs
open Go
theorem w1 : IntKind.i64.wrap (0 + 1) = 1 := by rw [iF] <;> omega

theorem w2 : IntKind.i64.wrap (1 + 1) = 2 := by rw [iF] <;> omega

theorem w3 : IntKind.i64.wrap (1 - 1) = 0 := by rw [iF] <;> omega

theorem v0 : IntKind.i64.wrap 0 = 0 := by rw [iF] <;> omega

theorem v1 : IntKind.i64.wrap 1 = 1 := by rw [iF] <;> omega

theorem v2 : IntKind.i64.wrap 2 = 2 := by rw [iF] <;> omega

theorem v3 : IntKind.i64.wrap (-1) = -1 := by rw [iF] <;> omega

end Go.Abs
namespace Go.Abs
open Go
theorem SI (f : List aB) : (told f).1.length ≤ 1024 := by
  unfold told
  cases h : kN f
  · simp
  · simpa using (sL.1 h).1

end Go.Abs
namespace Go.Abs
theorem SC : @cS = @lF aB _ := rfl

theorem RH : @cZ = @dG aB _ := rfl

theorem MM (cmp) : ∀ k, @fG cmp k = @dH aB _ cmp k
  | 0 => rfl
  | k + 1 => by
    show cZ cmp _ = dG cmp _
    rw [MM cmp k, RH]

theorem SK : @dO = @mL aB _ := by
  funext d a m b cmp
  unfold dO mL
  simp only [MM]

theorem LJ : @eB = @sI aB _ := by
  funext d n cmp
  unfold eB sI fS uL
  unfold gH kH dZ uJ
  unfold fU uM fZ iC
  unfold fT rJ gE kJ
  unfold dY rA
  rw [SK, SC]
  rfl

end Go.Abs
namespace Go.Abs
open Go
variable {α : Type} [Inhabited α]
noncomputable def mQ (f1 : α → Option Bool) (s0 : (List α)) (t7 : Int) (t8 : Int) : Option ((Int) ⊕ (Unit ⊕ Int)) :=
  cond (decide (t8 < t7))
  (bD (0 ≤ t8 ∧ t8 < ((List.length s0 : Nat) : Int)) <|
  (f1 (List.getD s0 (Int.toNat t8) default)).bind fun x2 =>
  cond x2
  (some (.inr (.inr t8)))
  (some (.inl (IntKind.i64.wrap (t8 + (1 : Int))))))
  (some (.inr (.inl ())))

theorem zD {l : List α} {f : α → Option Bool} {g : α → Bool} (hl : l.length ≤ 1099511627776) (hf : ∀ x ∈ l, f x = some (g x)) : ∀ (r : List α) (k : Nat), l.drop k = r → k ≤ l.length →
    ∃ x, lp (fun s => mQ f l (l.length : Nat) s) (k : Int) = some x ∧ ((x = .inl () ∧ r.any g = false) ∨ (∃ i : Nat, x = .inr (i : Int) ∧ k ≤ i ∧ i < l.length ∧ r.any g = true ∧ g (l.getD i default) = true ∧ ∀ j, k ≤ j → j < i → g (l.getD j default) = false))
  | [], k, hd, hk => by
    have : k = l.length := by
      have := congrArg List.length hd
      simp only [List.length_drop, List.length_nil] at this; omega
    subst this
    refine ⟨.inl (), cK ?_, Or.inl ⟨rfl, rfl⟩⟩
    show mQ f l _ _ = _
    simp only [mQ, kS, cond_false]
  | a :: r, k, hd, hk => by
    obtain ⟨h1, h2⟩ := drop_cons hd
    have hlt : k < l.length := (List.getElem?_eq_some_iff.1 h1).1
    obtain ⟨d1, d2, d3, d4⟩ := idx h1 (by omega)
    have hga : l.getD k default = a := by rw [Int.toNat_natCast] at d3; exact d3
    have hb : (fun s => mQ f l (l.length : Nat) s) (k : Int) = some (if g a then .inr (.inr (k : Int)) else .inl ((k + 1 : Nat) : Int)) := by
      show mQ f l _ _ = _
      simp only [mQ, d1, cond_true, bB d2, d3, d4, hf a (List.mem_of_getElem? h1), Option.bind_some]
      cases g a <;> simp
    cases hg : g a
    · rw [hg] at hb
      obtain ⟨x, e, hx⟩ := zD hl hf r (k + 1) h2 (by omega)
      refine ⟨x, by rw [fN hb]; exact e, ?_⟩
      rcases hx with ⟨rfl, h⟩ | ⟨i, rfl, h3, h4, h5, h6, h7⟩
      · exact Or.inl ⟨rfl, by simp [hg, h]⟩
      · refine Or.inr ⟨i, rfl, by omega, h4, by simp [h5], h6, fun j hj hj' => ?_⟩
        by_cases e : j = k
        · subst e; rw [hga, hg]
        · exact h7 j (by omega) hj'
    · rw [hg] at hb
      exact ⟨.inr (k : Int), cK hb, Or.inr ⟨k, rfl, Nat.le_refl _, hlt, by simp [hg], by rw [hga, hg], fun j h h' => by omega⟩⟩

end Go.Abs
namespace Go.Abs
open Go
theorem zS {l : List aB} {f : aB → Option Bool} {g : aB → Bool} (hl : l.length ≤ 1099511627776) (hf : ∀ x ∈ l, f x = some (g x)) : cC l f = some (l.any g) := by
  unfold cC eN eH
  obtain ⟨x, e, hx⟩ := zD hl hf l 0 rfl (Nat.zero_le _)
  have e' : lp (fun s => eG f l (l.length : Nat) s) 0 = some x := e
  rw [e']
  rcases hx with ⟨rfl, h⟩ | ⟨i, rfl, _, _, h, _⟩
  · simp [cV, h]
  · simp [h]

def sU (j : aB) : Bool := !BK j.Net

def xO (j : aB) : Bool := decide (j.At < -1) || decide (1125899906842624 < j.At)

def tR (l : List aB) : List aB := uI 0 ((FW [] (l.filter fun j => decide (j.At < 1125899906842624))).map fun p => (p, val l p))

def lQ (l : List aB) : List aB × Int := if l.any sU then ([], 2) else if l.any xO then ([], 13) else told (tR l)

def uY (p n : Int) : List aB := if n ≠ 0 ∧ p < 1125899906842624 then [⟨p, n⟩] else []

def qV (p n : Int) : List aB → List aB
  | [] => uY p n
  | j :: r => if j.At = p then qV p (n + j.Net) r else uY p n ++ qV j.At j.Net r

def grp : List aB → List aB
  | [] => []
  | j :: r => qV j.At j.Net r

abbrev JH (a b : aB) : Prop := a.At ≤ b.At

theorem CZ {t : Int} (ht : t < 1125899906842624) : ∀ {r : List aB} {p n : Int}, val (qV p n r) t = (if p ≤ t then n else 0) + val r t
  | [], p, n => by
    unfold qV uY
    split
    · rw [cF, pI]
    · rw [pI]; split <;> omega
  | j :: r, p, n => by
    unfold qV
    split
    · rename_i h
      rw [CZ ht, cF, h]; split <;> omega
    · rw [zC, CZ ht, cF]
      have : val (uY p n) t = if p ≤ t then n else 0 := by
        unfold uY
        split
        · rw [cF, pI]; simp
        · rw [pI]; split <;> omega
      rw [this]

theorem UF {t : Int} (ht : t < 1125899906842624) : ∀ {r : List aB}, val (grp r) t = val r t
  | [] => rfl
  | j :: r => by unfold grp; rw [CZ ht, cF]

theorem FM : ∀ {r : List aB} {p n last : Int}, last < p → (∀ j ∈ r, p ≤ j.At) → Srt JH r → Up last (qV p n r)
  | [], p, n, last, h, _, _ => by
    unfold qV uY
    split
    · rename_i h'; exact ⟨⟨h, h'.2, h'.1⟩, trivial⟩
    · trivial
  | j :: r, p, n, last, h, hp, hs => by
    have hj := hp j (by simp)
    have hs' := List.pairwise_cons.1 hs
    unfold qV
    split
    · exact FM h (fun k hk => hp k (by simp [hk])) hs'.2
    · have ih : Up p (qV j.At j.Net r) := FM (by omega) (fun k hk => hs'.1 k hk) hs'.2
      unfold uY
      split
      · rename_i h'; exact ⟨⟨h, h'.2, h'.1⟩, ih⟩
      · exact ih.weaken (by omega)

theorem VP {r : List aB} (h : ∀ j ∈ r, -2 < j.At) (hs : Srt JH r) : Up (-2) (grp r) := by
  cases r with
  | nil => trivial
  | cons j r =>
    have hs' := List.pairwise_cons.1 hs
    exact FM (h j (by simp)) (fun k hk => hs'.1 k hk) hs'.2

theorem KN {l out : List aB} (hl : l.length ≤ 1099511627776) (hb : ∀ j ∈ l, j.Net ≤ 1048576 ∧ -1048576 ≤ j.Net) : ∀ (r : List aB) (k : Nat) (p n : Int), l.drop k = r → k ≤ l.length → n ≤ 1048576 * k → -(1048576 * k) ≤ n →
    ∃ n' k', k ≤ k' ∧ k' ≤ l.length ∧ qV p n r = uY p n' ++ grp (l.drop k') ∧ lp (fun s : List aB × List aB × Int × aB => hU s.1 s.2.1 s.2.2.1 s.2.2.2) (l, out, (k : Int), ⟨p, n⟩) = some (l, out, ((k' : Nat) : Int), ⟨p, n'⟩) ∧ (∀ j r', r = j :: r' → j.At = p → k < k')
  | [], k, p, n, hd, hk, _, _ => by
    have : k = l.length := by
      have := congrArg List.length hd
      simp only [List.length_drop, List.length_nil] at this; omega
    subst this
    refine ⟨n, l.length, Nat.le_refl _, Nat.le_refl _, by simp [qV, grp], cK ?_, fun j r' h => by cases h⟩
    show hU _ _ _ _ = _
    simp only [hU, kS, Bool.false_and, cond_false]
    exact bB (fun h => by cases h)
  | a :: r, k, p, n, hd, hk, h1, h2 => by
    obtain ⟨e1, e2⟩ := drop_cons hd
    have hlt : k < l.length := (List.getElem?_eq_some_iff.1 e1).1
    obtain ⟨d1, d2, d3, d4⟩ := idx e1 (by omega)
    have ha := hb a (List.mem_of_getElem? e1)
    by_cases h : a.At = p
    · have hw : IntKind.i64.wrap (n + a.Net) = n + a.Net := iF (by omega) (by omega)
      obtain ⟨n', k', k1, k2, k3, k4, _⟩ := KN hl hb r (k + 1) p (n + a.Net) e2 (by omega) (by omega) (by omega) (out := out)
      refine ⟨n', k', by omega, k2, by simp [qV, h, k3], ?_, fun _ _ _ _ => by omega⟩
      have hb : (fun s : List aB × List aB × Int × aB => hU s.1 s.2.1 s.2.2.1 s.2.2.2) (l, out, (k : Int), ⟨p, n⟩) = some (.inl (l, out, ((k + 1 : Nat) : Int), ⟨p, n + a.Net⟩)) := by
        show hU _ _ _ _ = _
        simp only [hU, d1, Bool.true_and, d3, d4, h, decide_true, cond_true, hw]
        rw [bB (fun _ => d2), bB d2]
      rw [fN hb, k4]
    · refine ⟨n, k, Nat.le_refl _, hk, ?_, cK ?_, fun j r' he hp => ?_⟩
      · rw [hd]; simp [qV, h, grp]
      · show hU _ _ _ _ = _
        simp only [hU, d1, Bool.true_and, d3, h, decide_false, cond_false]
        exact bB (fun _ => d2)
      · cases he; exact absurd hp h

theorem TG {l : List aB} (hl : l.length ≤ 1099511627776) (hb : ∀ j ∈ l, j.Net ≤ 1048576 ∧ -1048576 ≤ j.Net) : ∀ (m k : Nat) (out : List aB), l.length - k ≤ m → k ≤ l.length → out.length ≤ k →
    lp (fun s : List aB × List aB × Int => jR s.1 s.2.1 s.2.2) (l, out, (k : Int)) = some (out ++ grp (l.drop k)) := by
  have stop : ∀ out, lp (fun s : List aB × List aB × Int => jR s.1 s.2.1 s.2.2) (l, out, ((l.length : Nat) : Int)) = some (out ++ grp (l.drop l.length)) := by
    intro out
    refine cK ?_
    show jR _ _ _ = _
    simp only [jR, kS, cond_false]
    simp [grp]
  intro m
  induction m with
  | zero =>
    intro k out hm hk _
    have : k = l.length := by omega
    subst this; exact stop out
  | succ m ih =>
    intro k out hm hk ho
    by_cases he : k = l.length
    · subst he; exact stop out
    · have hlt : k < l.length := by omega
      have hd : l.drop k = l[k] :: l.drop (k + 1) := List.drop_eq_getElem_cons hlt
      obtain ⟨d1, d2, d3, d4⟩ := idx (List.getElem?_eq_getElem hlt) (by omega)
      obtain ⟨n', k', k1, k2, k3, k4, k5⟩ := KN hl hb (l.drop k) k l[k].At 0 rfl hk (by omega) (by omega) (out := out)
      have hk' := k5 _ _ hd rfl
      have hbod : (fun s : List aB × List aB × Int => jR s.1 s.2.1 s.2.2) (l, out, (k : Int)) = some (.inl (l, out ++ uY l[k].At n', ((k' : Nat) : Int))) := by
        show jR _ _ _ = _
        simp only [jR, d1, cond_true, bB d2, d3, tK, k4, Option.bind_some, qG]
        unfold uY
        by_cases c : n' ≠ 0 ∧ l[k].At < 1125899906842624
        · have hc : (!decide (n' = 0) && decide (l[k].At < 1125899906842624)) = true := by simp [c]
          rw [hc, cond_true, if_pos c, bB (by simp only [List.length_cons, List.length_nil]; omega)]
        · have hc : (!decide (n' = 0) && decide (l[k].At < 1125899906842624)) = false := by
            rw [Bool.eq_false_iff]; intro h; apply c; simpa using h
          rw [hc, cond_false, if_neg c]; simp
      have hfl : (uY l[k].At n').length ≤ 1 := by unfold uY; split <;> simp
      rw [fN hbod, ih k' _ (by omega) k2 (by simp only [List.length_append]; omega)]
      have hg : grp (l.drop k) = qV l[k].At 0 (l.drop k) := by rw [hd]; simp [grp, qV]
      rw [hg, k3]; simp

theorem UM (a b : aB) : kW a b = some (if a.At < b.At then -1 else if b.At < a.At then 1 else 0) := by
  unfold kW gW lX
  by_cases h1 : a.At < b.At
  · simp [h1]
  · by_cases h2 : b.At < a.At <;> simp [h1, h2]

theorem XC : Cmp (fun _ => True) JH (fun y0 y1 => kW y0 y1) where
  ans x y _ _ := ⟨_, UM x y, by unfold JH; split <;> (try split) <;> omega⟩
  trans x y z _ _ _ h1 h2 := Int.le_trans h1 h2
  total x y _ _ := Int.le_total x.At y.At

theorem WY {l : List aB} (hl : l.length ≤ 1099511627776) : ∃ r, r.Perm l ∧ Srt JH r ∧ cJ l (fun y0 y1 => kW y0 y1) = some r := by
  obtain ⟨r, r1, r2, r3⟩ := GF XC (d := l) (fun _ _ => trivial) hl
  refine ⟨r, r1, r2, ?_⟩
  unfold cJ
  rw [LJ, r3]; rfl

theorem IS {f g : List aB} (h : f.Perm g) (t : Int) : val f t = val g t := by
  induction h with
  | nil => rfl
  | cons x _ ih => rw [cF, cF, ih]
  | swap x y l => rw [cF, cF, cF, cF]; omega
  | trans _ _ ih1 ih2 => rw [ih1, ih2]

theorem OK {l : List aB} (h : l.any sU = false) : ∀ j ∈ l, j.Net ≤ 1048576 ∧ -1048576 ≤ j.Net := by
  intro j hj
  have := List.any_eq_false.1 h j hj
  simp [sU, BK] at this
  omega

theorem wD {l : List aB} (h : l.any xO = false) : ∀ j ∈ l, -2 < j.At ∧ j.At ≤ 1125899906842624 := by
  intro j hj
  have := List.any_eq_false.1 h j hj
  simp [xO] at this
  omega

theorem zW {l : List aB} (ht : ∀ j ∈ l, -2 < j.At) : Inc (-2) (FW [] (l.filter fun j => decide (j.At < 1125899906842624))) :=
  KX (ps := []) (show Inc (-2) [] from trivial) fun j hj => by
    obtain ⟨h1, h2⟩ := List.mem_filter.1 hj
    exact ⟨ht j h1, by simpa using h2⟩

theorem KC {l h : List aB} (ht : ∀ j ∈ l, -2 < j.At) (hh : Up (-2) h) (hv : ∀ t, -2 < t → t < 1125899906842624 → val h t = val l t) : tR l = h := by
  refine TC (F := val l) (uX fun j hj => ht j hj) (zW ht) ?_ hh hv
  intro s t _ hst h2 hn
  exact wW hst fun j hj hc => hn j.At (CO.2 (Or.inr ⟨j, List.mem_filter.2 ⟨hj, by simp; omega⟩, rfl⟩)) hc

theorem norm_eq {l : List aB} (hl : l.length ≤ 1099511627776) : rD l = some (lQ l) := by
  unfold rD lQ
  rw [zS (g := sU) hl (fun x _ => by simp [oV, ME, sU])]
  simp only [Option.bind_some]
  cases h1 : l.any sU
  · rw [zS (f := fun y0 => oS y0) (g := xO) hl (fun x _ => rfl)]
    simp only [cond_false, Option.bind_some, Bool.false_eq_true, if_false]
    cases h2 : l.any xO
    · simp only [cond_false, Bool.false_eq_true, if_false]
      have hc : dX l = some l := by unfold dX; exact bB ⟨by omega, by omega⟩
      obtain ⟨r, r1, r2, r3⟩ := WY hl
      rw [hc]
      simp only [Option.bind_some]
      rw [r3]
      simp only [Option.bind_some, tP]
      have hlr : r.length ≤ 1099511627776 := by rw [r1.length_eq]; exact hl
      have := TG hlr (fun j hj => OK h1 j (r1.mem_iff.1 hj)) r.length 0 [] (by omega) (by omega) (by simp)
      simp only [Int.natCast_zero, List.drop_zero, List.nil_append] at this
      rw [this]
      simp only [Option.bind_some, qE, RV]
      rw [KC (fun j hj => (wD h2 j hj).1) (VP (fun j hj => (wD h2 j (r1.mem_iff.1 hj)).1) r2) (fun t _ ht => by rw [UF ht, IS r1])]
    · simp
  · simp

end Go.Abs
namespace Go.Abs
open Go
theorem GC (x y : ByteArray) : mD x y = decide (x = y) := by
  unfold mD
  rw [ByteArray.toList_eq, ByteArray.toList_eq]
  by_cases h : x = y
  · simp [h]
  · have : x.data.toList ≠ y.data.toList := by
      intro he
      apply h
      cases x; cases y
      congr 1
      exact Array.toList_inj.1 he
    have h2 : (x.data.toList == y.data.toList) = false := by simpa using this
    rw [h2]; simp [h]

theorem veq (a b : aF) : ((decide (a.Kind = b.Kind)) && ((decide (a.Num = b.Num)) && ((mD a.Text b.Text) && true))) = decide (a = b) := by
  rw [GC]
  obtain ⟨a1, a2, a3⟩ := a
  obtain ⟨b1, b2, b3⟩ := b
  by_cases h1 : a1 = b1 <;> by_cases h2 : a2 = b2 <;> by_cases h3 : a3 = b3 <;> simp [h1, h2, h3]

def yI (v : aF) : Bool := decide (v.Kind = 1) && mD v.Text (⟨#[]⟩ : ByteArray)

def zB (v : aF) : Bool := ((decide (v.Kind = 2)) && (decide (v.Num = 0))) && (decide (((ByteArray.size v.Text : Nat) : Int) ≤ 64))

def yP (v : aF) : Bool := yI v || zB v

def nJ (r : List aF) : Bool := decide (r.length ≤ 8) && r.all yP

theorem of_eq (v : aF) : jS v = some (if yI v then (.k_number v.Num, true) else if zB v then (.k_words v.Text, true) else (.none_, false)) := by
  unfold jS yI zB
  cases (decide (v.Kind = 1) && mD v.Text (⟨#[]⟩ : ByteArray)) <;> cases (((decide (v.Kind = 2)) && (decide (v.Num = 0))) && (decide (((ByteArray.size v.Text : Nat) : Int) ≤ 64))) <;> rfl

theorem UR (v : aF) : rH v = some (yP v) := by
  unfold rH yP
  rw [of_eq]
  cases yI v <;> cases zB v <;> rfl

theorem KV {l : List aF} {f : aF → Option Bool} {g : aF → Bool} (hl : l.length ≤ 1099511627776) (hf : ∀ x ∈ l, f x = some (g x)) : cO l f = some (l.any g) := by
  unfold cO eM eE
  obtain ⟨x, e, hx⟩ := zD hl hf l 0 rfl (Nat.zero_le _)
  have e' : lp (fun s => eF f l (l.length : Nat) s) 0 = some x := e
  rw [e']
  rcases hx with ⟨rfl, h⟩ | ⟨i, rfl, _, _, h, _⟩
  · simp [cW, h]
  · simp [h]

theorem BM (r : List aF) : oC r = some (nJ r) := by
  unfold oC nJ
  by_cases h : r.length ≤ 8
  · have h1 : decide ((8 : Int) < ((r.length : Nat) : Int)) = false := by simp; omega
    rw [h1, cond_false, KV (g := fun v => !yP v) (by omega) (fun x _ => by simp [rI, UR])]
    simp only [Option.bind_some, h, decide_true, Bool.true_and]
    congr 1
    rw [List.all_eq_not_any_not]
  · have h1 : decide ((8 : Int) < ((r.length : Nat) : Int)) = true := by simp; omega
    rw [h1, cond_true]
    simp [h]

theorem OL {α : Type} [DecidableEq α] {f g : List α} {body : Int → Option (Int ⊕ (Unit ⊕ Bool))} (he : f.length = g.length)
    (hb : ∀ (i : Nat) a b, f[i]? = some a → g[i]? = some b → body i = some (if a = b then .inl ((i + 1 : Nat) : Int) else .inr (.inr false)))
    (hend : body (f.length : Nat) = some (.inr (.inl ()))) : ∀ (m k : Nat), f.length - k = m → k ≤ f.length → lp body (k : Int) = some (if f.drop k = g.drop k then .inl () else .inr false)
  | 0, k, hm, hk => by
    have : k = f.length := by omega
    subst this
    rw [List.drop_length, he, List.drop_length, if_pos rfl]
    rw [← he]
    exact cK hend
  | m + 1, k, hm, hk => by
    have h1 : k < f.length := by omega
    have h2 : k < g.length := by omega
    have hbk := hb k _ _ (List.getElem?_eq_getElem h1) (List.getElem?_eq_getElem h2)
    have e1 : f.drop k = f[k] :: f.drop (k + 1) := List.drop_eq_getElem_cons h1
    have e2 : g.drop k = g[k] :: g.drop (k + 1) := List.drop_eq_getElem_cons h2
    have hiff : (f.drop k = g.drop k) ↔ (f[k] = g[k] ∧ f.drop (k + 1) = g.drop (k + 1)) := by rw [e1, e2, List.cons.injEq]
    by_cases h : f[k] = g[k]
    · rw [if_pos h] at hbk
      rw [fN hbk, OL he hb hend m (k + 1) (by omega) (by omega)]
      simp only [hiff, h, true_and]
    · rw [if_neg h] at hbk
      rw [cK hbk]
      simp only [hiff, h, false_and, if_false]

theorem RP {α : Type} {f g : List α} (h : f.length ≠ g.length) : (!decide (((f.length : Nat) : Int) = ((g.length : Nat) : Int))) = true := by simp; omega

theorem QY {α : Type} {f g : List α} (h : f.length = g.length) : (!decide (((f.length : Nat) : Int) = ((g.length : Nat) : Int))) = false := by simp [h]

theorem NR (a b : List aF) (hl : a.length ≤ 17592186044416) : tB a b = some (decide (a = b)) := by
  unfold tB gK
  by_cases he : a.length = b.length
  · rw [QY he, cond_false]
    unfold fO
    have := OL (f := a) (g := b) (body := fun s => cQ a b (a.length : Nat) s) he ?_ ?_ a.length 0 rfl (Nat.zero_le _)
    · simp only [Int.natCast_zero, List.drop_zero] at this
      rw [this]
      by_cases h : a = b <;> simp [h, dM]
    · intro i x y hx hy
      obtain ⟨d1, d2, d3, d4⟩ := idx hx (by omega)
      obtain ⟨_, e2, e3, _⟩ := idx hy (by omega)
      simp only [cQ, d1, cond_true, bB d2, bB e2, d3, e3, d4, veq]
      by_cases h : x = y <;> simp [h]
    · simp only [cQ, kS, cond_false]
  · rw [RP he, cond_true]
    have : a ≠ b := fun h => he (by rw [h])
    simp [this]

theorem HJ (a b : List aF) (hl : a.length ≤ 17592186044416) : qK a b = some (decide (a = b)) := by
  unfold qK
  by_cases he : a.length = b.length
  · rw [QY he, cond_false]
    unfold rW
    have := OL (f := a) (g := b) (body := fun s => mW a b s) he ?_ ?_ a.length 0 rfl (Nat.zero_le _)
    · simp only [Int.natCast_zero, List.drop_zero] at this
      rw [this]
      by_cases h : a = b <;> simp [h, oW]
    · intro i x y hx hy
      obtain ⟨d1, d2, d3, d4⟩ := idx hx (by omega)
      obtain ⟨_, e2, e3, _⟩ := idx hy (by omega)
      simp only [mW, d1, cond_true, bB d2, bB e2, d3, e3, d4, veq]
      by_cases h : x = y <;> simp [h]
    · simp only [mW, kS, cond_false]
  · rw [RP he, cond_true]
    have : a ≠ b := fun h => he (by rw [h])
    simp [this]

structure AW {α : Type} (c : α → α → Int) : Prop where
  eq : ∀ a b, c a b = 0 ↔ a = b
  anti : ∀ a b, c a b < 0 ↔ 0 < c b a
  trans : ∀ a b d, c a b < 0 → c b d < 0 → c a d < 0

def nI (x y : Int) : Int := if x < y then -1 else if y < x then 1 else 0

theorem wL : AW nI where
  eq a b := by unfold nI; (repeat' split) <;> omega
  anti a b := by unfold nI; (repeat' split) <;> omega
  trans a b d := by unfold nI; (repeat' split) <;> omega

def jN {α : Type} [DecidableEq α] (c : α → α → Int) : List α → List α → Int
  | [], [] => 0
  | [], _ :: _ => -1
  | _ :: _, [] => 1
  | a :: r, b :: s => if a = b then jN c r s else c a b

theorem AW.list {α : Type} [DecidableEq α] {c : α → α → Int} (h : AW c) : AW (jN c) where
  eq := by
    intro a
    induction a with
    | nil => intro b; cases b <;> simp [jN]
    | cons x r ih =>
      intro b
      cases b with
      | nil => simp [jN]
      | cons y s =>
        unfold jN
        split
        · rename_i e; subst e; rw [ih]; simp
        · rename_i e
          have := h.eq x y
          constructor
          · intro h0; exact absurd (this.1 h0) e
          · intro h0; cases h0; exact absurd rfl e
  anti := by
    intro a
    induction a with
    | nil => intro b; cases b <;> simp [jN]
    | cons x r ih =>
      intro b
      cases b with
      | nil => simp [jN]
      | cons y s =>
        unfold jN
        by_cases e : x = y
        · subst e; simp only [if_true]; exact ih s
        · rw [if_neg e, if_neg (fun e' => e e'.symm)]; exact h.anti x y
  trans := by
    intro a
    induction a with
    | nil =>
      intro b d
      cases b <;> cases d <;> simp [jN]
    | cons x r ih =>
      intro b d
      cases b with
      | nil => simp [jN]
      | cons y s =>
        cases d with
        | nil => simp [jN]
        | cons z t =>
          unfold jN
          by_cases e1 : x = y
          · subst e1
            rw [if_pos rfl]
            by_cases e2 : x = z
            · subst e2; rw [if_pos rfl, if_pos rfl]; exact ih s t
            · rw [if_neg e2, if_neg e2]; exact fun _ h => h
          · rw [if_neg e1]
            by_cases e2 : y = z
            · have hz : ¬ x = z := fun e => e1 (e.trans e2.symm)
              intro h _
              rw [if_neg hz, ← e2]; exact h
            · rw [if_neg e2]
              intro h1 h2
              by_cases e3 : x = z
              · subst e3
                have h3 := (h.anti x y).1 h1
                omega
              · rw [if_neg e3]; exact h.trans x y z h1 h2

def DF (a b : UInt8) : Int := if a < b then -1 else if b < a then 1 else 0

theorem CX : AW DF where
  eq a b := by
    unfold DF
    constructor
    · intro h
      split at h
      · cases h
      · split at h
        · cases h
        · rename_i h1 h2
          rw [UInt8.lt_iff_toNat_lt] at h1 h2
          exact UInt8.toNat_inj.1 (by omega)
    · rintro rfl
      have : ¬ a < a := by rw [UInt8.lt_iff_toNat_lt]; omega
      simp [this]
  anti a b := by
    unfold DF
    simp only [UInt8.lt_iff_toNat_lt]
    (repeat' split) <;> omega
  trans a b d := by
    unfold DF
    simp only [UInt8.lt_iff_toNat_lt]
    (repeat' split) <;> omega

theorem wU : ∀ (a b : List UInt8), Go.Lib.compareBytes a b = jN DF a b
  | [], [] => rfl
  | [], _ :: _ => rfl
  | _ :: _, [] => rfl
  | a :: r, b :: s => by
    unfold Go.Lib.compareBytes jN
    rw [wU r s]
    by_cases e : a = b
    · subst e
      have : ¬ a < a := by rw [UInt8.lt_iff_toNat_lt]; omega
      simp [this]
    · rw [if_neg e]
      unfold DF
      have : ¬ (¬ a < b ∧ ¬ b < a) := by
        rintro ⟨h1, h2⟩
        rw [UInt8.lt_iff_toNat_lt] at h1 h2
        exact e (UInt8.toNat_inj.1 (by omega))
      by_cases h1 : a < b
      · simp [h1]
      · have h2 : b < a := Classical.byContradiction fun h2 => this ⟨h1, h2⟩
        simp [h1, h2]

def IP (a b : ByteArray) : Int := jN DF a.data.toList b.data.toList

theorem TZ (a b : ByteArray) : FB a b = IP a b := wU _ _

theorem data_inj {x y : ByteArray} (h : x.data.toList = y.data.toList) : x = y := by
  cases x; cases y
  congr 1
  exact Array.toList_inj.1 h

theorem yK : AW IP where
  eq a b := by unfold IP; rw [(CX.list).eq]; exact ⟨data_inj, fun h => by rw [h]⟩
  anti a b := (CX.list).anti _ _
  trans a b d := (CX.list).trans _ _ _

def wI (a b : aF) : Int := if a.Kind = b.Kind then (if a.Num = b.Num then IP a.Text b.Text else nI a.Num b.Num) else nI a.Kind b.Kind

theorem SF : AW wI where
  eq a b := by
    obtain ⟨a1, a2, a3⟩ := a
    obtain ⟨b1, b2, b3⟩ := b
    unfold wI
    simp only [aF.mk.injEq]
    by_cases h1 : a1 = b1
    · by_cases h2 : a2 = b2
      · simp [h1, h2, yK.eq]
      · simp [h1, h2, wL.eq]
    · simp [h1, wL.eq]
  anti a b := by
    unfold wI
    by_cases h1 : a.Kind = b.Kind
    · rw [if_pos h1, if_pos h1.symm]
      by_cases h2 : a.Num = b.Num
      · rw [if_pos h2, if_pos h2.symm]; exact yK.anti _ _
      · rw [if_neg h2, if_neg (fun h => h2 h.symm)]; exact wL.anti _ _
    · rw [if_neg h1, if_neg (fun h => h1 h.symm)]; exact wL.anti _ _
  trans a b d := by
    unfold wI
    intro h1 h2
    have lt : ∀ {x y : Int}, nI x y < 0 → x < y := fun {x y} h => by unfold nI at h; split at h <;> (try split at h) <;> omega
    have mk : ∀ {x y : Int}, x < y → nI x y < 0 := fun {x y} h => by unfold nI; rw [if_pos h]; omega
    by_cases e1 : a.Kind = b.Kind
    · rw [if_pos e1] at h1
      by_cases e2 : b.Kind = d.Kind
      · rw [if_pos e2] at h2
        rw [if_pos (e1.trans e2)]
        by_cases f1 : a.Num = b.Num
        · rw [if_pos f1] at h1
          by_cases f2 : b.Num = d.Num
          · rw [if_pos f2] at h2
            rw [if_pos (f1.trans f2)]
            exact yK.trans _ _ _ h1 h2
          · rw [if_neg f2] at h2
            rw [f1, if_neg f2]; exact h2
        · rw [if_neg f1] at h1
          have g1 := lt h1
          by_cases f2 : b.Num = d.Num
          · rw [← f2, if_neg f1]; exact h1
          · rw [if_neg f2] at h2
            have g2 := lt h2
            rw [if_neg (by omega)]
            exact mk (by omega)
      · rw [if_neg e2] at h2
        rw [e1, if_neg e2]; exact h2
    · rw [if_neg e1] at h1
      have g1 := lt h1
      by_cases e2 : b.Kind = d.Kind
      · rw [← e2, if_neg e1]; exact h1
      · rw [if_neg e2] at h2
        have g2 := lt h2
        rw [if_neg (by omega)]
        exact mk (by omega)

def jO (a b : List aF) : Int := jN wI a b

theorem lE : AW jO := SF.list

end Go.Abs
namespace Go.Abs
open Go
theorem GI (x y : Int) : gW x y = some (nI x y) := by
  unfold gW lX nI
  by_cases h1 : x < y
  · simp [h1]
  · by_cases h2 : y < x <;> simp [h1, h2]

theorem PL (x y : Int) : dI x y = some (nI x y) := by
  unfold dI iA nI
  by_cases h1 : x < y
  · simp [h1]
  · by_cases h2 : y < x <;> simp [h1, h2]

theorem BJ {v : aF} (h : yI v = true) : v.Kind = 1 ∧ v.Text = (⟨#[]⟩ : ByteArray) := by
  simp only [yI, GC, Bool.and_eq_true, decide_eq_true_eq] at h; exact h

theorem yS {v : aF} (h : zB v = true) : v.Kind = 2 ∧ v.Num = 0 ∧ v.Text.size ≤ 64 := by
  simp only [zB, Bool.and_eq_true, decide_eq_true_eq] at h; exact ⟨h.1.1, h.1.2, by omega⟩

theorem MJ {v : aF} (h : yP v = true) : yI v = true ∨ (yI v = false ∧ zB v = true) := by
  unfold yP at h
  cases hn : yI v
  · rw [hn] at h; exact .inr ⟨rfl, by simpa using h⟩
  · exact .inl rfl

theorem RL (a : ByteArray) : IP a a = 0 := (yK.eq a a).2 rfl

theorem AL (a : Int) : nI a a = 0 := (wL.eq a a).2 rfl

theorem PJ {a b : aF} (ha : yP a = true) (hb : yP b = true) : nH a b = some (wI a b) := by
  unfold nH
  simp only [of_eq, Option.bind_some]
  rcases MJ ha with h1 | ⟨h1, h1'⟩ <;> rcases MJ hb with h2 | ⟨h2, h2'⟩
  · obtain ⟨k1, t1⟩ := BJ h1
    obtain ⟨k2, t2⟩ := BJ h2
    simp only [h1, h2, if_true, Bool.not_true, Bool.or_self, cond_false, PL, Option.bind_some]
    unfold wI
    rw [k1, k2, t1, t2, if_pos rfl, RL]
    by_cases hn : a.Num = b.Num
    · rw [if_pos hn, hn, AL]
    · rw [if_neg hn]
  · obtain ⟨k1, t1⟩ := BJ h1
    obtain ⟨k2, n2, _⟩ := yS h2'
    simp only [h1, h2, h2', if_true, Bool.false_eq_true, if_false, Bool.not_true, Bool.or_self, cond_false]
    unfold wI
    rw [k1, k2]; rfl
  · obtain ⟨k1, n1, _⟩ := yS h1'
    obtain ⟨k2, t2⟩ := BJ h2
    simp only [h1, h1', h2, if_true, Bool.false_eq_true, if_false, Bool.not_true, Bool.or_self, cond_false]
    unfold wI
    rw [k1, k2]; rfl
  · obtain ⟨k1, n1, _⟩ := yS h1'
    obtain ⟨k2, n2, _⟩ := yS h2'
    simp only [h1, h1', h2, h2', if_true, Bool.false_eq_true, if_false, Bool.not_true, Bool.or_self, cond_false]
    unfold wI kR gG
    rw [k1, k2, n1, n2, if_pos rfl, if_pos rfl]
    simp [TZ]

theorem MR {r : List aF} (h : nJ r = true) : r.length ≤ 8 ∧ ∀ v ∈ r, yP v = true := by
  simp only [nJ, Bool.and_eq_true, decide_eq_true_eq, List.all_eq_true] at h; exact h

theorem SO {a b : List aF} {k : Nat} (hk : k = a.length ∨ k = b.length) (h1 : k ≤ a.length) (h2 : k ≤ b.length) : jO (a.drop k) (b.drop k) = nI a.length b.length := by
  rcases hk with rfl | rfl
  · rw [List.drop_length]
    by_cases h : a.length = b.length
    · rw [h, List.drop_length, AL]; rfl
    · rw [List.drop_eq_getElem_cons (by omega)]
      show (-1 : Int) = _
      unfold nI; rw [if_pos (by omega)]
  · rw [List.drop_length]
    by_cases h : a.length = b.length
    · rw [← h, List.drop_length, AL]; rfl
    · rw [List.drop_eq_getElem_cons (by omega)]
      show (1 : Int) = _
      unfold nI; rw [if_neg (by omega), if_pos (by omega)]

theorem MO {a b : List aF} (hl : a.length ≤ 8) (hlb : b.length ≤ 8) (n : Nat) (hn : n = min a.length b.length) : ∀ (m k : Nat), n - k = m → k ≤ n →
    ∃ x, lp (fun s : Int × Int => bM (fun st y0 => (gX y0 st b).bind fun o => some (o.2, o.1)) (a.take n) (n : Nat) s.1 s.2) ((k : Int) - 1, (k : Int)) = some x ∧
      ((∃ sg, x = .inl sg ∧ jO (a.drop k) (b.drop k) = nI a.length b.length) ∨
        (∃ i : Nat, x = .inr ((i : Int), (i : Int)) ∧ i < a.length ∧ i < b.length ∧ jO (a.drop k) (b.drop k) = wI (a.getD i default) (b.getD i default)))
  | 0, k, hm, hk => by
    have : k = n := by omega
    subst this
    refine ⟨.inl ((k : Int) - 1), cK ?_, .inl ⟨_, rfl, SO (by omega) (by omega) (by omega)⟩⟩
    show bM _ _ _ _ _ = _
    simp only [bM, kS, cond_false]
  | m + 1, k, hm, hk => by
    have h1 : k < a.length := by omega
    have h2 : k < b.length := by omega
    have ht : (a.take n)[k]? = some a[k] := by
      rw [List.getElem?_take_of_lt (by omega)]; exact List.getElem?_eq_getElem h1
    obtain ⟨d1, d2, d3, d4⟩ := idx ht (by simp; omega)
    have hlt : (a.take n).length = n := by simp; omega
    rw [hlt] at d1 d2
    obtain ⟨_, e2, e3, _⟩ := idx (List.getElem?_eq_getElem h2) (by omega)
    have hw : IntKind.i64.wrap ((k : Int) - 1 + 1) = (k : Int) := by rw [iF (by omega) (by omega)]; omega
    have hb : (fun s : Int × Int => bM (fun st y0 => (gX y0 st b).bind fun o => some (o.2, o.1)) (a.take n) (n : Nat) s.1 s.2) ((k : Int) - 1, (k : Int)) =
        some (if a[k] = b[k] then .inl ((k : Int), ((k + 1 : Nat) : Int)) else .inr (.inr ((k : Int), (k : Int)))) := by
      show bM _ _ _ _ _ = _
      simp only [bM, d1, cond_true, hlt, bB d2, d3, d4, gX, hw, bB e2, e3, veq, Option.bind_some]
      by_cases h : a[k] = b[k] <;> simp [h]
    have ea : a.drop k = a[k] :: a.drop (k + 1) := List.drop_eq_getElem_cons h1
    have eb : b.drop k = b[k] :: b.drop (k + 1) := List.drop_eq_getElem_cons h2
    by_cases h : a[k] = b[k]
    · rw [if_pos h] at hb
      obtain ⟨x, e, hx⟩ := MO hl hlb n hn m (k + 1) (by omega) (by omega)
      have hc : jO (a.drop k) (b.drop k) = jO (a.drop (k + 1)) (b.drop (k + 1)) := by
        rw [ea, eb]; unfold jO; rw [jN, if_pos h]
      refine ⟨x, ?_, by rw [hc]; exact hx⟩
      rw [fN hb]
      rw [show ((k + 1 : Nat) : Int) - 1 = (k : Int) by omega] at e
      exact e
    · rw [if_neg h] at hb
      refine ⟨_, cK hb, .inr ⟨k, rfl, h1, h2, ?_⟩⟩
      rw [ea, eb]; unfold jO; rw [jN, if_neg h]
      simp [List.getD_eq_getElem?_getD, h1, h2]

theorem FZ (a b : List aF) : nC a b = some (if nJ a && nJ b then jO a b else 0) := by
  unfold nC
  rw [BM]
  simp only [Option.bind_some]
  cases ha : nJ a
  · simp [kP]
  · simp only [Bool.not_true, Bool.not_false, kP, cond_true, BM, Option.bind_some, Bool.false_or]
    cases hb : nJ b
    · simp
    · obtain ⟨la, ma⟩ := MR ha
      obtain ⟨lb, mb⟩ := MR hb
      have hif : (if ((List.length b : Nat) : Int) < ((List.length a : Nat) : Int) then ((List.length b : Nat) : Int) else ((List.length a : Nat) : Int)) = ((min a.length b.length : Nat) : Int) := by split <;> omega
      have hlt : (a.take (min a.length b.length)).length = min a.length b.length := by rw [List.length_take]; omega
      simp only [Bool.not_true, cond_false, hif, Int.toNat_natCast, pM, Option.bind_some, eA, dQ, hlt, Bool.and_self, if_true]
      rw [bB ⟨by omega, by omega⟩]
      obtain ⟨x, e, hx⟩ := MO (a := a) (b := b) la lb _ rfl _ 0 rfl (Nat.zero_le _)
      have e' : lp (fun s : Int × Int => bM (fun st y0 => (gX y0 st b).bind fun o => some (o.2, o.1)) (a.take (min a.length b.length)) (min a.length b.length : Nat) s.1 s.2) ((-1 : Int), (0 : Int)) = some x := e
      rw [e']
      simp only [List.drop_zero] at hx
      rcases hx with ⟨sg, rfl, h⟩ | ⟨i, rfl, h1, h2, h⟩
      · simp [cN, GI, h]
      · have hi : decide ((i : Int) < 0) = false := by simp
        simp only [Option.bind_some, Sum.elim_inr, hi, cond_false, Int.toNat_natCast]
        rw [bB ⟨by omega, by omega⟩, bB ⟨by omega, by omega⟩]
        have g1 : a.getD i default ∈ a := by simp [List.getD_eq_getElem?_getD, h1]
        have g2 : b.getD i default ∈ b := by simp [List.getD_eq_getElem?_getD, h2]
        rw [PJ (ma _ g1) (mb _ g2), h]
        simp only [Option.bind_some]

end Go.Abs
namespace Go.Abs
open Go
def jE (e : aC) : aB := ⟨e.At, e.Net⟩

def gA (r : List aF) (f : List aB) : List aC → List (List aF × List aB)
  | [] => [(r, f)]
  | e :: l => if e.Row = r then gA r (f ++ [jE e]) l else (r, f) :: gA e.Row [jE e] l

def groups : List aC → List (List aF × List aB)
  | [] => []
  | e :: l => gA e.Row [jE e] l

def itG {σ : Type} (y : σ → List aF → List aB → Option (σ × Bool)) : List (List aF × List aB) → σ → Option σ
  | [], s => some s
  | g :: gs, s => (y s g.1 g.2).bind fun x => if x.2 then itG y gs x.1 else some x.1

def okL (l : List aC) : Prop := l.length ≤ 3518437208783 ∧ ∀ e ∈ l, e.Row.length ≤ 4398046510976

theorem DT {r : List aF} (h : r.length ≤ 4398046510976) : qP r = some r := by
  unfold qP
  rw [bB ⟨by omega, by omega, by omega⟩, bB (by simp only [List.length_nil, Nat.zero_add]; omega)]
  rfl

theorem DU {σ : Type} {y : σ → List aF → List aB → Option (σ × Bool)} {l : List aC} (hl : okL l) (row : List aF) (sg : σ) : ∀ (r : List aC) (k : Nat) (f : List aB), l.drop k = r → k ≤ l.length → f.length ≤ k →
    ∃ k' f', k ≤ k' ∧ k' ≤ l.length ∧ f'.length ≤ k' ∧ lp (fun s : σ × Int × List aB => fX y l row s.1 s.2.1 s.2.2) (sg, (k : Int), f) = some (sg, ((k' : Nat) : Int), f') ∧
      gA row f r = (row, f') :: groups (l.drop k') ∧ (∀ e r', r = e :: r' → e.Row = row → k < k')
  | [], k, f, hd, hk, hf => by
    have : k = l.length := by
      have := congrArg List.length hd
      simp only [List.length_drop, List.length_nil] at this; omega
    subst this
    refine ⟨l.length, f, Nat.le_refl _, Nat.le_refl _, hf, cK ?_, by simp [gA, groups], fun e r' h => by cases h⟩
    show fX _ _ _ _ _ _ = _
    simp only [fX, kS, kP, cond_false, Option.bind_some, Bool.false_and]
    exact bB (fun h => by cases h)
  | a :: r, k, f, hd, hk, hf => by
    obtain ⟨h1, h2⟩ := drop_cons hd
    have hlt : k < l.length := (List.getElem?_eq_some_iff.1 h1).1
    obtain ⟨hll, hlr⟩ := hl
    obtain ⟨d1, d2, d3, d4⟩ := idx h1 (by omega)
    have har := hlr a (List.mem_of_getElem? h1)
    have hb : (fun s : σ × Int × List aB => fX y l row s.1 s.2.1 s.2.2) (sg, (k : Int), f) = some (if a.Row = row then .inl (sg, ((k + 1 : Nat) : Int), f ++ [jE a]) else .inr (sg, (k : Int), f)) := by
      show fX _ _ _ _ _ _ = _
      simp only [fX, d1, d3, d4, kP, cond_true, NR a.Row row (by omega), Option.bind_some, Bool.true_and]
      rw [bB (fun _ => d2)]
      by_cases e : a.Row = row
      · simp only [e, decide_true, cond_true, if_true]
        rw [bB d2, bB d2, bB (by simp only [List.length_cons, List.length_nil]; omega)]
        rfl
      · simp [e]
    by_cases e : a.Row = row
    · rw [if_pos e] at hb
      obtain ⟨k', f', g1, g2, g3, g4, g5, _⟩ := DU ⟨hll, hlr⟩ row sg r (k + 1) (f ++ [jE a]) h2 (by omega) (by simp; omega) (y := y)
      refine ⟨k', f', by omega, g2, g3, by rw [fN hb]; exact g4, by simp [gA, e, g5], fun _ _ _ _ => by omega⟩
    · rw [if_neg e] at hb
      refine ⟨k, f, Nat.le_refl _, hk, hf, cK hb, ?_, fun b r' h hr => by cases h; exact absurd hr e⟩
      rw [hd]; simp [gA, e, groups]

theorem NK {σ : Type} {y : σ → List aF → List aB → Option (σ × Bool)} {l : List aC} (hl : okL l) : ∀ (m k : Nat) (sg s' : σ), l.length - k ≤ m → k ≤ l.length → itG y (groups (l.drop k)) sg = some s' →
    ∃ x, lp (fun s : σ × Int => eR y l s.1 s.2) (sg, (k : Int)) = some x ∧ Sum.elim id id x = s' := by
  have stop : ∀ (sg s' : σ), itG y (groups (l.drop l.length)) sg = some s' → ∃ x, lp (fun s : σ × Int => eR y l s.1 s.2) (sg, ((l.length : Nat) : Int)) = some x ∧ Sum.elim id id x = s' := by
    intro sg s' h
    rw [List.drop_length] at h
    simp only [groups, itG, Option.some.injEq] at h
    refine ⟨.inl sg, cK ?_, h⟩
    show eR _ _ _ _ = _
    simp only [eR, kS, cond_false]
  intro m
  induction m with
  | zero =>
    intro k sg s' hm hk h
    have : k = l.length := by omega
    subst this; exact stop sg s' h
  | succ m ih =>
    intro k sg s' hm hk h
    by_cases he : k = l.length
    · subst he; exact stop sg s' h
    · have hlt : k < l.length := by omega
      have hd : l.drop k = l[k] :: l.drop (k + 1) := List.drop_eq_getElem_cons hlt
      obtain ⟨d1, d2, d3, d4⟩ := idx (List.getElem?_eq_getElem hlt) (by have := hl.1; omega)
      obtain ⟨k', f', g1, g2, g3, g4, g5, g6⟩ := DU hl l[k].Row sg (l.drop k) k [] rfl hk (by simp) (y := y)
      have hk' := g6 _ _ hd rfl
      have hg : groups (l.drop k) = (l[k].Row, f') :: groups (l.drop k') := by
        rw [← g5, hd]; simp [groups, gA]
      rw [hg] at h
      simp only [itG] at h
      obtain ⟨x, hx, h⟩ := aW h
      have hrow := hl.2 _ (List.getElem_mem hlt)
      have hb : (fun s : σ × Int => eR y l s.1 s.2) (sg, (k : Int)) = some (if x.2 then .inl (x.1, ((k' : Nat) : Int)) else .inr (.inr x.1)) := by
        show eR _ _ _ _ = _
        simp only [eR, d1, cond_true, bB d2, d3, oH, g4, Option.bind_some, mS, DT hrow, hx]
        cases x.2 <;> simp
      cases hx2 : x.2
      · rw [hx2] at hb h
        simp only [Bool.false_eq_true, if_false, Option.some.injEq] at hb h
        exact ⟨_, cK hb, h⟩
      · rw [hx2] at hb h
        simp only [if_true] at hb h
        obtain ⟨z, hz1, hz2⟩ := ih k' x.1 s' (by omega) g2 h
        exact ⟨z, by rw [fN hb]; exact hz1, hz2⟩

theorem MH {σ : Type} {y : σ → List aF → List aB → Option (σ × Bool)} {l : List aC} (hl : okL l) {s s' : σ} (h : itG y (groups l) s = some s') : lY y l s = some s' := by
  unfold lY oG
  obtain ⟨x, h1, h2⟩ := NK hl l.length 0 s s' (by omega) (Nat.zero_le _) (by simpa using h)
  simp only [Int.natCast_zero] at h1
  rw [h1]
  cases x <;> simpa using h2

def ahd (last : Option (List aF)) (r : List aF) : Bool := match last with
  | none => true
  | some q => decide (jO q r < 0)

def rR (p : List aB → Bool) : Option (List aF) → List (List aF × List aB) → Bool
  | _, [] => true
  | last, g :: gs => (nJ g.1 && ahd last g.1 && p g.2) && rR p (some g.1) gs

theorem MD {holds : List aB → Option Bool} {p : List aB → Bool} (hp : ∀ f, holds f = some (p f)) (c : List aC) (t : Bool) : ∀ (gs : List (List aF × List aB)) (last : List aF) (b : Bool), (b = true → nJ last = true) →
    ∃ x, itG (fun st r f => rnd (fun (s : Bool × (List aF) × Bool) => mT holds c s.1 s.2.1 s.2.2 r f) st) gs (.inl (t, last, b)) = some x ∧
      (if rR p (if b then some last else none) gs then ∃ u, x = .inl (t, u) else ∃ u, x = .inr (false, u))
  | [], last, b, _ => ⟨_, rfl, by simp [rR]⟩
  | g :: gs, last, b, hb => by
    have hy : mT holds c t last b g.1 g.2 = some (if nJ g.1 && ahd (if b then some last else none) g.1 && p g.2 then .inl (t, g.1, true) else .inr (false, last, b)) := by
      unfold mT
      simp only [BM, Option.bind_some, FZ, hp]
      cases hm : nJ g.1
      · simp [kP]
      · cases b
        · cases h2 : p g.2 <;> simp [kP, ahd, h2]
        · have hl := hb rfl
          by_cases h1 : jO last g.1 < 0
          · have h1' : ¬ (0 ≤ jO last g.1) := by omega
            cases h2 : p g.2 <;> simp [kP, ahd, h2, hl, h1, h1']
          · have h1' : 0 ≤ jO last g.1 := by omega
            simp [kP, ahd, hl, h1, h1']
    cases hc : (nJ g.1 && ahd (if b then some last else none) g.1 && p g.2)
    · rw [hc] at hy
      simp only [itG, rnd, hy, Option.bind_some, rR, hc]
      exact ⟨.inr (false, last, b), by simp, by simp⟩
    · rw [hc] at hy
      simp only [itG, rnd, hy, Option.bind_some, rR, hc]
      have hm : nJ g.1 = true := by simp only [Bool.and_eq_true] at hc; exact hc.1.1
      obtain ⟨x, h1, h2⟩ := MD hp c t gs g.1 true (fun _ => hm)
      refine ⟨x, ?_, ?_⟩
      · simpa [rnd] using h1
      · simpa using h2

theorem MP {l : List aC} (hl : okL l) {holds : List aB → Option Bool} {p : List aB → Bool} (hp : ∀ f, holds f = some (p f)) : pE l holds = some (decide (l.length ≤ 4096) && rR p none (groups l)) := by
  unfold pE
  by_cases h : l.length ≤ 4096
  · have h1 : decide ((4096 : Int) < ((l.length : Nat) : Int)) = false := by simp; omega
    rw [h1, cond_false]
    simp only [pH, Option.bind_some, sW]
    obtain ⟨x, e1, e2⟩ := MD hp l false (groups l) [] false (fun h => by cases h)
    rw [MH hl e1]
    simp only [Bool.false_eq_true, if_false] at e2
    simp only [h, decide_true, Bool.true_and]
    cases hc : rR p none (groups l)
    · rw [hc] at e2
      simp only [Bool.false_eq_true, if_false] at e2
      obtain ⟨u, rfl⟩ := e2
      rfl
    · rw [hc] at e2
      simp only [if_true] at e2
      obtain ⟨u, rfl⟩ := e2
      rfl
  · have h1 : decide ((4096 : Int) < ((l.length : Nat) : Int)) = true := by simp; omega
    rw [h1, cond_true]
    simp [h]

def sD (l : List aC) : Bool := decide (l.length ≤ 4096) && rR kN none (groups l)

theorem TY {l : List aC} (hl : okL l) : sY l = some (sD l) := by
  unfold sY
  rw [MP hl (p := kN) (fun f => EW f)]; rfl

def FF (f : List aB) : Bool := kN f && decide (0 ≤ yC f)

def tJ (l : List aC) : Bool := decide (l.length ≤ 4096) && rR FF none (groups l)

theorem QJ {l : List aC} (hl : okL l) : pY l = some (tJ l) := by
  unfold pY
  rw [MP hl (p := FF) (fun f => by
    unfold nV FF
    rw [EW]
    cases h : kN f <;> simp [kP, SY, h])]
  rfl

def gY (r : List aF) (f : List aB) : List aC := f.map fun j => ⟨r, j.At, j.Net⟩

theorem put_eq {out : List aC} {r : List aF} {f : List aB} (hr : r.length ≤ 4398046510976) (hl : out.length + f.length ≤ 1099511627776) : tC out r f = some (out ++ gY r f) := by
  unfold tC uN
  rw [tX (l := f) (body := fun s : List aC × Int => mI r f (f.length : Nat) s.1 s.2) (fun o i => (o, i)) (fun o t => o ++ gY r t) (fun o t => o.length + t.length ≤ 1099511627776) out ?_ ?_ hl]
  · rfl
  · intro i a t o ha hi
    left
    obtain ⟨d1, d2, d3, d4⟩ := idx ha (by have := (List.getElem?_eq_some_iff.1 ha).1; omega)
    simp only [List.length_cons] at hi
    refine ⟨o ++ [⟨r, a.At, a.Net⟩], ?_, by simp; omega, by simp [gY]⟩
    show mI _ _ _ _ _ = _
    simp only [mI, d1, cond_true, bB d2, d3, d4, DT hr, Option.bind_some]
    exact bB (by simp only [List.length_cons, List.length_nil]; omega)
  · intro o _
    show mI _ _ _ _ _ = _
    simp only [mI, kS, cond_false]
    simp [gY]

def pU (by1 : List aB → List aB × Int) : List (List aF × List aB) → List aC → List aC × Int
  | [], out => (out, 0)
  | g :: gs, out => if (by1 g.2).2 ≠ 0 then ([], (by1 g.2).2) else if 4096 < (out ++ gY g.1 (by1 g.2).1).length then ([], 7) else pU by1 gs (out ++ gY g.1 (by1 g.2).1)

theorem GW {by0 : List aB → Option (List aB × Int)} {by1 : List aB → List aB × Int} (c : List aC) : ∀ (gs : List (List aF × List aB)) (out : List aC), out.length ≤ 4096 → (∀ g ∈ gs, by0 g.2 = some (by1 g.2) ∧ (by1 g.2).1.length ≤ 1024 ∧ g.1.length ≤ 4398046510976) →
    ∃ x, itG (fun st r f => rnd (fun (s : (List aC) × Int × List aC) => lM by0 c s.1 s.2.1 s.2.2 r f) st) gs (.inl ([], 0, out)) = some x ∧ Sum.elim (fun s : (List aC) × Int × List aC => (s.2.2, (0 : Int))) (fun s => (s.1, s.2.1)) x = pU by1 gs out
  | [], out, _, _ => ⟨_, rfl, rfl⟩
  | g :: gs, out, ho, hg => by
    obtain ⟨h1, h2, h3⟩ := hg g (by simp)
    have hy : lM by0 c [] 0 out g.1 g.2 = some (if (by1 g.2).2 ≠ 0 then .inr ([], (by1 g.2).2, out) else if 4096 < (out ++ gY g.1 (by1 g.2).1).length then .inr ([], 7, out ++ gY g.1 (by1 g.2).1) else .inl ([], 0, out ++ gY g.1 (by1 g.2).1)) := by
      unfold lM
      simp only [h1, Option.bind_some, put_eq h3 (show out.length + (by1 g.2).1.length ≤ 1099511627776 by omega)]
      by_cases e1 : (by1 g.2).2 = 0
      · by_cases e2 : 4096 < (out ++ gY g.1 (by1 g.2).1).length
        · have e2' : (4096 : Int) < (((out ++ gY g.1 (by1 g.2).1).length : Nat) : Int) := by omega
          simp only [e1, e2, e2', decide_true, Bool.not_true, cond_false, cond_true, ne_eq, not_true_eq_false, if_false, if_true]
        · have e2' : ¬ (4096 : Int) < (((out ++ gY g.1 (by1 g.2).1).length : Nat) : Int) := by omega
          simp only [e1, e2, e2', decide_true, decide_false, Bool.not_true, cond_false, ne_eq, not_true_eq_false, if_false]
      · simp only [e1, decide_false, Bool.not_false, cond_true, ne_eq, not_false_eq_true, if_true]
    simp only [itG, rnd, hy, Option.bind_some, pU]
    by_cases e1 : (by1 g.2).2 ≠ 0
    · rw [if_pos e1, if_pos e1]; exact ⟨_, rfl, rfl⟩
    · rw [if_neg e1, if_neg e1]
      by_cases e2 : 4096 < (out ++ gY g.1 (by1 g.2).1).length
      · rw [if_pos e2, if_pos e2]; exact ⟨_, rfl, rfl⟩
      · rw [if_neg e2, if_neg e2]
        exact GW c gs _ (by omega) (fun q hq => hg q (by simp [hq]))

theorem PB {l : List aC} (hl : okL l) {by0 : List aB → Option (List aB × Int)} {by1 : List aB → List aB × Int} (hb : ∀ g ∈ groups l, by0 g.2 = some (by1 g.2) ∧ (by1 g.2).1.length ≤ 1024 ∧ g.1.length ≤ 4398046510976) : oQ l by0 = some (pU by1 (groups l) []) := by
  unfold oQ
  simp only [pH, Option.bind_some, qR]
  obtain ⟨x, e1, e2⟩ := GW (by0 := by0) (by1 := by1) l (groups l) [] (by simp) hb
  rw [MH hl e1]
  cases x <;> simpa using e2

def flat (gs : List (List aF × List aB)) : List aC := gs.flatMap fun g => gY g.1 g.2

theorem FV : ∀ (l : List aC) (r : List aF) (f : List aB), flat (gA r f l) = gY r f ++ l
  | [], r, f => by simp [gA, flat]
  | e :: l, r, f => by
    unfold gA
    split
    · rename_i h
      rw [FV l r]
      simp [gY, jE, ← h]
    · have := FV l e.Row [jE e]
      simp only [flat, List.flatMap_cons] at this ⊢
      rw [this]
      simp [gY, jE]

theorem xG (l : List aC) : flat (groups l) = l := by
  cases l with
  | nil => rfl
  | cons e l => unfold groups; rw [FV]; simp [gY, jE]

theorem IK {r : List aF} : ∀ {l : List aC} {f : List aB} {g : List aF × List aB}, g ∈ gA r f l → f ≠ [] → g.2 ≠ [] ∧ (g.1 = r ∨ ∃ e ∈ l, g.1 = e.Row)
  | [], f, g, h, hf => by simp only [gA, List.mem_singleton] at h; subst h; exact ⟨hf, .inl rfl⟩
  | e :: l, f, g, h, hf => by
    unfold gA at h
    split at h
    · obtain ⟨h1, h2⟩ := IK h (by simp)
      exact ⟨h1, h2.imp id fun ⟨x, hx, hx'⟩ => ⟨x, by simp [hx], hx'⟩⟩
    · rcases List.mem_cons.1 h with rfl | h
      · exact ⟨hf, .inl rfl⟩
      · obtain ⟨h1, h2⟩ := IK (r := e.Row) h (by simp)
        refine ⟨h1, .inr ?_⟩
        rcases h2 with h2 | ⟨x, hx, hx'⟩
        · exact ⟨e, by simp, h2⟩
        · exact ⟨x, by simp [hx], hx'⟩

theorem EL {l : List aC} {g : List aF × List aB} (h : g ∈ groups l) : g.2 ≠ [] ∧ ∃ e ∈ l, g.1 = e.Row := by
  cases l with
  | nil => simp [groups] at h
  | cons e l =>
    obtain ⟨h1, h2⟩ := IK h (by simp)
    refine ⟨h1, ?_⟩
    rcases h2 with h2 | ⟨x, hx, hx'⟩
    · exact ⟨e, by simp, h2⟩
    · exact ⟨x, by simp [hx], hx'⟩

end Go.Abs
namespace Go.Abs
open Go
def bY (l : List aC) (r : List aF) : List aB := (l.filter fun e => decide (e.Row = r)).map jE

theorem uC (a b : List aC) (r : List aF) : bY (a ++ b) r = bY a r ++ bY b r := by simp [bY]

theorem HF (q : List aF) (f : List aB) (r : List aF) : bY (gY q f) r = if q = r then f else [] := by
  induction f with
  | nil => simp [bY, gY]
  | cons j f ih =>
    have h1 : gY q (j :: f) = [⟨q, j.At, j.Net⟩] ++ gY q f := rfl
    rw [h1, uC, ih]
    by_cases h : q = r <;> simp [bY, jE, h]

def look : List (List aF × List aB) → List aF → List aB
  | [], _ => []
  | g :: gs, r => if g.1 = r then g.2 else look gs r

theorem sM (g : List aF × List aB) (gs : List (List aF × List aB)) (r : List aF) : look (g :: gs) r = if g.1 = r then g.2 else look gs r := rfl

abbrev ltG (a b : List aF × List aB) : Prop := jO a.1 b.1 < 0

abbrev qW (gs : List (List aF × List aB)) : Prop := gs.Pairwise ltG

abbrev Full (gs : List (List aF × List aB)) : Prop := ∀ g ∈ gs, g.2 ≠ []

theorem sF {a : List aF} : ¬ jO a a < 0 := by rw [(lE.eq a a).2 rfl]; omega

theorem GY : ∀ {gs : List (List aF × List aB)} {r : List aF}, (∀ g ∈ gs, g.1 ≠ r) → look gs r = []
  | [], _, _ => rfl
  | g :: gs, r, h => by
    rw [sM]
    rw [if_neg (h g (by simp))]
    exact GY fun q hq => h q (by simp [hq])

theorem vQ (gs : List (List aF × List aB)) (r : List aF) : (look gs r = [] ∧ ∀ g ∈ gs, g.1 ≠ r) ∨ ∃ g ∈ gs, g.1 = r ∧ look gs r = g.2 := by
  induction gs with
  | nil => exact .inl ⟨rfl, by simp⟩
  | cons g gs ih =>
    rw [sM]
    by_cases h : g.1 = r
    · rw [if_pos h]; exact .inr ⟨g, by simp, h, rfl⟩
    · rw [if_neg h]
      rcases ih with ⟨h1, h2⟩ | ⟨q, hq, h1, h2⟩
      · refine .inl ⟨h1, fun q hq => ?_⟩
        rcases List.mem_cons.1 hq with rfl | hq
        · exact h
        · exact h2 q hq
      · exact .inr ⟨q, by simp [hq], h1, h2⟩

theorem CN {gs : List (List aF × List aB)} (hs : qW gs) {g : List aF × List aB} (hg : g ∈ gs) : look gs g.1 = g.2 := by
  induction gs with
  | nil => simp at hg
  | cons q gs ih =>
    have hs' := List.pairwise_cons.1 hs
    rw [sM]
    rcases List.mem_cons.1 hg with rfl | hg
    · rw [if_pos rfl]
    · rw [if_neg (fun e => by have := hs'.1 g hg; simp only [ltG, e] at this; exact sF this)]
      exact ih hs'.2 hg

theorem qB (g : List aF × List aB) (gs : List (List aF × List aB)) : flat (g :: gs) = gY g.1 g.2 ++ flat gs := rfl

theorem sZ : ∀ {gs : List (List aF × List aB)}, qW gs → ∀ r, bY (flat gs) r = look gs r
  | [], _, r => rfl
  | g :: gs, hs, r => by
    have hs' := List.pairwise_cons.1 hs
    rw [qB, uC, HF, sZ hs'.2, sM]
    by_cases h : g.1 = r
    · rw [if_pos h, if_pos h, GY, List.append_nil]
      intro q hq e
      have := hs'.1 q hq
      simp only [ltG, h, e] at this; exact sF this
    · rw [if_neg h, if_neg h]; rfl

theorem sN {p : List aB → Bool} : ∀ {gs : List (List aF × List aB)} {last : Option (List aF)}, rR p last gs = true ↔ (∀ g ∈ gs, nJ g.1 = true ∧ p g.2 = true) ∧ qW gs ∧ (∀ q, last = some q → ∀ g ∈ gs, jO q g.1 < 0)
  | [], last => by simp [rR]
  | g :: gs, last => by
    unfold rR
    simp only [Bool.and_eq_true, sN (gs := gs), List.mem_cons, List.pairwise_cons]
    constructor
    · rintro ⟨⟨⟨h1, h2⟩, h3⟩, h4, h5, h6⟩
      refine ⟨?_, ⟨fun q hq => h6 _ rfl q hq, h5⟩, ?_⟩
      · rintro q (rfl | hq)
        · exact ⟨h1, h3⟩
        · exact h4 q hq
      · rintro q rfl x (rfl | hx)
        · simpa [ahd] using h2
        · simp only [ahd, decide_eq_true_eq] at h2
          exact lE.trans _ _ _ h2 (h6 _ rfl x hx)
    · rintro ⟨h1, ⟨h2, h3⟩, h4⟩
      refine ⟨⟨⟨(h1 g (.inl rfl)).1, ?_⟩, (h1 g (.inl rfl)).2⟩, fun q hq => h1 q (.inr hq), h3, ?_⟩
      · unfold ahd
        split
        · rfl
        · exact decide_eq_true (h4 _ rfl g (.inl rfl))
      · rintro q hq x hx
        cases hq
        exact h2 x hx

theorem sO {l : List aC} (h : sD l = true) : l.length ≤ 4096 ∧ (∀ g ∈ groups l, nJ g.1 = true ∧ kN g.2 = true) ∧ qW (groups l) := by
  simp only [sD, Bool.and_eq_true, decide_eq_true_eq] at h
  obtain ⟨h1, h2, _⟩ := sN.1 h.2
  exact ⟨h.1, h1, h2⟩

theorem PM {l : List aC} (h : sD l = true) (r : List aF) : kN (look (groups l) r) = true := by
  rcases vQ (groups l) r with ⟨h1, _⟩ | ⟨g, hg, _, h1⟩
  · rw [h1]; exact VC
  · rw [h1]; exact ((sO h).2.1 g hg).2

theorem qO {l : List aC} (h : qW (groups l)) (r : List aF) : look (groups l) r = bY l r := by
  rw [← sZ h, xG]

theorem MI (r : List aF) (f : List aB) (e : aC) (l : List aC) : gA r f (e :: l) = if e.Row = r then gA r (f ++ [jE e]) l else (r, f) :: gA e.Row [jE e] l := rfl

theorem IZ (r : List aF) : ∀ (f2 f : List aB) (l : List aC), gA r f (gY r f2 ++ l) = gA r (f ++ f2) l
  | [], f, l => by simp [gY]
  | j :: f2, f, l => by
    show gA r f (⟨r, j.At, j.Net⟩ :: (gY r f2 ++ l)) = _
    rw [MI, if_pos rfl, IZ r f2]
    simp [jE]

theorem GL : ∀ {gs : List (List aF × List aB)}, qW gs → Full gs → groups (flat gs) = gs
  | [], _, _ => rfl
  | (r, f) :: gs, hs, hf => by
    have hs' := List.pairwise_cons.1 hs
    have hne := hf (r, f) (by simp)
    have ih := GL hs'.2 (fun g hg => hf g (by simp [hg]))
    cases f with
    | nil => exact absurd rfl hne
    | cons j f =>
      rw [qB]
      show gA r [jE ⟨r, j.At, j.Net⟩] (gY r f ++ flat gs) = _
      rw [IZ]
      have key : ∀ (F : List aB), gA r F (flat gs) = (r, F) :: groups (flat gs) := by
        intro F
        cases gs with
        | nil => rfl
        | cons g gs =>
          obtain ⟨q, f'⟩ := g
          have hq := hf (q, f') (by simp)
          cases f' with
          | nil => exact absurd rfl hq
          | cons j' f' =>
            have hqr : q ≠ r := fun e => by
              have := hs'.1 (q, j' :: f') (by simp)
              simp only [ltG, e] at this; exact sF this
            rw [qB]
            show gA r F (⟨q, j'.At, j'.Net⟩ :: (gY q f' ++ flat gs)) = _
            rw [gA, if_neg hqr]
            rfl
      rw [key, ih]
      rfl

def AP (gs : List (List aF × List aB)) : List (List aF × List aB) := gs.filter fun g => !g.2.isEmpty

theorem xA : ∀ (gs : List (List aF × List aB)), flat (AP gs) = flat gs
  | [] => rfl
  | (r, []) :: gs => by
    have : AP ((r, []) :: gs) = AP gs := rfl
    rw [this, xA gs, qB]; rfl
  | (r, j :: f) :: gs => by
    have : AP ((r, j :: f) :: gs) = (r, j :: f) :: AP gs := rfl
    rw [this, qB, qB, xA gs]

theorem QU (gs : List (List aF × List aB)) : Full (AP gs) := by
  intro g hg
  have := (List.mem_filter.1 hg).2
  intro h; rw [h] at this; simp at this

theorem wX {gs : List (List aF × List aB)} (hs : qW gs) : groups (flat gs) = AP gs := by
  rw [← xA]
  exact GL (hs.filter _) (QU gs)

theorem PZ {gs : List (List aF × List aB)} (hs : qW gs) (r : List aF) : look (groups (flat gs)) r = look gs r := by
  have h1 := sZ (gs := AP gs) (hs.filter _) r
  rw [wX hs, ← h1, ← sZ hs, xA]

theorem QM {gs : List (List aF × List aB)} (hs : qW gs) (hm : ∀ g ∈ gs, nJ g.1 = true ∧ kN g.2 = true) (hl : (flat gs).length ≤ 4096) : sD (flat gs) = true := by
  simp only [sD, Bool.and_eq_true, decide_eq_true_eq]
  refine ⟨hl, sN.2 ?_⟩
  rw [wX hs]
  exact ⟨fun g hg => hm g (List.mem_filter.1 hg).1, hs.filter _, by simp⟩

def BD (by1 : List aB → List aB × Int) (gs : List (List aF × List aB)) : List (List aF × List aB) := gs.map fun g => (g.1, (by1 g.2).1)

theorem JN {by1 : List aB → List aB × Int} {gs : List (List aF × List aB)} (hs : qW gs) : qW (BD by1 gs) := by
  rw [qW, BD, List.pairwise_map]; exact hs

theorem GZ {by1 : List aB → List aB × Int} (h0 : (by1 []).1 = []) : ∀ (gs : List (List aF × List aB)) (r : List aF), look (BD by1 gs) r = (by1 (look gs r)).1
  | [], r => h0.symm
  | g :: gs, r => by
    show look ((g.1, (by1 g.2).1) :: BD by1 gs) r = _
    rw [sM, sM]
    by_cases h : g.1 = r
    · rw [if_pos h, if_pos h]
    · rw [if_neg h, if_neg h]; exact GZ h0 gs r

theorem MC {by1 : List aB → List aB × Int} : ∀ {gs : List (List aF × List aB)} {out : List aC}, out.length ≤ 4096 → (pU by1 gs out).2 = 0 → (∀ g ∈ gs, (by1 g.2).2 = 0) ∧ (pU by1 gs out).1 = out ++ flat (BD by1 gs) ∧ (pU by1 gs out).1.length ≤ 4096
  | [], out, ho, _ => by simp [pU, BD, flat, ho]
  | g :: gs, out, ho, h => by
    unfold pU at h ⊢
    by_cases e1 : (by1 g.2).2 = 0
    · rw [if_neg (by simp [e1])] at h ⊢
      by_cases e2 : 4096 < (out ++ gY g.1 (by1 g.2).1).length
      · rw [if_pos e2] at h; simp at h
      · rw [if_neg e2] at h ⊢
        obtain ⟨h1, h2, h3⟩ := MC (by omega) h
        refine ⟨?_, ?_, h3⟩
        · intro q hq
          rcases List.mem_cons.1 hq with rfl | hq
          · exact e1
          · exact h1 q hq
        · rw [h2]; simp [BD, qB]
    · rw [if_pos e1] at h; exact absurd h e1

theorem JS {by1 : List aB → List aB × Int} : ∀ {gs : List (List aF × List aB)} {out : List aC}, (pU by1 gs out).2 ≠ 0 → (pU by1 gs out).1 = []
  | [], out, h => by simp [pU] at h
  | g :: gs, out, h => by
    unfold pU at h ⊢
    split
    · rfl
    · rename_i e1
      rw [if_neg e1] at h
      split
      · rfl
      · rename_i e2
        rw [if_neg e2] at h
        exact JS h

theorem QD {l : List aC} (hl : okL l) {g : List aF × List aB} (hg : g ∈ groups l) : g.1.length ≤ 4398046510976 := by
  obtain ⟨_, e, he, h⟩ := EL hg
  rw [h]; exact hl.2 e he

end Go.Abs
namespace Go.Abs
theorem QF : @cT = @lF aC _ := rfl

theorem OU : @dB = @dG aC _ := rfl

theorem IW (cmp) : ∀ k, @eW cmp k = @dH aC _ cmp k
  | 0 => rfl
  | k + 1 => by
    show dB cmp _ = dG cmp _
    rw [IW cmp k, OU]

theorem QA : @dN = @mL aC _ := by
  funext d a m b cmp
  unfold dN mL
  simp only [IW]

theorem IC : @eC = @sI aC _ := by
  funext d n cmp
  unfold eC sI fV uL
  unfold gF kH dW uJ
  unfold gI uM gL iC
  unfold fY rJ gC kJ
  unfold dU rA
  rw [QA, QF]
  rfl

end Go.Abs
namespace Go.Abs
open Go
theorem zX {l : List aC} {f : aC → Option Bool} {g : aC → Bool} (hl : l.length ≤ 1099511627776) (hf : ∀ x ∈ l, f x = some (g x)) : cB l f = some (l.any g) := by
  unfold cB eO eJ
  obtain ⟨x, e, hx⟩ := zD hl hf l 0 rfl (Nat.zero_le _)
  have e' : lp (fun s => eK f l (l.length : Nat) s) 0 = some x := e
  rw [e']
  rcases hx with ⟨rfl, h⟩ | ⟨i, rfl, _, _, h, _⟩
  · simp [cU, h]
  · simp [h]

def unE (e : aC) : Bool := ((!nJ e.Row) || (decide ((1048576 : Int) < e.Net))) || (decide (e.Net < (-1048576 : Int)))

def JJ (e : aC) : Bool := (decide (e.At < (-1 : Int))) || (decide ((1125899906842624 : Int) < e.At))

def NM (x y : aC) : Int := if jO x.Row y.Row ≠ 0 then jO x.Row y.Row else nI x.At y.At

abbrev okE (x : aC) : Prop := nJ x.Row = true

abbrev leE (x y : aC) : Prop := jO x.Row y.Row < 0 ∨ (x.Row = y.Row ∧ x.At ≤ y.At)

theorem or_eq (a b : Int) : qC [a, b] = some (if a ≠ 0 then a else b) := by
  unfold qC rU
  have w1 : IntKind.i64.wrap (1 : Int) = 1 := by rw [iF] <;> omega
  have w2 : IntKind.i64.wrap (2 : Int) = 2 := by rw [iF] <;> omega
  have b0 : (fun s => fM 0 [a, b] (([a, b] : List Int).length : Nat) s) (0 : Int) = some (if a ≠ 0 then .inr (.inr a) else .inl 1) := by
    show fM _ _ _ _ = _
    unfold fM
    rw [bB ⟨by omega, by simp⟩]
    by_cases h : a = 0 <;> simp [h, w1]
  have b1 : (fun s => fM 0 [a, b] (([a, b] : List Int).length : Nat) s) (1 : Int) = some (if b ≠ 0 then .inr (.inr b) else .inl 2) := by
    show fM _ _ _ _ = _
    unfold fM
    rw [bB ⟨by omega, by simp⟩]
    by_cases h : b = 0 <;> simp [h, w2]
  have b2 : (fun s => fM 0 [a, b] (([a, b] : List Int).length : Nat) s) (2 : Int) = some (.inr (.inl ())) := by
    show fM _ _ _ _ = _
    unfold fM
    simp
  by_cases h : a = 0
  · rw [if_neg (by simp [h])] at b0
    rw [fN b0]
    by_cases h2 : b = 0
    · rw [if_neg (by simp [h2])] at b1
      rw [fN b1, cK b2]
      simp [oU, h, h2]
    · rw [if_pos h2] at b1
      rw [cK b1]
      simp [h]
  · rw [if_pos h] at b0
    rw [cK b0]
    simp [h]

theorem TW {x y : aC} (hx : okE x) (hy : okE y) : kV x y = some (NM x y) := by
  unfold kV NM
  rw [FZ, hx, hy]
  simp only [Bool.and_self, if_true, Option.bind_some, GI, or_eq]

theorem UB (x y : aC) : NM x y < 0 ↔ ¬ leE y x := by
  unfold NM leE
  have ha := lE.anti x.Row y.Row
  have hb := lE.anti y.Row x.Row
  have he := lE.eq x.Row y.Row
  by_cases h : jO x.Row y.Row = 0
  · rw [if_neg (by simp [h])]
    have e := he.1 h
    have : ¬ jO y.Row x.Row < 0 := by rw [e]; exact sF
    unfold nI
    constructor
    · intro h1 h2
      rcases h2 with h2 | ⟨_, h2⟩
      · exact this h2
      · split at h1
        · omega
        · split at h1 <;> omega
    · intro h1
      have : ¬ y.At ≤ x.At := fun h2 => h1 (.inr ⟨e.symm, h2⟩)
      rw [if_pos (by omega)]; omega
  · rw [if_pos h]
    have hne : y.Row ≠ x.Row := fun e => h (he.2 e.symm)
    constructor
    · intro h1 h2
      rcases h2 with h2 | ⟨h2, _⟩
      · have := hb.1 h2; omega
      · exact hne h2
    · intro h1
      have : ¬ jO y.Row x.Row < 0 := fun h2 => h1 (.inl h2)
      rw [hb] at this
      omega

theorem QI (x y : aC) : leE x y ∨ leE y x := by
  unfold leE
  by_cases h : jO x.Row y.Row = 0
  · have e := (lE.eq _ _).1 h
    rcases Int.le_total x.At y.At with h1 | h1
    · exact .inl (.inr ⟨e, h1⟩)
    · exact .inr (.inr ⟨e.symm, h1⟩)
  · by_cases h1 : jO x.Row y.Row < 0
    · exact .inl (.inl h1)
    · exact .inr (.inl ((lE.anti _ _).2 (by omega)))

theorem RM {x y z : aC} (h1 : leE x y) (h2 : leE y z) : leE x z := by
  rcases h1 with h1 | ⟨e1, h1⟩ <;> rcases h2 with h2 | ⟨e2, h2⟩
  · exact .inl (lE.trans _ _ _ h1 h2)
  · exact .inl (e2 ▸ h1)
  · exact .inl (e1.symm ▸ h2)
  · exact .inr ⟨e1.trans e2, by omega⟩

theorem XB : Cmp okE leE (fun y0 y1 => kV y0 y1) where
  ans x y hx hy := ⟨_, TW hx hy, UB x y⟩
  trans x y z _ _ _ h1 h2 := RM h1 h2
  total x y _ _ := QI x y

theorem WZ {l : List aC} (hl : l.length ≤ 1099511627776) (ho : ∀ e ∈ l, okE e) : ∃ r, r.Perm l ∧ Srt leE r ∧ cI l (fun y0 y1 => kV y0 y1) = some r := by
  obtain ⟨r, r1, r2, r3⟩ := GF XB (d := l) ho hl
  refine ⟨r, r1, r2, ?_⟩
  unfold cI
  rw [IC, r3]; rfl

theorem KH : ∀ {l : List aC} {r : List aF} {f : List aB}, Srt leE l → (∀ e ∈ l, e.Row = r ∨ jO r e.Row < 0) → qW (gA r f l) ∧ ∀ g ∈ gA r f l, g.1 = r ∨ jO r g.1 < 0
  | [], r, f, _, _ => by simp [gA]
  | e :: l, r, f, hs, hr => by
    have hs' := List.pairwise_cons.1 hs
    rw [MI]
    by_cases h : e.Row = r
    · rw [if_pos h]
      exact KH hs'.2 (fun x hx => hr x (by simp [hx]))
    · rw [if_neg h]
      have hlt : jO r e.Row < 0 := (hr e (by simp)).resolve_left h
      obtain ⟨h1, h2⟩ := KH (r := e.Row) (f := [jE e]) hs'.2 (fun x hx => by
        rcases hs'.1 x hx with h | ⟨h, _⟩
        · exact .inr h
        · exact .inl h.symm)
      have key : ∀ g ∈ gA e.Row [jE e] l, jO r g.1 < 0 := fun g hg => by
        rcases h2 g hg with h | h
        · rw [h]; exact hlt
        · exact lE.trans _ _ _ hlt h
      refine ⟨List.pairwise_cons.2 ⟨key, h1⟩, ?_⟩
      intro g hg
      rcases List.mem_cons.1 hg with rfl | hg
      · exact .inl rfl
      · exact .inr (key g hg)

theorem tH {l : List aC} (hs : Srt leE l) : qW (groups l) := by
  cases l with
  | nil => exact List.Pairwise.nil
  | cons e l =>
    have hs' := List.pairwise_cons.1 hs
    exact (KH hs'.2 (fun x hx => by
      rcases hs'.1 x hx with h | ⟨h, _⟩
      · exact .inr h
      · exact .inl h.symm)).1

abbrev BF (rs : List (List aF)) : Prop := rs.Pairwise fun a b => jO a b < 0

def wJ (r : List aF) : List (List aF) → List (List aF)
  | [] => [r]
  | x :: xs => if jO x r < 0 then x :: wJ r xs else if x = r then x :: xs else r :: x :: xs

def rowsOf (l : List aC) : List (List aF) := l.foldl (fun rs e => wJ e.Row rs) []

theorem CM {r x : List aF} : ∀ {rs : List (List aF)}, x ∈ wJ r rs ↔ x = r ∨ x ∈ rs
  | [] => by simp [wJ]
  | y :: ys => by
    unfold wJ
    split
    · simp only [List.mem_cons, CM (rs := ys)]
      constructor
      · rintro (h | h | h)
        · exact .inr (.inl h)
        · exact .inl h
        · exact .inr (.inr h)
      · rintro (h | h | h)
        · exact .inr (.inl h)
        · exact .inl h
        · exact .inr (.inr h)
    · split
      · rename_i h; subst h; simp
      · simp

theorem JC {r : List aF} : ∀ {rs : List (List aF)}, BF rs → BF (wJ r rs)
  | [], _ => by simp [wJ]
  | y :: ys, hs => by
    have hs' := List.pairwise_cons.1 hs
    unfold wJ
    split
    · rename_i h
      refine List.pairwise_cons.2 ⟨fun z hz => ?_, JC hs'.2⟩
      rcases CM.1 hz with rfl | hz
      · exact h
      · exact hs'.1 z hz
    · rename_i h
      split
      · exact hs
      · rename_i hne
        have hlt : jO r y < 0 := by
          have h0 : jO y r ≠ 0 := fun e => hne ((lE.eq _ _).1 e)
          exact (lE.anti _ _).2 (by omega)
        refine List.pairwise_cons.2 ⟨fun z hz => ?_, hs⟩
        rcases List.mem_cons.1 hz with rfl | hz
        · exact hlt
        · exact lE.trans _ _ _ hlt (hs'.1 z hz)

theorem zY : ∀ (l : List aC) (rs : List (List aF)), BF rs → BF (l.foldl (fun rs e => wJ e.Row rs) rs) ∧ ∀ x, x ∈ l.foldl (fun rs e => wJ e.Row rs) rs ↔ x ∈ rs ∨ ∃ e ∈ l, e.Row = x
  | [], rs, hs => ⟨hs, by simp⟩
  | e :: l, rs, hs => by
    obtain ⟨h1, h2⟩ := zY l (wJ e.Row rs) (JC hs)
    refine ⟨h1, fun x => ?_⟩
    simp only [List.foldl_cons]
    rw [h2 x, CM]
    simp only [List.mem_cons, exists_eq_or_imp]
    constructor
    · rintro ((h | h) | h)
      · exact .inr (.inl h.symm)
      · exact .inl h
      · exact .inr (.inr h)
    · rintro (h | h | h)
      · exact .inl (.inr h)
      · exact .inl (.inl h.symm)
      · exact .inr h

theorem ED (l : List aC) : BF (rowsOf l) := (zY l [] List.Pairwise.nil).1

theorem vO {l : List aC} {x : List aF} : x ∈ rowsOf l ↔ ∃ e ∈ l, e.Row = x := by
  have := (zY l [] List.Pairwise.nil).2 x
  simpa [rowsOf] using this

theorem KT : ∀ {a b : List (List aF)}, BF a → BF b → (∀ x, x ∈ a ↔ x ∈ b) → a = b
  | [], [], _, _, _ => rfl
  | [], y :: ys, _, _, h => absurd ((h y).2 (by simp)) (by simp)
  | x :: xs, [], _, _, h => absurd ((h x).1 (by simp)) (by simp)
  | x :: xs, y :: ys, ha, hb, h => by
    have ha' := List.pairwise_cons.1 ha
    have hb' := List.pairwise_cons.1 hb
    have e : x = y := by
      rcases List.mem_cons.1 ((h x).1 (by simp)) with h1 | h1
      · exact h1
      · rcases List.mem_cons.1 ((h y).2 (by simp)) with h2 | h2
        · exact h2.symm
        · exact absurd (lE.trans _ _ _ (hb'.1 x h1) (ha'.1 y h2)) sF
    subst e
    rw [KT ha'.2 hb'.2 fun z => ?_]
    constructor
    · intro hz
      rcases List.mem_cons.1 ((h z).1 (by simp [hz])) with h1 | h1
      · subst h1; exact absurd (ha'.1 z hz) sF
      · exact h1
    · intro hz
      rcases List.mem_cons.1 ((h z).2 (by simp [hz])) with h1 | h1
      · subst h1; exact absurd (hb'.1 z hz) sF
      · exact h1

def wC (l : List aC) : List (List aF × List aB) := (rowsOf l).map fun r => (r, bY l r)

theorem KY (l : List aC) : qW (wC l) := by
  rw [qW, wC, List.pairwise_map]; exact ED l

theorem KZ {l : List aC} {r : List aF} (h : ∀ e ∈ l, e.Row ≠ r) : bY l r = [] := by
  unfold bY
  rw [List.map_eq_nil_iff, List.filter_eq_nil_iff]
  intro e he
  simpa using h e he

theorem AG (l : List aC) (r : List aF) : look (wC l) r = bY l r := by
  rcases vQ (wC l) r with ⟨h1, h2⟩ | ⟨g, hg, h1, h2⟩
  · rw [h1, KZ]
    intro e he hr
    have : (r, bY l r) ∈ wC l := List.mem_map.2 ⟨r, vO.2 ⟨e, he, hr⟩, rfl⟩
    exact h2 _ this rfl
  · rw [h2]
    obtain ⟨q, _, rfl⟩ := List.mem_map.1 hg
    simp only at h1
    rw [h1]

theorem JR {a b : List aC} (h : a.Perm b) (r : List aF) : (bY a r).Perm (bY b r) := (h.filter _).map _

theorem LL {l l' : List aC} (hp : l'.Perm l) (hs : Srt leE l') : (groups l').map (·.1) = rowsOf l := by
  refine KT ?_ (ED l) fun x => ?_
  · rw [BF, List.pairwise_map]; exact tH hs
  · rw [vO]
    constructor
    · intro h
      obtain ⟨g, hg, rfl⟩ := List.mem_map.1 h
      obtain ⟨_, e, he, h1⟩ := EL hg
      exact ⟨e, hp.mem_iff.1 he, h1.symm⟩
    · rintro ⟨e, he, rfl⟩
      have he' : e ∈ flat (groups l') := by rw [xG]; exact hp.mem_iff.2 he
      obtain ⟨g, hg, h1⟩ := List.mem_flatMap.1 he'
      obtain ⟨j, _, rfl⟩ := List.mem_map.1 h1
      exact List.mem_map.2 ⟨g, hg, rfl⟩

theorem JP {l : List aB} (ht : ∀ j ∈ l, -2 < j.At) : Up (-2) (tR l) :=
  yG (by rw [List.map_map]; simpa [Function.comp_def] using zW ht)

theorem zV {l : List aB} (ht : ∀ j ∈ l, -2 < j.At) {t : Int} (h1 : -2 < t) (h2 : t < 1125899906842624) : val (tR l) t = val l t := by
  have h0 : val l (-2) = 0 := uX fun j hj => ht j hj
  have := AM (F := val l) (zW ht) (fun s t' _ hst hlt hn => wW hst fun j hj hc => hn j.At (CO.2 (Or.inr ⟨j, List.mem_filter.2 ⟨hj, by simp; omega⟩, rfl⟩)) hc) t (by omega) h2
  rw [h0] at this
  unfold tR
  rw [this]; omega

theorem OD {f g : List aB} (h : f.Perm g) (hf : f.any xO = false) : tR f = tR g := by
  have hg : ∀ j ∈ g, -2 < j.At := fun j hj => (wD hf j (h.mem_iff.2 hj)).1
  exact KC (fun j hj => (wD hf j hj).1) (JP hg) fun t h1 h2 => by rw [zV hg h1 h2, IS h]

theorem DA {f g : List aB} (h : f.Perm g) (p : aB → Bool) : f.any p = g.any p := by
  cases h1 : g.any p
  · rw [List.any_eq_false] at h1 ⊢
    exact fun x hx => h1 x (h.mem_iff.1 hx)
  · obtain ⟨x, hx, hp⟩ := List.any_eq_true.1 h1
    exact List.any_eq_true.2 ⟨x, h.mem_iff.2 hx, hp⟩

theorem OC {f g : List aB} (h : f.Perm g) : lQ f = lQ g := by
  unfold lQ
  rw [DA h sU, DA h xO]
  split
  · rfl
  · split
    · rfl
    · rename_i h2
      rw [OD h (by rw [DA h xO]; simpa using h2)]

theorem PC (l : List aB) : (lQ l).1.length ≤ 1024 := by
  unfold lQ
  split
  · simp
  · split
    · simp
    · exact SI _

theorem EO {by1 : List aB → List aB × Int} : ∀ {gs hs : List (List aF × List aB)} {out : List aC}, gs.map (fun g => (g.1, by1 g.2)) = hs.map (fun g => (g.1, by1 g.2)) → pU by1 gs out = pU by1 hs out
  | [], [], _, _ => rfl
  | [], _ :: _, _, h => by simp at h
  | _ :: _, [], _, h => by simp at h
  | g :: gs, k :: hs, out, h => by
    simp only [List.map_cons, List.cons.injEq, Prod.mk.injEq] at h
    obtain ⟨⟨h1, h2⟩, h3⟩ := h
    unfold pU
    rw [h1, h2]
    split
    · rfl
    · split
      · rfl
      · exact EO h3

theorem LW {l l' : List aC} (hp : l'.Perm l) (hs : Srt leE l') : (groups l').map (fun g => (g.1, lQ g.2)) = (wC l).map (fun g => (g.1, lQ g.2)) := by
  have h1 : (groups l').map (fun g => (g.1, lQ g.2)) = ((groups l').map (·.1)).map (fun r => (r, lQ (bY l r))) := by
    rw [List.map_map]
    apply List.map_congr_left
    intro g hg
    have hj : g.2 = bY l' g.1 := by rw [← qO (tH hs), CN (tH hs) hg]
    simp only [Function.comp]
    rw [hj, OC (JR hp g.1)]
  rw [h1, LL hp hs, wC, List.map_map]
  rfl

def jT (l : List aC) : List aC × Int := if l.any unE then ([], 2) else if l.any JJ then ([], 13) else pU lQ (wC l) []

theorem MV {l : List aC} (h : l.any unE = false) : ∀ e ∈ l, nJ e.Row = true ∧ e.Net ≤ 1048576 ∧ -1048576 ≤ e.Net := by
  intro e he
  have := List.any_eq_false.1 h e he
  simp only [unE, Bool.or_eq_true, not_or, Bool.not_eq_true', decide_eq_true_eq, Bool.not_eq_false, Bool.not_eq_true] at this
  exact ⟨by simpa using this.1.1, by omega, by omega⟩

theorem SE {l : List aC} (hl : okL l) (hn : l.length ≤ 1099511627776) : rE l = some (jT l) := by
  unfold rE jT
  rw [zX (g := unE) hn (fun x _ => by simp [oL, BM, unE])]
  simp only [Option.bind_some]
  cases h1 : l.any unE
  · rw [zX (f := fun y0 => oN y0) (g := JJ) hn (fun x _ => rfl)]
    simp only [cond_false, Option.bind_some, Bool.false_eq_true, if_false]
    cases h2 : l.any JJ
    · simp only [cond_false, Bool.false_eq_true, if_false]
      have hc : dV l = some l := by unfold dV; exact bB ⟨by omega, by omega⟩
      obtain ⟨r, r1, r2, r3⟩ := WZ hn (fun e he => (MV h1 e he).1)
      rw [hc]
      simp only [Option.bind_some]
      rw [r3]
      simp only [Option.bind_some]
      have hr : okL r := ⟨by rw [r1.length_eq]; exact hl.1, fun e he => hl.2 e (r1.mem_iff.1 he)⟩
      rw [PB hr (by1 := lQ) (fun g hg => ⟨by
        unfold oR
        have hgl : g.2.length ≤ 1099511627776 := by
          have h3 : g.2 = bY r g.1 := by rw [← qO (tH r2), CN (tH r2) hg]
          rw [h3, bY, List.length_map]
          exact Nat.le_trans (List.length_filter_le _ _) (by rw [r1.length_eq]; exact hn)
        rw [norm_eq hgl]; rfl, PC _, QD hr hg⟩)]
      simp only [Option.bind_some]
      rw [EO (LW r1 r2)]
    · simp
  · simp

theorem RQ : lQ [] = ([], 0) := rfl

theorem zE {l : List aC} (h : (jT l).2 = 0) : l.any unE = false ∧ l.any JJ = false ∧ (∀ g ∈ wC l, (lQ g.2).2 = 0) ∧ (jT l).1 = flat (BD lQ (wC l)) ∧ (jT l).1.length ≤ 4096 := by
  unfold jT at h ⊢
  cases h1 : l.any unE
  · rw [h1] at h
    simp only [Bool.false_eq_true, if_false] at h ⊢
    cases h2 : l.any JJ
    · rw [h2] at h
      simp only [Bool.false_eq_true, if_false] at h ⊢
      obtain ⟨a, b, c⟩ := MC (by simp) h
      exact ⟨trivial, trivial, a, by simpa using b, c⟩
    · rw [h2] at h; simp at h
  · rw [h1] at h; simp at h

theorem NQ {l : List aC} (h : (jT l).2 = 0) (r : List aF) : look (groups (jT l).1) r = (lQ (bY l r)).1 := by
  obtain ⟨_, _, _, h4, _⟩ := zE h
  rw [h4, PZ (JN (KY l)), GZ (by rw [RQ]), AG]

theorem CL {f : List aB} (h : (lQ f).2 = 0) : f.any sU = false ∧ f.any xO = false ∧ kN (tR f) = true ∧ lQ f = (tR f, 0) := by
  unfold lQ at h ⊢
  cases h1 : f.any sU
  · rw [h1] at h
    simp only [Bool.false_eq_true, if_false] at h ⊢
    cases h2 : f.any xO
    · rw [h2] at h
      simp only [Bool.false_eq_true, if_false] at h ⊢
      unfold told at h ⊢
      cases h3 : kN (tR f)
      · rw [h3] at h; simp at h
      · simp
    · rw [h2] at h; simp at h
  · rw [h1] at h; simp at h

theorem GM {l : List aC} (h : (jT l).2 = 0) (r : List aF) : (lQ (bY l r)).2 = 0 := by
  obtain ⟨_, _, h3, _, _⟩ := zE h
  rcases vQ (wC l) r with ⟨e, _⟩ | ⟨g, hg, _, e⟩
  · rw [AG] at e; rw [e]; rfl
  · rw [AG] at e; rw [e]; exact h3 g hg

theorem GQ {l : List aC} (h : (jT l).2 = 0) : sD (jT l).1 = true := by
  obtain ⟨h1, _, h3, h4, h5⟩ := zE h
  rw [h4] at h5 ⊢
  refine QM (JN (KY l)) (fun g hg => ?_) h5
  obtain ⟨q, hq, rfl⟩ := List.mem_map.1 hg
  have h6 := CL (h3 q hq)
  obtain ⟨r, hr, rfl⟩ := List.mem_map.1 hq
  obtain ⟨e, he, rfl⟩ := vO.1 hr
  exact ⟨(MV h1 e he).1, by rw [h6.2.2.2]; exact h6.2.2.1⟩

theorem EJ {l : List aC} (h : (jT l).2 ≠ 0) : (jT l).1 = [] := by
  unfold jT at h ⊢
  split
  · rfl
  · rename_i h1
    rw [if_neg h1] at h
    split
    · rfl
    · rename_i h2
      rw [if_neg h2] at h
      exact JS h

end Go.Abs
namespace Go.Abs
open Go
def vL : aF := ⟨1, 1, ByteArray.empty⟩

theorem VV {l : List aC} (h : l.length ≤ 4096) (hr : ∀ e ∈ l, e.Row.length ≤ 8) : okL l := ⟨by omega, fun e he => by have := hr e he; omega⟩

end Go.Abs
namespace Go.Abs
open Go
theorem xT : okL [] := ⟨by simp, by simp⟩

theorem SB {gs : List (List aF × List aB)} (h : ∀ g ∈ gs, g.1.length ≤ 4398046510976) (hl : (flat gs).length ≤ 4096) : okL (flat gs) := by
  refine ⟨by omega, fun e he => ?_⟩
  obtain ⟨g, hg, h1⟩ := List.mem_flatMap.1 he
  obtain ⟨j, _, rfl⟩ := List.mem_map.1 h1
  exact h g hg

theorem QL {l : List aC} (hl : okL l) : okL (jT l).1 := by
  by_cases h : (jT l).2 = 0
  · obtain ⟨_, _, _, h4, h5⟩ := zE h
    rw [h4] at h5 ⊢
    refine SB (fun g hg => ?_) h5
    obtain ⟨q, hq, rfl⟩ := List.mem_map.1 hg
    obtain ⟨r, hr, rfl⟩ := List.mem_map.1 hq
    obtain ⟨e, he, rfl⟩ := vO.1 hr
    exact hl.2 e he
  · rw [EJ h]; exact xT

end Go.Abs
namespace Go.Abs
open Go
theorem VX {l : List aC} (m : ∀ a ∈ l, rB a) (y : List.length l * 40 ≤ 140737488351232) : okL l :=
  ⟨by omega, fun e he => by have := (m e he).1.2; omega⟩

end Go.Abs
namespace Go.Abs
open Go
theorem OV {l : List aC} (hm : sD l = true) {e : aC} (he : e ∈ l) : nJ e.Row = true ∧ -2 < e.At ∧ e.At < 1125899906842624 ∧ e.Net ≠ 0 ∧ e.Net ≤ 1048576 ∧ -1048576 ≤ e.Net := by
  obtain ⟨_, h2, _⟩ := sO hm
  have he' : e ∈ flat (groups l) := by rw [xG]; exact he
  obtain ⟨g, hg, h1⟩ := List.mem_flatMap.1 he'
  obtain ⟨j, hj, rfl⟩ := List.mem_map.1 h1
  obtain ⟨a, b⟩ := h2 g hg
  exact ⟨a, (sL.1 b).2.above j hj⟩

theorem EE {l : List aC} (hm : sD l = true) (r : List aF) : kN (bY l r) = true := by
  rw [← qO (sO hm).2.2]; exact PM hm r

end Go.Abs
namespace Go.Abs
open Go
theorem CI {l : List aC} (hl : okL l) (hn : l.length ≤ 1099511627776) {r : List aF} : nB l r = some (bY l r) := by
  unfold nB qS
  rw [tX (l := l) (body := fun s : List aB × Int => jZ l r s.1 s.2) (fun o i => (o, i)) (fun o t => o ++ bY t r) (fun o t => o.length + t.length ≤ 1099511627776) [] ?_ ?_ (by simpa using hn)]
  · rfl
  · intro i a t o ha hi
    left
    obtain ⟨d1, d2, d3, d4⟩ := idx ha (by omega)
    simp only [List.length_cons] at hi
    have hr := hl.2 a (List.mem_of_getElem? ha)
    have hb : jZ l r o (i : Int) = some (.inl (if a.Row = r then o ++ [jE a] else o, ((i + 1 : Nat) : Int))) := by
      simp only [jZ, nR, d1, cond_true, bB d2, d3, d4, HJ a.Row r (by omega), Option.bind_some]
      by_cases e : a.Row = r
      · simp only [e, decide_true, cond_true, if_true]
        rw [bB (by simp only [List.length_cons, List.length_nil]; omega)]; rfl
      · simp [e]
    refine ⟨_, hb, ?_, ?_⟩
    · split
      · simp; omega
      · omega
    · by_cases e : a.Row = r <;> simp [bY, e]
  · intro o _
    show jZ _ _ _ _ = _
    simp only [jZ, kS, cond_false]
    simp [bY]

end Go.Abs
namespace Go.Abs
open Go
theorem NG {c : Int} : ∀ {l : List Int} {m : Int}, c ≤ l.foldl mn m ↔ c ≤ m ∧ ∀ x ∈ l, c ≤ x
  | [], m => by simp
  | a :: l, m => by
    rw [List.foldl_cons, NG]
    unfold mn
    constructor
    · rintro ⟨h1, h2⟩
      have h3 : c ≤ m ∧ c ≤ a := by split at h1 <;> omega
      refine ⟨h3.1, fun x hx => ?_⟩
      rcases List.mem_cons.1 hx with rfl | hx
      · exact h3.2
      · exact h2 x hx
    · rintro ⟨h1, h2⟩
      have := h2 a (by simp)
      exact ⟨by split <;> omega, fun x hx => h2 x (by simp [hx])⟩

theorem FX {t : Int} : ∀ {f : List aB} {l v : Int}, tF l f → v + val f t = v ∨ v + val f t ∈ parts v f
  | [], l, v, _ => .inl (by simp [val])
  | j :: r, l, v, h => by
    unfold parts
    rw [cF]
    by_cases e : j.At ≤ t
    · rw [if_pos e]
      right
      rcases FX (t := t) (v := v + j.Net) h.2 with h1 | h1
      · rw [show v + (j.Net + val r t) = v + j.Net by omega]; simp
      · rw [show v + (j.Net + val r t) = v + j.Net + val r t by omega]; exact List.mem_cons_of_mem _ h1
    · left
      rw [if_neg e, h.2.tZ (by omega)]; omega

theorem GP {f : List aB} (hf : kN f = true) : 0 ≤ yC f ↔ ∀ t, 0 ≤ val f t := by
  have hr := (sL.1 hf).2
  unfold yC
  rw [NG]
  constructor
  · rintro ⟨_, h2⟩ t
    rcases FX (t := t) (v := 0) hr with h | h
    · omega
    · rw [parts_eq hr] at h
      obtain ⟨j, hj, h⟩ := List.mem_map.1 h
      have := h2 _ (List.mem_map.2 ⟨j, hj, rfl⟩)
      omega
  · intro h
    refine ⟨h _, fun x hx => ?_⟩
    obtain ⟨j, _, rfl⟩ := List.mem_map.1 hx
    exact h _

theorem EN {l : List aC} : tJ l = true ↔ sD l = true ∧ ∀ r t, 0 ≤ val (bY l r) t := by
  constructor
  · intro h
    unfold tJ at h
    rw [Bool.and_eq_true, sN] at h
    obtain ⟨h1, h2, h3, _⟩ := h
    have hm : sD l = true := by
      unfold sD
      rw [Bool.and_eq_true]
      exact ⟨h1, sN.2 ⟨fun g hg => ⟨(h2 g hg).1, by have := (h2 g hg).2; unfold FF at this; rw [Bool.and_eq_true] at this; exact this.1⟩, h3, fun q hq => by cases hq⟩⟩
    refine ⟨hm, fun r => ?_⟩
    rw [← qO h3]
    rcases vQ (groups l) r with ⟨e, _⟩ | ⟨g, hg, _, e⟩
    · rw [e]; intro t; simp [val]
    · rw [e]
      have := (h2 g hg).2
      unfold FF at this
      rw [Bool.and_eq_true, decide_eq_true_eq] at this
      exact (GP this.1).1 this.2
  · rintro ⟨hm, h⟩
    obtain ⟨h1, h2, h3⟩ := sO hm
    unfold tJ
    rw [Bool.and_eq_true]
    refine ⟨by simpa using h1, sN.2 ⟨fun g hg => ⟨(h2 g hg).1, ?_⟩, h3, fun q hq => by cases hq⟩⟩
    unfold FF
    rw [Bool.and_eq_true, decide_eq_true_eq]
    refine ⟨(h2 g hg).2, (GP (h2 g hg).2).2 ?_⟩
    have : g.2 = bY l g.1 := by rw [← qO h3, CN h3 hg]
    rw [this]; exact h g.1

theorem QV {f : List aB} (hu : Up (-2) f) (h : ∀ t, -2 < t → t < 1125899906842624 → 0 ≤ val f t) : ∀ t, 0 ≤ val f t := by
  intro t
  by_cases h1 : -2 < t
  · by_cases h2 : t < 1125899906842624
    · exact h t h1 h2
    · have := wW (s := 1125899906842623) (t := t) (by omega) (f := f) (fun j hj => by have := (hu.above j hj); omega)
      rw [← this]; exact h _ (by omega) (by omega)
  · rw [hu.tZ (by omega)]; omega

theorem CG {l : List aC} (h : (jT l).2 = 0) (r : List aF) : bY (jT l).1 r = tR (bY l r) := by
  rw [← qO (sO (GQ h)).2.2, NQ h, (CL (GM h r)).2.2.2]

theorem vY {l : List aC} (h : (jT l).2 = 0) (r : List aF) : ∀ j ∈ bY l r, -2 < j.At :=
  fun j hj => (wD (CL (GM h r)).2.1 j hj).1

theorem QS {l : List aC} (h : (jT l).2 = 0) (r : List aF) {t : Int} (h1 : -2 < t) (h2 : t < 1125899906842624) : val (bY (jT l).1 r) t = val (bY l r) t := by
  rw [CG h, zV (vY h r) h1 h2]

theorem LO {l : List aC} (h : (jT l).2 = 0) (hv : ∀ r t, -2 < t → t < 1125899906842624 → 0 ≤ val (bY l r) t) : tJ (jT l).1 = true := by
  refine EN.2 ⟨GQ h, fun r => ?_⟩
  rw [CG h]
  refine QV (JP (vY h r)) fun t h1 h2 => ?_
  rw [zV (vY h r) h1 h2]; exact hv r t h1 h2

end Go.Abs
namespace Go.Abs
open Go
def AZ (d t : Int) : Int := if 1125899906842624 < t + d then 1125899906842624 else t + d

def rO (d frm : Int) (l : List aC) : List aC := l.flatMap fun x => if 0 < x.Net ∧ frm ≤ x.At then [x, ⟨x.Row, AZ d x.At, -x.Net⟩] else []

def tS (d frm : Int) (f : List aB) : List aB := f.flatMap fun x => if 0 < x.Net ∧ frm ≤ x.At then [x, ⟨AZ d x.At, -x.Net⟩] else []

theorem yL (d frm : Int) (x : aC) (l : List aC) : rO d frm (x :: l) = (if 0 < x.Net ∧ frm ≤ x.At then [x, ⟨x.Row, AZ d x.At, -x.Net⟩] else []) ++ rO d frm l := by simp [rO]

theorem OT (d frm : Int) (x : aB) (l : List aB) : tS d frm (x :: l) = (if 0 < x.Net ∧ frm ≤ x.At then [x, ⟨AZ d x.At, -x.Net⟩] else []) ++ tS d frm l := by simp [tS]

theorem KP (d frm : Int) (f g : List aB) : tS d frm (f ++ g) = tS d frm f ++ tS d frm g := by simp [tS]

theorem wN (d frm : Int) (r : List aF) : ∀ l : List aC, bY (rO d frm l) r = tS d frm (bY l r)
  | [] => rfl
  | x :: l => by
    rw [yL, uC, wN d frm r l]
    have hx : bY (x :: l) r = (if x.Row = r then [jE x] else []) ++ bY l r := by
      by_cases e : x.Row = r <;> simp [bY, e]
    rw [hx]
    by_cases e : x.Row = r
    · rw [if_pos e, KP]
      congr 1
      by_cases h : 0 < x.Net ∧ frm ≤ x.At
      · rw [if_pos h]
        simp [bY, e, tS, jE, h]
      · rw [if_neg h]
        simp [bY, tS, jE, h]
    · rw [if_neg e]
      by_cases h : 0 < x.Net ∧ frm ≤ x.At
      · rw [if_pos h]; simp [bY, e]
      · rw [if_neg h]; simp [bY]

def had (d frm t : Int) (f : List aB) : Int := (f.map fun j => if 0 < j.Net ∧ frm ≤ j.At ∧ j.At ≤ t ∧ t - d < j.At then j.Net else 0).sum

theorem CW (d frm t : Int) (j : aB) (f : List aB) : had d frm t (j :: f) = (if 0 < j.Net ∧ frm ≤ j.At ∧ j.At ≤ t ∧ t - d < j.At then j.Net else 0) + had d frm t f := by simp [had]

theorem EH (d frm t : Int) : ∀ f : List aB, 0 ≤ had d frm t f
  | [] => by simp [had]
  | j :: f => by
    rw [CW]
    have := EH d frm t f
    split <;> omega

end Go.Abs
