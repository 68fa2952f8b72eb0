/- What the law EdgeSums stands on: the framework, the given functions as plain functions, their walks, and the plain laws; part 5. -/
import Derived.Test.YtbnnpfncgndidaaGreatEdgeSumsZ4
set_option linter.unusedSimpArgs false
set_option linter.unusedVariables false
namespace Go.Abs
open Go Go.RowKit Go.Proofs
theorem WD (f0 : (List aA)) (t1 : Int) (r : ((List aA) × Int)) (h0 : wG f0 t1 = some r) : bR Tryz.prog 30 [(eL aD f0), (eI t1)] (.tup [(eL aD r.1), (eI r.2)]) := by
  intro H0
  refine cA Tryz.func30 ?_
  have hO := aL.start H0
  unfold wG at h0
  refine aT aF 2 [] [] ?_
  refine aM ?_
  refine aM ?_
  refine aS aF 3 ?_
  refine bK 1 ?_
  obtain ⟨x1, hx2, h0⟩ := aV h0
  refine bW (rO f0 _ hx2) hO ?_
  intro H hO
  refine aZ ?_
  refine bN [] [(12, (aK (!x1)))] ?_
  refine bE h0 (fun h0 => ?_) (fun h0 => ?_)
  · refine bO aF 2 [(4, (.sl true 0 (fun _ => .bad))), (5, (eI (2 : Int)))] ?_
    refine bG ?_
    refine cB (l := [(4, (eL aD ([]))), (5, (eI (2 : Int)))]) ⟨[(4, (.sl true 0 (fun _ => .bad))), (5, (eI (2 : Int)))], by kernel_rfl, rfl, ⟨cT, aU.refl _, trivial⟩⟩ ?_
    obtain rfl := oI h0
    exact aI (aP (Q_r hO))
  refine bF ?_
  refine bD [(0, (eL aD f0)), (1, (eI t1))] ?_
  refine aM ?_
  refine aT aF 2 [] [(14, (aK (decide ((1125899906842624 : Int) ≤ t1))))] ?_
  refine bE h0 (fun h0 => ?_) (fun h0 => ?_)
  · refine aM ?_
    refine aS aF 4 ?_
    refine bK 1 ?_
    obtain ⟨x6, hx7, h0⟩ := aV h0
    refine GH (L' := fun lo8 => [(lo8, 2, List.map aD x6)]) 2 (List.map aD x6) 62 [(eL aD f0)] (fun lo8 => (.msl 2 lo8 0 (List.length x6))) (by kernel_rfl) (by kernel_rfl) (mG f0 _ hx7) hO (fun _ => by kernel_rfl) ?_
    intro lo8 H hO
    refine aZ ?_
    refine bD [(4, (.msl 2 lo8 0 (List.length x6))), (5, (eI (0 : Int)))] ?_
    refine bG ?_
    refine cR [(4, (.msl 2 lo8 0 (List.length x6))), (5, (eI (0 : Int)))] ?_
    refine pR (en := aD) x6 0 0 4 2 lo8 (List.length x6) hO (by kernel_rfl) (by kernel_rfl) (by kernel_rfl) (L' := []) (by kernel_rfl) ?_
    intro H9 hO
    obtain rfl := oI h0
    exact aI (aP (Q_r hO))
  refine bF ?_
  refine bD [(0, (eL aD f0)), (1, (eI t1))] ?_
  refine aM ?_
  refine aS aF 3 ?_
  refine fE (xs := []) (k := 2) (by kernel_rfl) (by kernel_rfl) ?_
  refine aZ ?_
  refine bN [] [(6, (.sl true 0 (fun _ => .bad))), (7, (eI (0 : Int)))] ?_
  refine cC (fun T H => ∃ out6 : List aA, ∃ v7 : Int, ∃ lo10 : Nat, Has T [(1, (eI t1)), (6, (.msl 2 lo10 0 (List.length out6))), (7, (eI v7))] ∧ aL ⟨H0, [], []⟩ H [(lo10, 2, List.map aD out6)] ∧ qX t1 out6 v7 = some r) ?_ ?_
  · clear hO h0
    rintro T H ⟨out6, v7, lo10, hT, hO, h0⟩
    refine aY hT ?_
    clear hT
    unfold qX at h0
    refine cC (fun T H => ∃ out6 : List aA, ∃ lo11 : Nat, Has T [(6, (.msl 2 lo11 0 (List.length out6)))] ∧ aL ⟨H0, [], []⟩ H [(lo11, 2, List.map aD out6)] ∧ tU out6 = some r) ?_ ?_
    · clear hO h0
      rintro T H ⟨out6, lo11, hT, hO, h0⟩
      refine aY hT ?_
      clear hT
      unfold tU at h0
      refine aM ?_
      refine aS aF 6 ?_
      refine oR (e := aD) out6 0 6 2 lo11 (List.length out6) [] (by kernel_rfl) hO (by kernel_rfl) (by kernel_rfl) (by kernel_rfl) (by kernel_rfl) ?_
      intro H hO
      refine bK 1 ?_
      obtain ⟨x12, hx13, h0⟩ := aV h0
      refine bW (BR out6 _ hx13) hO ?_
      intro H hO
      refine aZ ?_
      refine bD [(4, (eL aD x12.1)), (5, (eI x12.2))] ?_
      refine bG ?_
      obtain rfl := oI h0
      exact aI (Q_r hO)
    refine aT aF 2 [] [(38, (aK (!decide (v7 = (0 : Int)))))] ?_
    refine bE h0 (fun h0 => ?_) (fun h0 => ?_)
    · refine aS aF 8 ?_
      refine bK 5 ?_
      refine fE (xs := [(aD (aA.mk t1 (wR (0 - v7))))]) (k := 2) (by kernel_rfl) (by kernel_rfl) ?_
      obtain ⟨c17, h0⟩ := bA h0
      refine nB (e := aD) out6 ([aA.mk t1 (wR (0 - v7))]) 0 lo10 2 16 (dL [(aD (aA.mk t1 (wR (0 - v7))))]) (fun lo16 => [(lo16, 2, List.map aD (out6 ++ ([aA.mk t1 (wR (0 - v7))])))]) (by kernel_rfl) (by kernel_rfl) hO (by kernel_rfl) (by kernel_rfl) c17 (fun _ => by kernel_rfl) ?_
      intro lo16 H hO
      refine aZ ?_
      exact aI (aG (⟨rfl, _, _, .eq (by kernel_rfl), hO, h0⟩))
    refine bF ?_
    exact aI (aG (⟨rfl, _, _, .eq (by kernel_rfl), hO, h0⟩))
  refine aT aF 3 [0] [(18, (eL aD f0)), (19, (eI (lN f0))), (20, (eI (0 : Int)))] ?_
  refine bP 0 ?_
  refine cP [(1, (eI t1)), (6, (.sl true 0 (fun _ => .bad))), (7, (eI (0 : Int))), (18, (eL aD f0)), (19, (eI (lN f0))), (20, (eI (0 : Int)))] ?_
  refine rP (el := (fun _ => .bad)) 1 6 2 hO (by kernel_rfl) ?_
  intro lo26 H27 hO
  refine cE (fun T H => ∃ out6 : List aA, ∃ v7 : Int, ∃ t18 : (List aA), ∃ t19 : Int, ∃ t20 : Int, ∃ lo19 : Nat, Has T [(1, (eI t1)), (6, (.msl 2 lo19 0 (List.length out6))), (7, (eI v7)), (18, (eL aD t18)), (19, (eI t19)), (20, (eI t20))] ∧ aL ⟨H0, [], []⟩ H [(lo19, 2, List.map aD out6)] ∧ yC t1 out6 v7 t18 t19 t20 = some r) ?_ ⟨([] : List aA), (0 : Int), f0, (lN f0), (0 : Int), lo26, .eq (by kernel_rfl), hO, h0⟩
  clear hO h0
  rintro T H ⟨out6, v7, t18, t19, t20, lo19, hT, hO, h0⟩
  refine aY hT ?_
  clear hT
  unfold yC at h0
  obtain ⟨rr0, hl0, h0⟩ := aV h0
  refine bU (by kernel_rfl) (fun (s : List aA × Int × Int) T H => ∃ lo19 : Nat, Has T [(1, (eI t1)), (6, (.msl 2 lo19 0 (List.length s.1))), (7, (eI s.2.1)), (18, (eL aD t18)), (19, (eI t19)), (20, (eI s.2.2))] ∧ aL ⟨H0, [], []⟩ H [(lo19, 2, List.map aD s.1)]) hl0 ⟨lo19, .eq (by kernel_rfl), hO⟩ ?_
  clear hO
  rintro k0 s out1 T H ⟨lo19, hT, hO⟩ h1 ho0
  obtain ⟨out6, v7, t20⟩ := s
  replace h1 : kC t1 t18 t19 out6 v7 t20 = some out1 := h1
  dsimp only at hT
  refine aY hT ?_
  clear hT
  unfold kC at h1
  refine aT aF 1 [] [(21, (aK (decide (t20 < t19))))] ?_
  refine aM ?_
  refine bE h1 (fun h1 => ?_) (fun h1 => ?_)
  · refine bF ?_
    refine bD [(1, (eI t1)), (6, (.msl 2 lo19 0 (List.length out6))), (7, (eI v7)), (18, (eL aD t18)), (19, (eI t19)), (20, (eI t20))] ?_
    refine aM ?_
    refine bP 1 ?_
    refine aM ?_
    refine aS aF 4 ?_
    obtain ⟨c21, h1⟩ := bA h1
    refine mP 2 [0 ≤ t20 ∧ t20 < (lN t18)] ⟨c21, trivial⟩ ?_
    refine sX 2 (aD (aA.mk 0 0)) (by kernel_rfl) (by kernel_rfl) hO ?_
    intro lo22 H hO
    refine rT 1 lo22 2 0 (aD (aA.mk 0 0)) (aD (gD t18 t20)) [(aD (aA.mk 0 0))] [(lo19, 2, List.map aD out6), (lo22, 2, [(aD (gD t18 t20))])] hO rfl (by kernel_rfl) ?_
    intro H hO
    refine dO ?_
    refine bN [] [(9, (.lp lo22 0 0))] ?_
    refine aM ?_
    refine aM ?_
    refine aS aF 4 ?_
    refine bK 1 ?_
    refine BH 1 lo22 2 0 (aD (gD t18 t20)) (eI ((gD t18 t20).At)) [(aD (gD t18 t20))] hO rfl ?_
    refine aZ ?_
    refine bN [] [(27, (aK (decide (t1 ≤ ((gD t18 t20).At)))))] ?_
    refine bE h1 (fun h1 => ?_) (fun h1 => ?_)
    · refine cQ 0 ?_
      replace hO := hO.pick (L' := [(lo19, 2, List.map aD out6)]) [0] (by decide) (by kernel_rfl)
      obtain rfl := oI h1
      obtain rfl : _ = rr0 := ho0
      replace h0 : qX t1 out6 v7 = some r := h0
      exact aI (aR (WR (by kernel_rfl) (aR (aR (bH (aG (⟨rfl, _, _, _, .eq (by kernel_rfl), hO, h0⟩)))))))
    refine bF ?_
    refine bD [(1, (eI t1)), (6, (.msl 2 lo19 0 (List.length out6))), (7, (eI v7)), (9, (.lp lo22 0 0)), (18, (eL aD t18)), (19, (eI t19)), (20, (eI t20))] ?_
    refine aM ?_
    refine aS aF 5 ?_
    refine bK 1 ?_
    refine BH 1 lo22 2 0 (aD (gD t18 t20)) (aD (gD t18 t20)) [(aD (gD t18 t20))] hO rfl ?_
    refine fE (xs := [(aD (gD t18 t20))]) (k := 2) (by kernel_rfl) (by kernel_rfl) ?_
    obtain ⟨c25, h1⟩ := bA h1
    refine nB (e := aD) out6 ([gD t18 t20]) 0 lo19 2 16 (dL [(aD (gD t18 t20))]) (fun lo24 => [(lo24, 2, List.map aD (out6 ++ ([gD t18 t20]))), (lo22, 2, [(aD (gD t18 t20))])]) (by kernel_rfl) (by kernel_rfl) hO (by kernel_rfl) (by kernel_rfl) c25 (fun _ => by kernel_rfl) ?_
    intro lo24 H hO
    refine aZ ?_
    refine bN [6] [(6, (.msl 2 lo24 0 (List.length (out6 ++ ([gD t18 t20])))))] ?_
    refine aS aF 5 ?_
    refine bK 2 ?_
    refine BH 1 lo22 2 0 (aD (gD t18 t20)) (eI ((gD t18 t20).Net)) [(aD (gD t18 t20))] hO rfl ?_
    refine aZ ?_
    refine cR [(1, (eI t1)), (6, (.msl 2 lo24 0 (List.length (out6 ++ ([gD t18 t20]))))), (7, (eI (wR (v7 + ((gD t18 t20).Net))))), (18, (eL aD t18)), (19, (eI t19)), (20, (eI t20))] ?_
    replace hO := hO.pick (L' := [(lo24, 2, List.map aD (out6 ++ ([gD t18 t20])))]) [0] (by decide) (by kernel_rfl)
    refine aI (aX (aG (?_)))
    refine aS aF 2 ?_
    refine aZ ?_
    exact aI (aG (⟨rfl, _, (oI h1).symm, _, .eq (by kernel_rfl), hO⟩))
  refine cQ 0 ?_
  obtain rfl := oI h1
  obtain rfl : _ = rr0 := ho0
  replace h0 : qX t1 out6 v7 = some r := h0
  exact aI (aR (aR (bH (aG (⟨rfl, _, _, _, .eq (by kernel_rfl), hO, h0⟩)))))

theorem PN (f0 : (List aA)) (t1 : Int) (r : ((List aA) × Int)) (h0 : pW f0 t1 = some r) : bR Tryz.prog 29 [(eL aD f0), (.rp (eI t1))] (.tup [(eL aD r.1), (eI r.2)]) := by
  intro H0
  refine cA Tryz.func29 ?_
  have hO := aL.start H0
  unfold pW at h0
  refine aT aF 2 [] [] ?_
  refine aM ?_
  refine aS aF 7 ?_
  refine bK 2 ?_
  obtain ⟨x1, hx2, h0⟩ := aV h0
  refine bW (WD f0 t1 _ hx2) hO ?_
  intro H hO
  refine aZ ?_
  refine bD [(3, (eL aD x1.1)), (4, (eI x1.2))] ?_
  refine bG ?_
  obtain rfl := oI h0
  exact aI (Q_r hO)

theorem VZ (l0 : (List aC)) (t1 : Int) (r : ((List aC) × Int)) (h0 : vF l0 t1 = some r) : bR Tryz.prog 11 [(eL aE l0), (eI t1)] (.tup [(eL aE r.1), (eI r.2)]) := by
  intro H0
  refine cA Tryz.func11 ?_
  have hO := aL.start H0
  unfold vF at h0
  refine aM ?_
  refine aS aF 3 ?_
  refine jF 1 (eI t1) (by kernel_rfl) (by kernel_rfl) ?_
  refine aZ ?_
  refine bN [1] [(3, (.rp (eI t1)))] ?_
  refine aM ?_
  refine aS aF 7 ?_
  refine bK 2 ?_
  obtain ⟨x1, hx2, h0⟩ := aV h0
  refine bW (HL l0 29 [] [(.rp (eI t1))] (fun y0 => pW y0 t1) (fun y0 r h => PN y0 t1 r h) _ hx2) hO ?_
  intro H hO
  refine aZ ?_
  refine bD [(4, (eL aE x1.1)), (5, (eI x1.2))] ?_
  refine bG ?_
  obtain rfl := oI h0
  exact aI (Q_r hO)

theorem XH (f0 : (List aA)) (t1 : Int) (r : ((List aA) × Int)) (h0 : xV f0 t1 = some r) : bR Tryz.prog 32 [(eL aD f0), (eI t1)] (.tup [(eL aD r.1), (eI r.2)]) := by
  intro H0
  refine cA Tryz.func32 ?_
  have hO := aL.start H0
  unfold xV at h0
  refine aT aF 2 [] [] ?_
  refine aM ?_
  refine bP 0 ?_
  refine aM ?_
  refine aS aF 4 ?_
  refine bK 1 ?_
  obtain ⟨x1, hx2, h0⟩ := aV h0
  refine bW (rO f0 _ hx2) hO ?_
  intro H hO
  refine aZ ?_
  refine bN [] [(9, (aK (!x1)))] ?_
  refine bE h0 (fun h0 => ?_) (fun h0 => ?_)
  · refine bO aF 2 [(4, (.sl true 0 (fun _ => .bad))), (5, (eI (2 : Int)))] ?_
    refine bG ?_
    refine cB (l := [(4, (eL aD ([]))), (5, (eI (2 : Int)))]) ⟨[(4, (.sl true 0 (fun _ => .bad))), (5, (eI (2 : Int)))], by kernel_rfl, rfl, ⟨cT, aU.refl _, trivial⟩⟩ ?_
    obtain rfl := oI h0
    exact aI (bL (aP (Q_r hO)))
  refine aT aF 3 [9] [(13, (aK (decide ((1125899906842624 : Int) ≤ t1))))] ?_
  refine bE h0 (fun h0 => ?_) (fun h0 => ?_)
  · refine bO aF 2 [(4, (.sl true 0 (fun _ => .bad))), (5, (eI (0 : Int)))] ?_
    refine bG ?_
    refine cB (l := [(4, (eL aD ([]))), (5, (eI (0 : Int)))]) ⟨[(4, (.sl true 0 (fun _ => .bad))), (5, (eI (0 : Int)))], by kernel_rfl, rfl, ⟨cT, aU.refl _, trivial⟩⟩ ?_
    obtain rfl := oI h0
    exact aI (bL (aP (Q_r hO)))
  refine aT aF 3 [13] [(16, (aK (decide (t1 ≤ (-1 : Int)))))] ?_
  refine bE h0 (fun h0 => ?_) (fun h0 => ?_)
  · refine aM ?_
    refine aS aF 4 ?_
    refine bK 1 ?_
    obtain ⟨x7, hx8, h0⟩ := aV h0
    refine GH (L' := fun lo9 => [(lo9, 2, List.map aD x7)]) 2 (List.map aD x7) 62 [(eL aD f0)] (fun lo9 => (.msl 2 lo9 0 (List.length x7))) (by kernel_rfl) (by kernel_rfl) (mG f0 _ hx8) hO (fun _ => by kernel_rfl) ?_
    intro lo9 H hO
    refine aZ ?_
    refine bD [(4, (.msl 2 lo9 0 (List.length x7))), (5, (eI (0 : Int)))] ?_
    refine bG ?_
    refine cR [(4, (.msl 2 lo9 0 (List.length x7))), (5, (eI (0 : Int)))] ?_
    refine pR (en := aD) x7 0 0 4 2 lo9 (List.length x7) hO (by kernel_rfl) (by kernel_rfl) (by kernel_rfl) (L' := []) (by kernel_rfl) ?_
    intro H10 hO
    obtain rfl := oI h0
    exact aI (bL (aP (Q_r hO)))
  refine bF ?_
  refine cR [(0, (eL aD f0)), (1, (eI t1))] ?_
  refine aI (aX (aG (?_)))
  refine aT aF 2 [] [(6, (eI (0 : Int))), (7, (eI (0 : Int)))] ?_
  refine cC (fun T H => ∃ v6 : Int, ∃ at7 : Int, Has T [(0, (eL aD f0)), (6, (eI v6)), (7, (eI at7))] ∧ aL ⟨H0, [], []⟩ H [] ∧ vT f0 v6 at7 = some r) ?_ ?_
  · clear hO h0
    rintro T H ⟨v6, at7, hT, hO, h0⟩
    refine aY hT ?_
    clear hT
    unfold vT at h0
    refine aM ?_
    refine aS aF 2 ?_
    refine fE (xs := []) (k := 2) (by kernel_rfl) (by kernel_rfl) ?_
    refine aZ ?_
    refine bN [] [(8, (.sl true 0 (fun _ => .bad)))] ?_
    refine cC (fun T H => ∃ out8 : List aA, ∃ lo11 : Nat, Has T [(0, (eL aD f0)), (7, (eI at7)), (8, (.msl 2 lo11 0 (List.length out8)))] ∧ aL ⟨H0, [], []⟩ H [(lo11, 2, List.map aD out8)] ∧ wH f0 at7 out8 = some r) ?_ ?_
    · clear hO h0
      rintro T H ⟨out8, lo11, hT, hO, h0⟩
      refine aY hT ?_
      clear hT
      unfold wH at h0
      refine aM ?_
      refine aS aF 10 ?_
      obtain ⟨c15, h0⟩ := bA h0
      refine mP 4 [0 ≤ at7 ∧ at7 ≤ (lN f0)] ⟨c15, trivial⟩ ?_
      obtain ⟨c17, h0⟩ := bA h0
      refine nB (e := aD) out8 (List.drop (Int.toNat at7) f0) 0 lo11 2 16 (.sl false (List.length f0 - Int.toNat at7) (fun i => aD (List.getD f0 (Int.toNat at7 + i) default))) (fun lo16 => [(lo16, 2, List.map aD (out8 ++ (List.drop (Int.toNat at7) f0)))]) (by kernel_rfl) (by kernel_rfl) hO (by kernel_rfl) (aAI (fun _ => by kernel_rfl)) c17 (fun _ => by kernel_rfl) ?_
      intro lo16 H hO
      refine oR (e := aD) (out8 ++ (List.drop (Int.toNat at7) f0)) 0 55 2 lo16 (List.length (out8 ++ (List.drop (Int.toNat at7) f0))) [] (by kernel_rfl) hO (by kernel_rfl) (by kernel_rfl) (by kernel_rfl) (by kernel_rfl) ?_
      intro H hO
      obtain ⟨x18, hx19, h0⟩ := aV h0
      refine bW (BR (out8 ++ (List.drop (Int.toNat at7) f0)) _ hx19) hO ?_
      intro H hO
      refine aZ ?_
      refine bD [(4, (eL aD x18.1)), (5, (eI x18.2))] ?_
      refine bG ?_
      obtain rfl := oI h0
      exact aI (Q_r hO)
    refine aT aF 2 [] [(45, (aK (!decide (v6 = (0 : Int)))))] ?_
    refine bE h0 (fun h0 => ?_) (fun h0 => ?_)
    · refine aS aF 6 ?_
      refine bK 3 ?_
      refine fE (xs := [(aD (aA.mk (-1 : Int) v6))]) (k := 2) (by kernel_rfl) (by kernel_rfl) ?_
      obtain ⟨c23, h0⟩ := bA h0
      refine GQ (e := aD) ([aA.mk (-1 : Int) v6]) (fun _ => .bad) 2 16 (dL [(aD (aA.mk (-1 : Int) v6))]) (fun lo22 => [(lo22, 2, List.map aD ([aA.mk (-1 : Int) v6]))]) (by kernel_rfl) (by kernel_rfl) hO (by kernel_rfl) c23 (fun _ => by kernel_rfl) ?_
      intro lo22 H hO
      refine aZ ?_
      exact aI (aG (⟨rfl, _, _, .eq (by kernel_rfl), hO, h0⟩))
    refine bF ?_
    refine cR [(0, (eL aD f0)), (7, (eI at7)), (8, (.sl true 0 (fun _ => .bad)))] ?_
    refine OA (el := (fun _ => .bad)) 2 8 2 hO (by kernel_rfl) ?_
    intro lo24 H25 hO
    exact aI (aG (⟨rfl, ([] : List aA), _, .eq (by kernel_rfl), hO, h0⟩))
  refine bP 1 ?_
  refine cP [(0, (eL aD f0)), (1, (eI t1)), (6, (eI (0 : Int))), (7, (eI (0 : Int)))] ?_
  refine cE (fun T H => ∃ v6 : Int, ∃ at7 : Int, Has T [(0, (eL aD f0)), (1, (eI t1)), (6, (eI v6)), (7, (eI at7))] ∧ aL ⟨H0, [], []⟩ H [] ∧ AU f0 t1 v6 at7 = some r) ?_ ⟨(0 : Int), (0 : Int), .eq (by kernel_rfl), hO, h0⟩
  clear hO h0
  rintro T H ⟨v6, at7, hT, hO, h0⟩
  refine aY hT ?_
  clear hT
  unfold AU at h0
  obtain ⟨rr0, hl0, h0⟩ := aV h0
  refine bU (by kernel_rfl) (fun (s : Int × Int) T H => Has T [(0, (eL aD f0)), (1, (eI t1)), (6, (eI s.1)), (7, (eI s.2))] ∧ aL ⟨H0, [], []⟩ H []) hl0 ⟨.eq (by kernel_rfl), hO⟩ ?_
  clear hO
  rintro k0 s out1 T H ⟨hT, hO⟩ h1 ho0
  obtain ⟨v6, at7⟩ := s
  replace h1 : lX f0 t1 v6 at7 = some out1 := h1
  dsimp only at hT
  refine aY hT ?_
  clear hT
  unfold lX at h1
  refine aM ?_
  refine aM ?_
  refine aS aF 13 ?_
  obtain ⟨c26, h1⟩ := bA h1
  refine kB [(((decide (at7 < (lN f0)))) = true → 0 ≤ at7 ∧ at7 < (lN f0))] ⟨c26, trivial⟩ ?_
  refine bN [] [(33, (aK ((decide (at7 < (lN f0))) && (decide (((gD f0 at7).At) < t1)))))] ?_
  refine bE h1 (fun h1 => ?_) (fun h1 => ?_)
  · refine bF ?_
    refine bD [(0, (eL aD f0)), (1, (eI t1)), (6, (eI v6)), (7, (eI at7))] ?_
    refine bP 2 ?_
    refine aM ?_
    refine aS aF 8 ?_
    obtain ⟨c28, h1⟩ := bA h1
    refine kB [0 ≤ at7 ∧ at7 < (lN f0)] ⟨c28, trivial⟩ ?_
    refine bN [6] [(6, (eI (wR (v6 + ((gD f0 at7).Net)))))] ?_
    refine aS aF 3 ?_
    refine aZ ?_
    exact aI (aX (aG (⟨rfl, _, (oI h1).symm, .eq (by kernel_rfl), hO⟩)))
  refine cQ 1 ?_
  obtain rfl := oI h1
  obtain rfl : _ = rr0 := ho0
  replace h0 : vT f0 v6 at7 = some r := h0
  exact aI (aR (aR (bH (aG (⟨rfl, _, _, .eq (by kernel_rfl), hO, h0⟩)))))

theorem RN (f0 : (List aA)) (t1 : Int) (r : ((List aA) × Int)) (h0 : qW f0 t1 = some r) : bR Tryz.prog 31 [(eL aD f0), (.rp (eI t1))] (.tup [(eL aD r.1), (eI r.2)]) := by
  intro H0
  refine cA Tryz.func31 ?_
  have hO := aL.start H0
  unfold qW at h0
  refine aT aF 2 [] [] ?_
  refine aM ?_
  refine aS aF 7 ?_
  refine bK 2 ?_
  obtain ⟨x1, hx2, h0⟩ := aV h0
  refine bW (XH f0 t1 _ hx2) hO ?_
  intro H hO
  refine aZ ?_
  refine bD [(3, (eL aD x1.1)), (4, (eI x1.2))] ?_
  refine bG ?_
  obtain rfl := oI h0
  exact aI (Q_r hO)

theorem XL (l0 : (List aC)) (t1 : Int) (r : ((List aC) × Int)) (h0 : xI l0 t1 = some r) : bR Tryz.prog 12 [(eL aE l0), (eI t1)] (.tup [(eL aE r.1), (eI r.2)]) := by
  intro H0
  refine cA Tryz.func12 ?_
  have hO := aL.start H0
  unfold xI at h0
  refine aM ?_
  refine aS aF 3 ?_
  refine jF 1 (eI t1) (by kernel_rfl) (by kernel_rfl) ?_
  refine aZ ?_
  refine bN [1] [(3, (.rp (eI t1)))] ?_
  refine aM ?_
  refine aS aF 7 ?_
  refine bK 2 ?_
  obtain ⟨x1, hx2, h0⟩ := aV h0
  refine bW (HL l0 31 [] [(.rp (eI t1))] (fun y0 => qW y0 t1) (fun y0 r h => RN y0 t1 r h) _ hx2) hO ?_
  intro H hO
  refine aZ ?_
  refine bD [(4, (eL aE x1.1)), (5, (eI x1.2))] ?_
  refine bG ?_
  obtain rfl := oI h0
  exact aI (Q_r hO)

theorem LU (a0 : (List aC)) (b1 : (List aC)) (t2 : Int) (r : Bool) (h0 : tB a0 b1 t2 = some r) : bR Tryz.prog 3 [(eL aE a0), (eL aE b1), (eI t2)] (aK r) := by
  intro H0
  refine cA Tryz.func3 ?_
  have hO := aL.start H0
  unfold tB at h0
  refine aT aF 1 [] [] ?_
  refine aM ?_
  refine aM ?_
  refine aS aF 8 ?_
  refine bK 1 ?_
  obtain ⟨x1, hx2, h0⟩ := aV h0
  refine bW (LP a0 _ hx2) hO ?_
  intro H hO
  refine bK 5 ?_
  obtain ⟨x4, hx5, h0⟩ := aV h0
  refine jQ [(14, false)] 4 [(eL aE b1)] (aK x4) (!(!x1)) (by kernel_rfl) (by kernel_rfl) (by kernel_rfl) (fun hb6 => (LP b1 _ (jI hx5 hb6))) hO ?_
  intro H hO
  refine aZ ?_
  refine bN [] [(18, (aK ((!x1) || (!x4))))] ?_
  refine bE h0 (fun h0 => ?_) (fun h0 => ?_)
  · refine aM ?_
    refine aS aF 2 ?_
    obtain ⟨x8, hx9, h0⟩ := aV h0
    refine bW (JE  _ hx9) hO ?_
    intro H hO
    refine aZ ?_
    refine bD [(6, (aK x8))] ?_
    refine bG ?_
    obtain rfl := oI h0
    exact aI (aP (Q_r hO))
  refine bF ?_
  refine bD [(0, (eL aE a0)), (1, (eL aE b1)), (2, (eI t2))] ?_
  refine aM ?_
  refine aS aF 8 ?_
  refine bK 2 ?_
  obtain ⟨x11, hx12, h0⟩ := aV h0
  refine bW (NW a0 b1 _ hx12) hO ?_
  intro H hO
  refine aZ ?_
  refine bN [] [(7, (eL aE x11.1)), (8, (eI x11.2))] ?_
  refine aM ?_
  refine aS aF 8 ?_
  refine bK 2 ?_
  obtain ⟨x14, hx15, h0⟩ := aV h0
  refine bW (XC a0 b1 _ hx15) hO ?_
  intro H hO
  refine aZ ?_
  refine bN [1] [(9, (eL aE x14.1)), (10, (eI x14.2))] ?_
  refine aM ?_
  refine aM ?_
  refine aS aF 9 ?_
  refine bK 6 ?_
  obtain ⟨x17, hx18, h0⟩ := aV h0
  refine jQ [(35, false)] 8 [(eL aE x11.1), (eL aE x14.1)] (aK x17) (!(!decide (x11.2 = x14.2))) (by kernel_rfl) (by kernel_rfl) (by kernel_rfl) (fun hb19 => (AN x11.1 x14.1 _ (jI hx18 hb19))) hO ?_
  intro H hO
  refine aZ ?_
  refine bN [7, 8, 9, 10] [(40, (aK ((!decide (x11.2 = x14.2)) || (!x17))))] ?_
  refine bE h0 (fun h0 => ?_) (fun h0 => ?_)
  · refine bO aF 1 [(6, (aK false))] ?_
    refine bG ?_
    obtain rfl := oI h0
    exact aI (aP (Q_r hO))
  refine bF ?_
  refine bD [(0, (eL aE a0)), (2, (eI t2))] ?_
  refine aM ?_
  refine aS aF 7 ?_
  refine bK 1 ?_
  obtain ⟨x21, hx22, h0⟩ := aV h0
  refine bW (ZA a0 _ hx22) hO ?_
  intro H hO
  refine aZ ?_
  refine bN [] [(7, (eL aE x21.1)), (8, (eI x21.2))] ?_
  refine aM ?_
  refine aS aF 8 ?_
  refine bK 2 ?_
  obtain ⟨x24, hx25, h0⟩ := aV h0
  refine bW (FL a0 (0 : Int) t2 _ hx25) hO ?_
  intro H hO
  refine aZ ?_
  refine bN [] [(9, (eL aE x24.1)), (10, (eI x24.2))] ?_
  refine aM ?_
  refine aM ?_
  refine aS aF 9 ?_
  refine bK 6 ?_
  obtain ⟨x27, hx28, h0⟩ := aV h0
  refine jQ [(55, false)] 8 [(eL aE x21.1), (eL aE x24.1)] (aK x27) (!(!decide (x21.2 = x24.2))) (by kernel_rfl) (by kernel_rfl) (by kernel_rfl) (fun hb29 => (AN x21.1 x24.1 _ (jI hx28 hb29))) hO ?_
  intro H hO
  refine aZ ?_
  refine bN [7, 8, 9, 10] [(60, (aK ((!decide (x21.2 = x24.2)) || (!x27))))] ?_
  refine bE h0 (fun h0 => ?_) (fun h0 => ?_)
  · refine bO aF 1 [(6, (aK false))] ?_
    refine bG ?_
    obtain rfl := oI h0
    exact aI (aP (Q_r hO))
  refine bF ?_
  refine bD [(0, (eL aE a0)), (2, (eI t2))] ?_
  refine aM ?_
  refine aS aF 8 ?_
  refine bK 2 ?_
  obtain ⟨x31, hx32, h0⟩ := aV h0
  refine bW (VZ a0 t2 _ hx32) hO ?_
  intro H hO
  refine aZ ?_
  refine bN [] [(7, (eL aE x31.1)), (8, (eI x31.2))] ?_
  refine aM ?_
  refine aS aF 8 ?_
  refine bK 2 ?_
  obtain ⟨x34, hx35, h0⟩ := aV h0
  refine bW (FL a0 (1 : Int) t2 _ hx35) hO ?_
  intro H hO
  refine aZ ?_
  refine bN [] [(9, (eL aE x34.1)), (10, (eI x34.2))] ?_
  refine aM ?_
  refine aM ?_
  refine aS aF 9 ?_
  refine bK 6 ?_
  obtain ⟨x37, hx38, h0⟩ := aV h0
  refine jQ [(76, false)] 8 [(eL aE x31.1), (eL aE x34.1)] (aK x37) (!(!decide (x31.2 = x34.2))) (by kernel_rfl) (by kernel_rfl) (by kernel_rfl) (fun hb39 => (AN x31.1 x34.1 _ (jI hx38 hb39))) hO ?_
  intro H hO
  refine aZ ?_
  refine bN [7, 8, 9, 10] [(81, (aK ((!decide (x31.2 = x34.2)) || (!x37))))] ?_
  refine bE h0 (fun h0 => ?_) (fun h0 => ?_)
  · refine bO aF 1 [(6, (aK false))] ?_
    refine bG ?_
    obtain rfl := oI h0
    exact aI (aP (Q_r hO))
  refine bF ?_
  refine bD [(0, (eL aE a0)), (2, (eI t2))] ?_
  refine aM ?_
  refine aS aF 8 ?_
  refine bK 2 ?_
  obtain ⟨x41, hx42, h0⟩ := aV h0
  refine bW (XL a0 t2 _ hx42) hO ?_
  intro H hO
  refine aZ ?_
  refine bN [] [(7, (eL aE x41.1)), (8, (eI x41.2))] ?_
  refine aM ?_
  refine aS aF 8 ?_
  refine bK 2 ?_
  obtain ⟨x44, hx45, h0⟩ := aV h0
  refine bW (FL a0 (2 : Int) t2 _ hx45) hO ?_
  intro H hO
  refine aZ ?_
  refine bN [0, 2] [(9, (eL aE x44.1)), (10, (eI x44.2))] ?_
  refine aM ?_
  refine aS aF 12 ?_
  obtain ⟨x47, hx48, h0⟩ := aV h0
  refine bW (JE  _ hx48) hO ?_
  intro H hO
  refine bK 9 ?_
  obtain ⟨x50, hx51, h0⟩ := aV h0
  refine jQ [(100, true)] 8 [(eL aE x41.1), (eL aE x44.1)] (aK x50) (x47 && (decide (x41.2 = x44.2))) (by kernel_rfl) (by kernel_rfl) (by kernel_rfl) (fun hb52 => (AN x41.1 x44.1 _ (jI hx51 hb52))) hO ?_
  intro H hO
  refine aZ ?_
  refine bD [(6, (aK ((x47 && (decide (x41.2 = x44.2))) && x50)))] ?_
  refine bG ?_
  obtain rfl := oI h0
  exact aI (Q_r hO)

end Go.Abs
namespace Go.Abs
open Go Go.RowKit Go.Proofs
theorem IZ {H : Type} {enc : TypeId × Value → H} {w : World} : AW enc Tryz.prog w 35 aJ EG :=
  JR Tryz.underlying35 (by kernel_rfl) (uQ (c' := KY) (ok' := EG) (fun (a : Int) (b : Int × ByteArray × Unit) => (aH.mk a b.1 b.2.1 : aH)) (by kernel_rfl) (EM Tryz.underlying33) (uQ (c' := fun (b : Int × ByteArray × Unit) => (V.cells (vX .i64 b.1) ++ (V.cells (BB b.2.1) ++ []))) (ok' := fun b => (AM b.1 ∧ ((fun s => s.size ≤ maxLen) b.2.1 ∧ True))) (fun a b => (a, b)) (by kernel_rfl) (EM Tryz.underlying3) (uQ (c' := fun (b : ByteArray × Unit) => (V.cells (BB b.1) ++ [])) (ok' := fun b => ((fun s => s.size ≤ maxLen) b.1 ∧ True)) (fun a b => (a, b)) (by kernel_rfl) (VG Tryz.underlying9) (NO ()) (fun _ _ => rfl) (fun _ _ h1 h2 => ⟨h1, h2⟩)) (fun _ _ => rfl) (fun _ _ h1 h2 => ⟨h1, h2⟩)) (fun _ _ => rfl) (fun _ _ h1 h2 => ⟨h1, h2⟩))

theorem CX {H : Type} {enc : TypeId × Value → H} {w : World} : AW enc Tryz.prog w 42 aE rS :=
  JR Tryz.underlying42 (by kernel_rfl) (uQ (c' := NR) (ok' := rS) (fun (a : (List aH)) (b : Int × Int × Unit) => (aC.mk a b.1 b.2.1 : aC)) (by kernel_rfl) (WI Tryz.underlying37 (by decide +kernel) (fun _ => by kernel_rfl) (fun _ => rfl) IZ (by kernel_rfl)) (uQ (c' := fun (b : Int × Int × Unit) => (V.cells (vX .i64 b.1) ++ (V.cells (vX .i64 b.2.1) ++ []))) (ok' := fun b => (AM b.1 ∧ (AM b.2.1 ∧ True))) (fun a b => (a, b)) (by kernel_rfl) (EM Tryz.underlying3) (uQ (c' := fun (b : Int × Unit) => (V.cells (vX .i64 b.1) ++ [])) (ok' := fun b => (AM b.1 ∧ True)) (fun a b => (a, b)) (by kernel_rfl) (EM Tryz.underlying3) (NO ()) (fun _ _ => rfl) (fun _ _ h1 h2 => ⟨h1, h2⟩)) (fun _ _ => rfl) (fun _ _ h1 h2 => ⟨h1, h2⟩)) (fun _ _ => rfl) (fun _ _ h1 h2 => ⟨h1, h2⟩))

end Go.Abs
namespace Go.Abs
open Go
theorem dI {n : Int} (h1 : -9223372036854775808 ≤ n) (h2 : n ≤ 9223372036854775807) : IntKind.i64.wrap n = n := by
  simp only [IntKind.wrap, IntKind.bits, IntKind.signed]
  simp
  split <;> omega

def oX {α st R : Type} (step : st → α → Option (st ⊕ R)) (fin : st → R) : st → List α → Option R
  | s, [] => some (fin s)
  | s, a :: r => match step s a with
    | some (.inl s') => oX step fin s' r
    | some (.inr x) => some x
    | none => none

theorem HB {α st R : Type} {step : st → α → Option (st ⊕ R)} {fin : st → R} {s s' : st} {a : α} {r : List α} (h : step s a = some (.inl s')) : oX step fin s (a :: r) = oX step fin s' r := by
  simp only [oX, h]

theorem ID {α st R : Type} {step : st → α → Option (st ⊕ R)} {fin : st → R} {s : st} {x : R} {a : α} {r : List α} (h : step s a = some (.inr x)) : oX step fin s (a :: r) = some x := by
  simp only [oX, h]

theorem XT {α S st R : Type} {body : S → Option (S ⊕ R)} {l : List α} (mk : st → Int → S) (step : st → α → Option (st ⊕ R)) (fin : st → R)
    (hn : ∀ (i : Nat) a s, l[i]? = some a → (∀ s', step s a = some (.inl s') → body (mk s i) = some (.inl (mk s' ((i + 1 : Nat) : Int)))) ∧ (∀ x, step s a = some (.inr x) → body (mk s i) = some (.inr x)))
    (he : ∀ s, body (mk s (l.length : Nat)) = some (.inr (fin s))) : ∀ (m k : Nat) (s : st) (r : R), l.length - k = m → k ≤ l.length → oX step fin s (l.drop k) = some r → lp body (mk s k) = some r
  | 0, k, s, r, hm, hk, h => by
    have : k = l.length := by omega
    subst this
    rw [List.drop_length] at h
    simp only [oX, Option.some.injEq] at h
    subst h
    exact cL (he s)
  | m + 1, k, s, r, hm, hk, h => by
    have hlt : k < l.length := by omega
    have hd : l.drop k = l[k] :: l.drop (k + 1) := List.drop_eq_getElem_cons hlt
    rw [hd] at h
    simp only [oX] at h
    obtain ⟨h1, h2⟩ := hn k l[k] s (List.getElem?_eq_getElem hlt)
    split at h
    · rename_i s' hs
      rw [eB (h1 s' hs)]
      exact XT mk step fin hn he m (k + 1) s' r (by omega) (by omega) h
    · rename_i x hs
      simp at h; subst h
      exact cL (h2 x hs)
    · cases h

theorem aB5 {α S st R : Type} {body : S → Option (S ⊕ R)} {l : List α} (mk : st → Int → S) (step : st → α → Option (st ⊕ R)) (fin : st → R)
    (hn : ∀ (i : Nat) a s, l[i]? = some a → (∀ s', step s a = some (.inl s') → body (mk s i) = some (.inl (mk s' ((i + 1 : Nat) : Int)))) ∧ (∀ x, step s a = some (.inr x) → body (mk s i) = some (.inr x)))
    (he : ∀ s, body (mk s (l.length : Nat)) = some (.inr (fin s))) {s : st} {r : R} (h : oX step fin s l = some r) : lp body (mk s 0) = some r :=
  XT mk step fin hn he _ 0 s r rfl (Nat.zero_le _) (by simpa using h)

theorem VP {α S st R : Type} {body : S → Option (S ⊕ R)} {l : List α} (mk : st → Int → S) (step : st → α → Option (st ⊕ R)) (fin : st → R) (Inv : Nat → st → Prop)
    (hn : ∀ (i : Nat) a s, Inv i s → l[i]? = some a → (∀ s', step s a = some (.inl s') → Inv (i + 1) s' ∧ body (mk s i) = some (.inl (mk s' ((i + 1 : Nat) : Int)))) ∧ (∀ x, step s a = some (.inr x) → body (mk s i) = some (.inr x)))
    (he : ∀ s, Inv l.length s → body (mk s (l.length : Nat)) = some (.inr (fin s))) : ∀ (m k : Nat) (s : st) (r : R), l.length - k = m → k ≤ l.length → Inv k s → oX step fin s (l.drop k) = some r → lp body (mk s k) = some r
  | 0, k, s, r, hm, hk, hi, h => by
    have : k = l.length := by omega
    subst this
    rw [List.drop_length] at h
    simp only [oX, Option.some.injEq] at h
    subst h
    exact cL (he s hi)
  | m + 1, k, s, r, hm, hk, hi, h => by
    have hlt : k < l.length := by omega
    have hd : l.drop k = l[k] :: l.drop (k + 1) := List.drop_eq_getElem_cons hlt
    rw [hd] at h
    simp only [oX] at h
    obtain ⟨h1, h2⟩ := hn k l[k] s hi (List.getElem?_eq_getElem hlt)
    split at h
    · rename_i s' hs
      obtain ⟨hi', hb⟩ := h1 s' hs
      rw [eB hb]
      exact VP mk step fin Inv hn he m (k + 1) s' r (by omega) (by omega) hi' h
    · rename_i x hs
      simp at h; subst h
      exact cL (h2 x hs)
    · cases h

theorem RB {α S st R : Type} {body : S → Option (S ⊕ R)} {l : List α} (mk : st → Int → S) (step : st → α → Option (st ⊕ R)) (fin : st → R) (Inv : Nat → st → Prop)
    (hn : ∀ (i : Nat) a s, Inv i s → l[i]? = some a → (∀ s', step s a = some (.inl s') → Inv (i + 1) s' ∧ body (mk s i) = some (.inl (mk s' ((i + 1 : Nat) : Int)))) ∧ (∀ x, step s a = some (.inr x) → body (mk s i) = some (.inr x)))
    (he : ∀ s, Inv l.length s → body (mk s (l.length : Nat)) = some (.inr (fin s))) {s : st} {r : R} (hi : Inv 0 s) (h : oX step fin s l = some r) : lp body (mk s 0) = some r :=
  VP mk step fin Inv hn he _ 0 s r rfl (Nat.zero_le _) hi (by simpa using h)

theorem idx {α : Type} [Inhabited α] {l : List α} {i : Nat} {a : α} (h : l[i]? = some a) (hl : l.length < 4611686018427387904) :
    decide ((i : Int) < ((l.length : Nat) : Int)) = true ∧ (0 ≤ (i : Int) ∧ (i : Int) < ((l.length : Nat) : Int)) ∧ l.getD (Int.toNat (i : Int)) default = a ∧ IntKind.i64.wrap ((i : Int) + 1) = ((i + 1 : Nat) : Int) := by
  have hlt : i < l.length := (List.getElem?_eq_some_iff.1 h).1
  refine ⟨by simpa using hlt, ⟨by omega, by omega⟩, ?_, ?_⟩
  · rw [Int.toNat_natCast, List.getD_eq_getElem?_getD, h]; rfl
  · rw [dI (by omega) (by omega)]; omega

theorem cX {n : Nat} : decide (((n : Nat) : Int) < ((n : Nat) : Int)) = false := by simp

theorem BA {α : Type} {j : α} {r : List α} : decide ((0 : Int) < ((List.length (j :: r) : Nat) : Int)) = true := by simp

theorem len_nil {α : Type} : decide ((0 : Int) < ((List.length ([] : List α) : Nat) : Int)) = false := rfl

theorem HO {α : Type} {j : α} {r : List α} : (0 : Int) ≤ 0 ∧ (0 : Int) < ((List.length (j :: r) : Nat) : Int) := ⟨by omega, by simp⟩

theorem aDv {α : Type} {j : α} {r : List α} : (0 : Int) ≤ 1 ∧ (1 : Int) ≤ ((List.length (j :: r) : Nat) : Int) := ⟨by omega, by simp; omega⟩

theorem DW {α : Type} [Inhabited α] {j : α} {r : List α} : List.getD (j :: r) (Int.toNat (0 : Int)) default = j := rfl

theorem aBi {α : Type} {j : α} {r : List α} : List.drop (Int.toNat (1 : Int)) (j :: r) = r := rfl

end Go.Abs
namespace Go.Abs
open Go
theorem drop_cons {α : Type} {l r : List α} {a : α} {k : Nat} (h : l.drop k = a :: r) : l[k]? = some a ∧ l.drop (k + 1) = r := by
  have hk : k < l.length := by
    apply Classical.byContradiction; intro hn
    rw [List.drop_eq_nil_of_le (by omega)] at h; cases h
  rw [List.drop_eq_getElem_cons hk] at h
  obtain ⟨h1, h2⟩ := List.cons.inj h
  exact ⟨by rw [List.getElem?_eq_getElem hk, h1], h2⟩

theorem aBc {α S st R : Type} {body : S → Option (S ⊕ R)} {l : List α} (mk : st → Int → S) (G : st → List α → R) (Inv : st → List α → Prop)
    (hn : ∀ (i : Nat) a r s, l[i]? = some a → Inv s (a :: r) → (∃ s', body (mk s i) = some (.inl (mk s' ((i + 1 : Nat) : Int))) ∧ Inv s' r ∧ G s' r = G s (a :: r)) ∨ body (mk s i) = some (.inr (G s (a :: r))))
    (he : ∀ s, Inv s [] → body (mk s (l.length : Nat)) = some (.inr (G s []))) : ∀ (r : List α) (k : Nat) (s : st), l.drop k = r → k ≤ l.length → Inv s r → lp body (mk s k) = some (G s r)
  | [], k, s, hd, hk, hi => by
    have : k = l.length := by
      have := congrArg List.length hd
      simp only [List.length_drop, List.length_nil] at this; omega
    subst this
    exact cL (he s hi)
  | a :: r, k, s, hd, hk, hi => by
    obtain ⟨h1, h2⟩ := drop_cons hd
    have hlt : k < l.length := (List.getElem?_eq_some_iff.1 h1).1
    rcases hn k a r s h1 hi with ⟨s', hb, hi', hg⟩ | hb
    · rw [eB hb, aBc mk G Inv hn he r (k + 1) s' h2 (by omega) hi', hg]
    · exact cL hb

theorem nC {α S st R : Type} {body : S → Option (S ⊕ R)} {l : List α} (mk : st → Int → S) (G : st → List α → R) (Inv : st → List α → Prop) (s : st)
    (hn : ∀ (i : Nat) a r s, l[i]? = some a → Inv s (a :: r) → (∃ s', body (mk s i) = some (.inl (mk s' ((i + 1 : Nat) : Int))) ∧ Inv s' r ∧ G s' r = G s (a :: r)) ∨ body (mk s i) = some (.inr (G s (a :: r))))
    (he : ∀ s, Inv s [] → body (mk s (l.length : Nat)) = some (.inr (G s []))) (hi : Inv s l) : lp body (mk s 0) = some (G s l) :=
  aBc mk G Inv hn he l 0 s rfl (Nat.zero_le _) hi

theorem GD {α S R : Type} {body : S → Option (S ⊕ R)} {l : List α} (mk : Int → S) (bad : α → Bool) (x y : R)
    (hn : ∀ (i : Nat) a, l[i]? = some a → body (mk i) = some (if bad a then .inr x else .inl (mk ((i + 1 : Nat) : Int))))
    (he : body (mk (l.length : Nat)) = some (.inr y)) : lp body (mk 0) = some (if l.any bad then x else y) := by
  refine nC (st := Unit) (fun _ i => mk i) (fun _ r => if r.any bad then x else y) (fun _ _ => True) () ?_ ?_ trivial
  · intro i a r s ha _
    have hb := hn i a ha
    cases h : bad a
    · left; refine ⟨(), ?_, trivial, ?_⟩
      · simpa [h] using hb
      · simp [List.any_cons, h]
    · right; simpa [h, List.any_cons] using hb
  · intro _ _; simpa using he

end Go.Abs
namespace Go.Abs
open Go
noncomputable def CD {α : Type} [Inhabited α] (cmp3 : α → α → Option Int) (aB : List α) (a1 : Int) (b2 : Int) (i8 : Int) : Option ((List α × Int) ⊕ ((List α))) :=
  some (.inl (aB, IntKind.i64.wrap (i8 + (1 : Int))))

noncomputable def mJ {α : Type} [Inhabited α] (cmp3 : α → α → Option Int) (a1 : Int) (b2 : Int) (i8 : Int) (aB : List α) (j9 : Int) : Option ((List α × Int) ⊕ ((List α))) :=
  bC ((((decide (a1 < j9))) = true → 0 ≤ j9 ∧ j9 < ((List.length aB : Nat) : Int))) <|
  bC ((((decide (a1 < j9))) = true → 0 ≤ (IntKind.i64.wrap (j9 - (1 : Int))) ∧ (IntKind.i64.wrap (j9 - (1 : Int))) < ((List.length aB : Nat) : Int))) <|
  (cM (decide (a1 < j9)) (cmp3 (List.getD aB (Int.toNat j9) default) (List.getD aB (Int.toNat (IntKind.i64.wrap (j9 - (1 : Int)))) default))).bind fun x3 =>
  cond ((decide (a1 < j9)) && (decide (x3 < (0 : Int))))
  (bC (0 ≤ (IntKind.i64.wrap (j9 - (1 : Int))) ∧ (IntKind.i64.wrap (j9 - (1 : Int))) < ((List.length aB : Nat) : Int)) <|
  bC (0 ≤ j9 ∧ j9 < ((List.length aB : Nat) : Int)) <|
  bC (0 ≤ j9 ∧ j9 < ((List.length aB : Nat) : Int)) <|
  bC (0 ≤ (IntKind.i64.wrap (j9 - (1 : Int))) ∧ (IntKind.i64.wrap (j9 - (1 : Int))) < ((List.length aB : Nat) : Int)) <|
  some (.inl (List.set (List.set aB (Int.toNat j9) (List.getD aB (Int.toNat (IntKind.i64.wrap (j9 - (1 : Int)))) default)) (Int.toNat (IntKind.i64.wrap (j9 - (1 : Int)))) (List.getD aB (Int.toNat j9) default), IntKind.i64.wrap (j9 - (1 : Int)))))
  (some (.inr aB))

noncomputable def CJ {α : Type} [Inhabited α] (cmp3 : α → α → Option Int) (aB : List α) (a1 : Int) (b2 : Int) (i8 : Int) (j9 : Int) : Option ((List α × Int) ⊕ ((List α))) :=
  (lp (fun s => mJ cmp3 a1 b2 i8 s.1 s.2) (aB, j9)).bind (fun rr => CD cmp3 rr a1 b2 i8)

noncomputable def jX {α : Type} [Inhabited α] (cmp3 : α → α → Option Int) (a1 : Int) (b2 : Int) (aB : List α) (i8 : Int) : Option ((List α × Int) ⊕ ((List α))) :=
  cond (decide (i8 < b2))
  (CJ cmp3 aB a1 b2 i8 i8)
  (some (.inr aB))

noncomputable def CI {α : Type} [Inhabited α] (cmp3 : α → α → Option Int) (aB : List α) (a1 : Int) (b2 : Int) (i8 : Int) : Option (List α) :=
  (lp (fun s => jX cmp3 a1 b2 s.1 s.2) (aB, i8)).bind (fun rr => some rr)

noncomputable def oG {α : Type} [Inhabited α] (aB : (List α)) (a1 : Int) (b2 : Int) (cmp3 : α → α → Option Int) : Option (List α) :=
  CI cmp3 aB a1 b2 (IntKind.i64.wrap (a1 + (1 : Int)))

noncomputable def qA {α : Type} [Inhabited α] (cmp4 : α → α → Option Int) (a1 : Int) (b2 : Int) (n3 : Int) (aB : List α) (i10 : Int) : Option ((List α × Int) ⊕ ((List α))) :=
  cond (decide (i10 < n3))
  (bC (0 ≤ (IntKind.i64.wrap (b2 + i10)) ∧ (IntKind.i64.wrap (b2 + i10)) < ((List.length aB : Nat) : Int)) <|
  bC (0 ≤ (IntKind.i64.wrap (a1 + i10)) ∧ (IntKind.i64.wrap (a1 + i10)) < ((List.length aB : Nat) : Int)) <|
  bC (0 ≤ (IntKind.i64.wrap (a1 + i10)) ∧ (IntKind.i64.wrap (a1 + i10)) < ((List.length aB : Nat) : Int)) <|
  bC (0 ≤ (IntKind.i64.wrap (b2 + i10)) ∧ (IntKind.i64.wrap (b2 + i10)) < ((List.length aB : Nat) : Int)) <|
  some (.inl (List.set (List.set aB (Int.toNat (IntKind.i64.wrap (a1 + i10))) (List.getD aB (Int.toNat (IntKind.i64.wrap (b2 + i10))) default)) (Int.toNat (IntKind.i64.wrap (b2 + i10))) (List.getD aB (Int.toNat (IntKind.i64.wrap (a1 + i10))) default), IntKind.i64.wrap (i10 + (1 : Int)))))
  (some (.inr aB))

noncomputable def FY {α : Type} [Inhabited α] (cmp4 : α → α → Option Int) (aB : List α) (a1 : Int) (b2 : Int) (n3 : Int) (i10 : Int) : Option (List α) :=
  (lp (fun s => qA cmp4 a1 b2 n3 s.1 s.2) (aB, i10)).bind (fun rr => some rr)

noncomputable def wA {α : Type} [Inhabited α] (aB : (List α)) (a1 : Int) (b2 : Int) (n3 : Int) (cmp4 : α → α → Option Int) : Option (List α) :=
  FY cmp4 aB a1 b2 n3 (0 : Int)

noncomputable def FU {α : Type} [Inhabited α] (cmp4 : α → α → Option Int) (aB : List α) (m2 : Int) (i10 : Int) : Option (List α) :=
  (wA aB (IntKind.i64.wrap (m2 - i10)) m2 i10 cmp4).bind fun x1 =>
  some x1

noncomputable def mS {α : Type} [Inhabited α] (cmp4 : α → α → Option Int) (m2 : Int) (aB : List α) (i10 : Int) (j11 : Int) : Option ((List α × Int × Int) ⊕ ((List α × Int))) :=
  cond (!decide (i10 = j11))
  (cond (decide (j11 < i10))
  ((wA aB (IntKind.i64.wrap (m2 - i10)) m2 j11 cmp4).bind fun x4 =>
  some (.inl (x4, IntKind.i64.wrap (i10 - j11), j11)))
  ((wA aB (IntKind.i64.wrap (m2 - i10)) (IntKind.i64.wrap ((IntKind.i64.wrap (m2 + j11)) - i10)) i10 cmp4).bind fun x7 =>
  some (.inl (x7, i10, IntKind.i64.wrap (j11 - i10)))))
  (some (.inr (aB, i10)))

noncomputable def LL {α : Type} [Inhabited α] (cmp4 : α → α → Option Int) (aB : List α) (m2 : Int) (i10 : Int) (j11 : Int) : Option (List α) :=
  (lp (fun s => mS cmp4 m2 s.1 s.2.1 s.2.2) (aB, i10, j11)).bind (fun rr => FU cmp4 rr.1 m2 rr.2)

noncomputable def FC {α : Type} [Inhabited α] (aB : (List α)) (a1 : Int) (m2 : Int) (b3 : Int) (cmp4 : α → α → Option Int) : Option (List α) :=
  LL cmp4 aB m2 (IntKind.i64.wrap (m2 - a1)) (IntKind.i64.wrap (b3 - m2))

noncomputable def CW {α : Type} [Inhabited α] (cmp4 : α → α → Option Int) (rec : (List α) → Int → Int → Int → Option (List α)) (aB : List α) (b3 : Int) (bS : Int) (eA : Int) : Option (List α) :=
  cond ((decide (bS < eA)) && (decide (eA < b3)))
  ((rec aB bS eA b3).bind fun x2 =>
  some x2)
  (some aB)

noncomputable def qU {α : Type} [Inhabited α] (cmp4 : α → α → Option Int) (rec : (List α) → Int → Int → Int → Option (List α)) (aB : List α) (a1 : Int) (b3 : Int) (bS : Int) (aW : Int) (eA : Int) : Option (List α) :=
  cond ((decide (a1 < aW)) && (decide (aW < bS)))
  ((rec aB a1 aW bS).bind fun x6 =>
  CW cmp4 rec x6 b3 bS eA)
  (CW cmp4 rec aB b3 bS eA)

noncomputable def IN {α : Type} [Inhabited α] (cmp4 : α → α → Option Int) (rec : (List α) → Int → Int → Int → Option (List α)) (aB : List α) (a1 : Int) (m2 : Int) (b3 : Int) (bS : Int) (n19 : Int) (aW : Int) : Option (List α) :=
  cond ((decide (aW < m2)) && (decide (m2 < (IntKind.i64.wrap (n19 - aW)))))
  ((FC aB aW m2 (IntKind.i64.wrap (n19 - aW)) cmp4).bind fun x10 =>
  qU cmp4 rec x10 a1 b3 bS aW (IntKind.i64.wrap (n19 - aW)))
  (qU cmp4 rec aB a1 b3 bS aW (IntKind.i64.wrap (n19 - aW)))

noncomputable def pF {α : Type} [Inhabited α] (cmp4 : α → α → Option Int) (rec : (List α) → Int → Int → Int → Option (List α)) (a1 : Int) (m2 : Int) (b3 : Int) (bS : Int) (n19 : Int) (p22 : Int) (aB : List α) (aW : Int) (r21 : Int) : Option ((List α × Int × Int) ⊕ ((List α × Int))) :=
  cond (decide (aW < r21))
  (bC (0 ≤ (1 : Int)) <|
  bC (0 ≤ (IntKind.i64.wrap (p22 - (IntKind.i64.wrap (Int.fdiv (IntKind.u64.wrap (IntKind.i64.wrap (aW + r21))) (2 ^ (min (Int.toNat (1 : Int)) 64)))))) ∧ (IntKind.i64.wrap (p22 - (IntKind.i64.wrap (Int.fdiv (IntKind.u64.wrap (IntKind.i64.wrap (aW + r21))) (2 ^ (min (Int.toNat (1 : Int)) 64)))))) < ((List.length aB : Nat) : Int)) <|
  bC (0 ≤ (IntKind.i64.wrap (Int.fdiv (IntKind.u64.wrap (IntKind.i64.wrap (aW + r21))) (2 ^ (min (Int.toNat (1 : Int)) 64)))) ∧ (IntKind.i64.wrap (Int.fdiv (IntKind.u64.wrap (IntKind.i64.wrap (aW + r21))) (2 ^ (min (Int.toNat (1 : Int)) 64)))) < ((List.length aB : Nat) : Int)) <|
  (cmp4 (List.getD aB (Int.toNat (IntKind.i64.wrap (p22 - (IntKind.i64.wrap (Int.fdiv (IntKind.u64.wrap (IntKind.i64.wrap (aW + r21))) (2 ^ (min (Int.toNat (1 : Int)) 64))))))) default) (List.getD aB (Int.toNat (IntKind.i64.wrap (Int.fdiv (IntKind.u64.wrap (IntKind.i64.wrap (aW + r21))) (2 ^ (min (Int.toNat (1 : Int)) 64))))) default)).bind fun x17 =>
  cond (!(decide (x17 < (0 : Int))))
  (some (.inl (aB, IntKind.i64.wrap ((IntKind.i64.wrap (Int.fdiv (IntKind.u64.wrap (IntKind.i64.wrap (aW + r21))) (2 ^ (min (Int.toNat (1 : Int)) 64)))) + (1 : Int)), r21)))
  (some (.inl (aB, aW, IntKind.i64.wrap (Int.fdiv (IntKind.u64.wrap (IntKind.i64.wrap (aW + r21))) (2 ^ (min (Int.toNat (1 : Int)) 64)))))))
  (some (.inr (aB, aW)))

noncomputable def IF {α : Type} [Inhabited α] (cmp4 : α → α → Option Int) (rec : (List α) → Int → Int → Int → Option (List α)) (aB : List α) (a1 : Int) (m2 : Int) (b3 : Int) (bS : Int) (n19 : Int) (aW : Int) (r21 : Int) (p22 : Int) : Option (List α) :=
  (lp (fun s => pF cmp4 rec a1 m2 b3 bS n19 p22 s.1 s.2.1 s.2.2) (aB, aW, r21)).bind (fun rr => IN cmp4 rec rr.1 a1 m2 b3 bS n19 rr.2)

noncomputable def yK {α : Type} [Inhabited α] (cmp4 : α → α → Option Int) (rec : (List α) → Int → Int → Int → Option (List α)) (aB : List α) (a1 : Int) (m2 : Int) (b3 : Int) (bS : Int) (n19 : Int) (aW : Int) (r21 : Int) : Option (List α) :=
  IF cmp4 rec aB a1 m2 b3 bS n19 aW r21 (IntKind.i64.wrap (n19 - (1 : Int)))

noncomputable def yJ {α : Type} [Inhabited α] (cmp4 : α → α → Option Int) (rec : (List α) → Int → Int → Int → Option (List α)) (aB : List α) (a1 : Int) (m2 : Int) (b3 : Int) : Option (List α) :=
  bC (0 ≤ (1 : Int)) <|
  cond (decide ((IntKind.i64.wrap (Int.fdiv (IntKind.u64.wrap (IntKind.i64.wrap (a1 + b3))) (2 ^ (min (Int.toNat (1 : Int)) 64)))) < m2))
  (yK cmp4 rec aB a1 m2 b3 (IntKind.i64.wrap (Int.fdiv (IntKind.u64.wrap (IntKind.i64.wrap (a1 + b3))) (2 ^ (min (Int.toNat (1 : Int)) 64)))) (IntKind.i64.wrap ((IntKind.i64.wrap (Int.fdiv (IntKind.u64.wrap (IntKind.i64.wrap (a1 + b3))) (2 ^ (min (Int.toNat (1 : Int)) 64)))) + m2)) (IntKind.i64.wrap ((IntKind.i64.wrap ((IntKind.i64.wrap (Int.fdiv (IntKind.u64.wrap (IntKind.i64.wrap (a1 + b3))) (2 ^ (min (Int.toNat (1 : Int)) 64)))) + m2)) - b3)) (IntKind.i64.wrap (Int.fdiv (IntKind.u64.wrap (IntKind.i64.wrap (a1 + b3))) (2 ^ (min (Int.toNat (1 : Int)) 64)))))
  (yK cmp4 rec aB a1 m2 b3 (IntKind.i64.wrap (Int.fdiv (IntKind.u64.wrap (IntKind.i64.wrap (a1 + b3))) (2 ^ (min (Int.toNat (1 : Int)) 64)))) (IntKind.i64.wrap ((IntKind.i64.wrap (Int.fdiv (IntKind.u64.wrap (IntKind.i64.wrap (a1 + b3))) (2 ^ (min (Int.toNat (1 : Int)) 64)))) + m2)) a1 m2)

noncomputable def II {α : Type} [Inhabited α] (cmp4 : α → α → Option Int) (rec : (List α) → Int → Int → Int → Option (List α)) (aB : List α) : Option (List α) :=
  some aB

noncomputable def oD {α : Type} [Inhabited α] (cmp4 : α → α → Option Int) (rec : (List α) → Int → Int → Int → Option (List α)) (i14 : Int) (aB : List α) (k17 : Int) : Option ((List α × Int) ⊕ ((List α))) :=
  cond (decide (i14 < k17))
  (bC (0 ≤ (IntKind.i64.wrap (k17 - (1 : Int))) ∧ (IntKind.i64.wrap (k17 - (1 : Int))) < ((List.length aB : Nat) : Int)) <|
  bC (0 ≤ k17 ∧ k17 < ((List.length aB : Nat) : Int)) <|
  bC (0 ≤ k17 ∧ k17 < ((List.length aB : Nat) : Int)) <|
  bC (0 ≤ (IntKind.i64.wrap (k17 - (1 : Int))) ∧ (IntKind.i64.wrap (k17 - (1 : Int))) < ((List.length aB : Nat) : Int)) <|
  some (.inl (List.set (List.set aB (Int.toNat k17) (List.getD aB (Int.toNat (IntKind.i64.wrap (k17 - (1 : Int)))) default)) (Int.toNat (IntKind.i64.wrap (k17 - (1 : Int)))) (List.getD aB (Int.toNat k17) default), IntKind.i64.wrap (k17 - (1 : Int)))))
  (some (.inr aB))

noncomputable def GA {α : Type} [Inhabited α] (cmp4 : α → α → Option Int) (rec : (List α) → Int → Int → Int → Option (List α)) (aB : List α) (i14 : Int) (k17 : Int) : Option (List α) :=
  (lp (fun s => oD cmp4 rec i14 s.1 s.2) (aB, k17)).bind (fun rr => II cmp4 rec rr)

noncomputable def IP {α : Type} [Inhabited α] (cmp4 : α → α → Option Int) (rec : (List α) → Int → Int → Int → Option (List α)) (aB : List α) (m2 : Int) (i14 : Int) : Option (List α) :=
  GA cmp4 rec aB i14 m2

noncomputable def oC {α : Type} [Inhabited α] (cmp4 : α → α → Option Int) (rec : (List α) → Int → Int → Int → Option (List α)) (m2 : Int) (aB : List α) (i14 : Int) (j15 : Int) : Option ((List α × Int × Int) ⊕ ((List α × Int))) :=
  cond (decide (i14 < j15))
  (bC (0 ≤ (1 : Int)) <|
  bC (0 ≤ m2 ∧ m2 < ((List.length aB : Nat) : Int)) <|
  bC (0 ≤ (IntKind.i64.wrap (Int.fdiv (IntKind.u64.wrap (IntKind.i64.wrap (i14 + j15))) (2 ^ (min (Int.toNat (1 : Int)) 64)))) ∧ (IntKind.i64.wrap (Int.fdiv (IntKind.u64.wrap (IntKind.i64.wrap (i14 + j15))) (2 ^ (min (Int.toNat (1 : Int)) 64)))) < ((List.length aB : Nat) : Int)) <|
  (cmp4 (List.getD aB (Int.toNat m2) default) (List.getD aB (Int.toNat (IntKind.i64.wrap (Int.fdiv (IntKind.u64.wrap (IntKind.i64.wrap (i14 + j15))) (2 ^ (min (Int.toNat (1 : Int)) 64))))) default)).bind fun x31 =>
  cond (!(decide (x31 < (0 : Int))))
  (some (.inl (aB, IntKind.i64.wrap ((IntKind.i64.wrap (Int.fdiv (IntKind.u64.wrap (IntKind.i64.wrap (i14 + j15))) (2 ^ (min (Int.toNat (1 : Int)) 64)))) + (1 : Int)), j15)))
  (some (.inl (aB, i14, IntKind.i64.wrap (Int.fdiv (IntKind.u64.wrap (IntKind.i64.wrap (i14 + j15))) (2 ^ (min (Int.toNat (1 : Int)) 64)))))))
  (some (.inr (aB, i14)))

noncomputable def GC {α : Type} [Inhabited α] (cmp4 : α → α → Option Int) (rec : (List α) → Int → Int → Int → Option (List α)) (aB : List α) (m2 : Int) (i14 : Int) (j15 : Int) : Option (List α) :=
  (lp (fun s => oC cmp4 rec m2 s.1 s.2.1 s.2.2) (aB, i14, j15)).bind (fun rr => IP cmp4 rec rr.1 m2 rr.2)

noncomputable def CR {α : Type} [Inhabited α] (cmp4 : α → α → Option Int) (rec : (List α) → Int → Int → Int → Option (List α)) (aB : List α) (a1 : Int) (m2 : Int) (b3 : Int) : Option (List α) :=
  cond (decide ((IntKind.i64.wrap (b3 - m2)) = (1 : Int)))
  (GC cmp4 rec aB m2 a1 m2)
  (yJ cmp4 rec aB a1 m2 b3)

noncomputable def GK {α : Type} [Inhabited α] (cmp4 : α → α → Option Int) (rec : (List α) → Int → Int → Int → Option (List α)) (aB : List α) : Option (List α) :=
  some aB

noncomputable def oE {α : Type} [Inhabited α] (cmp4 : α → α → Option Int) (rec : (List α) → Int → Int → Int → Option (List α)) (i10 : Int) (aB : List α) (k13 : Int) : Option ((List α × Int) ⊕ ((List α))) :=
  cond (decide (k13 < (IntKind.i64.wrap (i10 - (1 : Int)))))
  (bC (0 ≤ (IntKind.i64.wrap (k13 + (1 : Int))) ∧ (IntKind.i64.wrap (k13 + (1 : Int))) < ((List.length aB : Nat) : Int)) <|
  bC (0 ≤ k13 ∧ k13 < ((List.length aB : Nat) : Int)) <|
  bC (0 ≤ k13 ∧ k13 < ((List.length aB : Nat) : Int)) <|
  bC (0 ≤ (IntKind.i64.wrap (k13 + (1 : Int))) ∧ (IntKind.i64.wrap (k13 + (1 : Int))) < ((List.length aB : Nat) : Int)) <|
  some (.inl (List.set (List.set aB (Int.toNat k13) (List.getD aB (Int.toNat (IntKind.i64.wrap (k13 + (1 : Int)))) default)) (Int.toNat (IntKind.i64.wrap (k13 + (1 : Int)))) (List.getD aB (Int.toNat k13) default), IntKind.i64.wrap (k13 + (1 : Int)))))
  (some (.inr aB))

noncomputable def GP {α : Type} [Inhabited α] (cmp4 : α → α → Option Int) (rec : (List α) → Int → Int → Int → Option (List α)) (aB : List α) (i10 : Int) (k13 : Int) : Option (List α) :=
  (lp (fun s => oE cmp4 rec i10 s.1 s.2) (aB, k13)).bind (fun rr => GK cmp4 rec rr)

noncomputable def GL {α : Type} [Inhabited α] (cmp4 : α → α → Option Int) (rec : (List α) → Int → Int → Int → Option (List α)) (aB : List α) (a1 : Int) (i10 : Int) : Option (List α) :=
  GP cmp4 rec aB i10 a1

noncomputable def oF {α : Type} [Inhabited α] (cmp4 : α → α → Option Int) (rec : (List α) → Int → Int → Int → Option (List α)) (a1 : Int) (aB : List α) (i10 : Int) (j11 : Int) : Option ((List α × Int × Int) ⊕ ((List α × Int))) :=
  cond (decide (i10 < j11))
  (bC (0 ≤ (1 : Int)) <|
  bC (0 ≤ (IntKind.i64.wrap (Int.fdiv (IntKind.u64.wrap (IntKind.i64.wrap (i10 + j11))) (2 ^ (min (Int.toNat (1 : Int)) 64)))) ∧ (IntKind.i64.wrap (Int.fdiv (IntKind.u64.wrap (IntKind.i64.wrap (i10 + j11))) (2 ^ (min (Int.toNat (1 : Int)) 64)))) < ((List.length aB : Nat) : Int)) <|
  bC (0 ≤ a1 ∧ a1 < ((List.length aB : Nat) : Int)) <|
  (cmp4 (List.getD aB (Int.toNat (IntKind.i64.wrap (Int.fdiv (IntKind.u64.wrap (IntKind.i64.wrap (i10 + j11))) (2 ^ (min (Int.toNat (1 : Int)) 64))))) default) (List.getD aB (Int.toNat a1) default)).bind fun x45 =>
  cond (decide (x45 < (0 : Int)))
  (some (.inl (aB, IntKind.i64.wrap ((IntKind.i64.wrap (Int.fdiv (IntKind.u64.wrap (IntKind.i64.wrap (i10 + j11))) (2 ^ (min (Int.toNat (1 : Int)) 64)))) + (1 : Int)), j11)))
  (some (.inl (aB, i10, IntKind.i64.wrap (Int.fdiv (IntKind.u64.wrap (IntKind.i64.wrap (i10 + j11))) (2 ^ (min (Int.toNat (1 : Int)) 64)))))))
  (some (.inr (aB, i10)))

noncomputable def FZ {α : Type} [Inhabited α] (cmp4 : α → α → Option Int) (rec : (List α) → Int → Int → Int → Option (List α)) (aB : List α) (a1 : Int) (i10 : Int) (j11 : Int) : Option (List α) :=
  (lp (fun s => oF cmp4 rec a1 s.1 s.2.1 s.2.2) (aB, i10, j11)).bind (fun rr => GL cmp4 rec rr.1 a1 rr.2)

noncomputable def eD {α : Type} [Inhabited α] (cmp4 : α → α → Option Int) (rec : (List α) → Int → Int → Int → Option (List α)) (aB : (List α)) (a1 : Int) (m2 : Int) (b3 : Int) : Option (List α) :=
  cond (decide ((IntKind.i64.wrap (m2 - a1)) = (1 : Int)))
  (FZ cmp4 rec aB a1 m2 b3)
  (CR cmp4 rec aB a1 m2 b3)

noncomputable def eF {α : Type} [Inhabited α] (cmp4 : α → α → Option Int) : Nat → (List α) → Int → Int → Int → Option (List α)
  | 0 => fun _ _ _ _ => none
  | k + 1 => eD cmp4 (eF cmp4 k)

noncomputable def pS {α : Type} [Inhabited α] (aB : (List α)) (a1 : Int) (m2 : Int) (b3 : Int) (cmp4 : α → α → Option Int) : Option (List α) := LX (fun k => eF cmp4 k aB a1 m2 b3)

noncomputable def BS {α : Type} [Inhabited α] (cmp2 : α → α → Option Int) (aB : List α) (n1 : Int) (aO : Int) : Option ((List α × Int) ⊕ ((List α))) :=
  some (.inl (aB, IntKind.i64.wrap (aO * (2 : Int))))

noncomputable def xW {α : Type} [Inhabited α] (cmp2 : α → α → Option Int) (aB : List α) (n1 : Int) (aO : Int) (a7 : Int) : Option ((List α × Int) ⊕ ((List α))) :=
  cond (decide ((IntKind.i64.wrap (a7 + aO)) < n1))
  ((pS aB a7 (IntKind.i64.wrap (a7 + aO)) n1 cmp2).bind fun x4 =>
  BS cmp2 x4 n1 aO)
  (BS cmp2 aB n1 aO)

noncomputable def mU {α : Type} [Inhabited α] (cmp2 : α → α → Option Int) (n1 : Int) (aO : Int) (aB : List α) (a7 : Int) (b8 : Int) : Option ((List α × Int × Int) ⊕ ((List α × Int))) :=
  cond (decide (b8 ≤ n1))
  ((pS aB a7 (IntKind.i64.wrap (a7 + aO)) b8 cmp2).bind fun x8 =>
  some (.inl (x8, b8, IntKind.i64.wrap (b8 + (IntKind.i64.wrap ((2 : Int) * aO))))))
  (some (.inr (aB, a7)))

noncomputable def xX {α : Type} [Inhabited α] (cmp2 : α → α → Option Int) (aB : List α) (n1 : Int) (aO : Int) (a7 : Int) (b8 : Int) : Option ((List α × Int) ⊕ ((List α))) :=
  (lp (fun s => mU cmp2 n1 aO s.1 s.2.1 s.2.2) (aB, a7, b8)).bind (fun rr => xW cmp2 rr.1 n1 aO rr.2)

noncomputable def kD {α : Type} [Inhabited α] (cmp2 : α → α → Option Int) (n1 : Int) (aB : List α) (aO : Int) : Option ((List α × Int) ⊕ ((List α))) :=
  cond (decide (aO < n1))
  (xX cmp2 aB n1 aO (0 : Int) (IntKind.i64.wrap ((2 : Int) * aO)))
  (some (.inr aB))

noncomputable def BO {α : Type} [Inhabited α] (cmp2 : α → α → Option Int) (aB : List α) (n1 : Int) (aO : Int) : Option (List α) :=
  (lp (fun s => kD cmp2 n1 s.1 s.2) (aB, aO)).bind (fun rr => some rr)

noncomputable def BQ {α : Type} [Inhabited α] (cmp2 : α → α → Option Int) (aB : List α) (n1 : Int) (aO : Int) (a7 : Int) : Option (List α) :=
  (oG aB a7 n1 cmp2).bind fun x1 =>
  BO cmp2 x1 n1 aO

noncomputable def mV {α : Type} [Inhabited α] (cmp2 : α → α → Option Int) (n1 : Int) (aO : Int) (aB : List α) (a7 : Int) (b8 : Int) : Option ((List α × Int × Int) ⊕ ((List α × Int))) :=
  cond (decide (b8 ≤ n1))
  ((oG aB a7 b8 cmp2).bind fun x13 =>
  some (.inl (x13, b8, IntKind.i64.wrap (b8 + aO))))
  (some (.inr (aB, a7)))

noncomputable def CB {α : Type} [Inhabited α] (cmp2 : α → α → Option Int) (aB : List α) (n1 : Int) (aO : Int) (a7 : Int) (b8 : Int) : Option (List α) :=
  (lp (fun s => mV cmp2 n1 aO s.1 s.2.1 s.2.2) (aB, a7, b8)).bind (fun rr => BQ cmp2 rr.1 n1 aO rr.2)

noncomputable def zD {α : Type} [Inhabited α] (aB : (List α)) (n1 : Int) (cmp2 : α → α → Option Int) : Option (List α) :=
  CB cmp2 aB n1 (20 : Int) (0 : Int) (20 : Int)

end Go.Abs
namespace Go.Abs
open Go
variable {α : Type} [Inhabited α]
structure Cmp {β : Type} (ok : β → Prop) (le : β → β → Prop) (cmp : β → β → Option Int) : Prop where
  ans : ∀ x y, ok x → ok y → ∃ v, cmp x y = some v ∧ (v < 0 ↔ ¬ le y x)
  trans : ∀ x y z, ok x → ok y → ok z → le x y → le y z → le x z
  total : ∀ x y, ok x → ok y → le x y ∨ le y x

abbrev Srt {β : Type} (le : β → β → Prop) (l : List β) : Prop := l.Pairwise le

abbrev Oks {β : Type} (ok : β → Prop) (l : List β) : Prop := ∀ x ∈ l, ok x

theorem aBA {Q R : List α} {x : α} : (Q ++ x :: R).getD Q.length default = x := by simp [List.getD_eq_getElem?_getD]

theorem aCt {β : Type} {Q R : List β} {x y : β} : (Q ++ x :: R).set Q.length y = Q ++ y :: R := by simp

theorem qY {Q R d : List α} {x : α} {n : Nat} (hd : d = Q ++ x :: R) (hn : n = Q.length) : d.getD n default = x := by subst hd; subst hn; exact aBA

theorem GI {β : Type} {Q R d : List β} {x y : β} {n : Nat} (hd : d = Q ++ x :: R) (hn : n = Q.length) : d.set n y = Q ++ y :: R := by subst hd; subst hn; exact aCt

theorem wr {n : Int} (h1 : -1099511627776 ≤ n) (h2 : n ≤ 8796093022208) : IntKind.i64.wrap n = n := dI (by omega) (by omega)

theorem UG {β : Type} {Q M R d : List β} {x y : β} {a b : Nat} (hd : d = Q ++ x :: (M ++ y :: R)) (ha : a = Q.length) (hb : b = Q.length + 1 + M.length) : (d.set a y).set b x = Q ++ y :: (M ++ x :: R) := by
  rw [GI hd ha, GI (Q := Q ++ y :: M) (x := y) (R := R) (by simp) (by simp; omega)]
  simp

section ins
variable {ok : α → Prop} {le : α → α → Prop} {cmp : α → α → Option Int}
theorem IQ {A T : List α} {x : α} {a b i : Int} {P : List α} (ha : a = (P.length : Nat)) (hl : (P ++ A ++ x :: T).length ≤ 1099511627776)
    (hs : A = [] ∨ ∃ A' y v, A = A' ++ [y] ∧ cmp x y = some v ∧ ¬ v < 0) : mJ cmp a b i (P ++ A ++ x :: T) ((P.length + A.length : Nat) : Int) = some (.inr (P ++ A ++ x :: T)) := by
  simp only [List.length_append, List.length_cons] at hl
  unfold mJ
  rcases hs with rfl | ⟨A', y, v, rfl, hc, hv⟩
  · have h : decide (a < ((P.length + ([] : List α).length : Nat) : Int)) = false := by subst ha; simp
    rw [h, aQ (fun h => by cases h), aQ (fun h => by cases h)]
    simp [cM]
  · simp only [List.length_append, List.length_cons, List.length_nil] at hl ⊢
    have h : decide (a < ((P.length + (A'.length + (0 + 1)) : Nat) : Int)) = true := by subst ha; simp; omega
    have hw : IntKind.i64.wrap (((P.length + (A'.length + (0 + 1)) : Nat) : Int) - 1) = ((P.length + A'.length : Nat) : Int) := by rw [wr (by omega) (by omega)]; omega
    have g1 : (P ++ (A' ++ [y]) ++ x :: T).getD (P.length + (A'.length + (0 + 1))) default = x := qY (Q := P ++ (A' ++ [y])) rfl (by simp)
    have g2 : (P ++ (A' ++ [y]) ++ x :: T).getD (P.length + A'.length) default = y := qY (Q := P ++ A') (R := x :: T) (by simp) (by simp)
    rw [h, hw, aQ (fun _ => ⟨by omega, by omega⟩), aQ (fun _ => ⟨by omega, by omega⟩)]
    rw [Int.toNat_natCast, Int.toNat_natCast, g1, g2]
    simp [cM, hc, hv]

theorem WS {A T : List α} {x y : α} {v : Int} {a b i : Int} {P : List α} (ha : a = (P.length : Nat)) (hl : (P ++ (A ++ [y]) ++ x :: T).length ≤ 1099511627776)
    (hc : cmp x y = some v) (hv : v < 0) : mJ cmp a b i (P ++ (A ++ [y]) ++ x :: T) ((P.length + (A ++ [y]).length : Nat) : Int) = some (.inl (P ++ A ++ x :: (y :: T), ((P.length + A.length : Nat) : Int))) := by
  simp only [List.length_append, List.length_cons, List.length_nil] at hl ⊢
  unfold mJ
  have h : decide (a < ((P.length + (A.length + (0 + 1)) : Nat) : Int)) = true := by subst ha; simp; omega
  have hw : IntKind.i64.wrap (((P.length + (A.length + (0 + 1)) : Nat) : Int) - 1) = ((P.length + A.length : Nat) : Int) := by rw [wr (by omega) (by omega)]; omega
  have g1 : (P ++ (A ++ [y]) ++ x :: T).getD (P.length + (A.length + (0 + 1))) default = x := qY (Q := P ++ (A ++ [y])) rfl (by simp)
  have g2 : (P ++ (A ++ [y]) ++ x :: T).getD (P.length + A.length) default = y := qY (Q := P ++ A) (R := x :: T) (by simp) (by simp)
  have hs : ((P ++ (A ++ [y]) ++ x :: T).set (P.length + (A.length + (0 + 1))) y).set (P.length + A.length) x = P ++ A ++ x :: (y :: T) := by
    rw [GI (Q := P ++ (A ++ [y])) (x := x) (R := T) rfl (by simp), GI (Q := P ++ A) (x := y) (R := y :: T) (by simp) (by simp)]
  have b1 : 0 ≤ ((P.length + (A.length + (0 + 1)) : Nat) : Int) ∧ ((P.length + (A.length + (0 + 1)) : Nat) : Int) < ((List.length (P ++ (A ++ [y]) ++ x :: T) : Nat) : Int) := ⟨by omega, by simp only [List.length_append, List.length_cons, List.length_nil]; omega⟩
  have b2 : 0 ≤ ((P.length + A.length : Nat) : Int) ∧ ((P.length + A.length : Nat) : Int) < ((List.length (P ++ (A ++ [y]) ++ x :: T) : Nat) : Int) := ⟨by omega, by simp only [List.length_append, List.length_cons, List.length_nil]; omega⟩
  rw [h, hw, aQ (fun _ => b1), aQ (fun _ => b2), Int.toNat_natCast, Int.toNat_natCast, g1, g2]
  simp only [cM, cond_true, hc, Option.bind_some, Bool.true_and, decide_eq_true hv]
  rw [aQ b2, aQ b1, aQ b1, aQ b2, hs]

theorem aAT (C : Cmp ok le cmp) {x : α} (hx : ok x) {a b i : Int} {P : List α} (ha : a = (P.length : Nat)) : ∀ (n : Nat) (A B T : List α), A.length = n → Oks ok A → Oks ok B → Srt le (A ++ B) → (∀ y ∈ B, ¬ le y x) → (P ++ A ++ x :: (B ++ T)).length ≤ 1099511627776 →
    ∃ D, D.Perm (A ++ x :: B) ∧ Srt le D ∧ lp (fun s : List α × Int => mJ cmp a b i s.1 s.2) (P ++ A ++ x :: (B ++ T), ((P.length + A.length : Nat) : Int)) = some (P ++ D ++ T) := by
  intro n
  induction n with
  | zero =>
    intro A B T hn _ hB hs hlt hl
    have hA : A = [] := List.length_eq_zero_iff.1 hn
    subst hA
    refine ⟨x :: B, List.Perm.refl _, ?_, ?_⟩
    · refine List.pairwise_cons.2 ⟨fun y hy => ?_, by simpa using hs⟩
      rcases C.total x y hx (hB y hy) with h | h
      · exact h
      · exact absurd h (hlt y hy)
    · rw [cL (IQ ha hl (Or.inl rfl))]; simp
  | succ n ih =>
    intro A B T hn hA hB hs hlt hl
    obtain ⟨A', y, rfl⟩ : ∃ A' y, A = A' ++ [y] := by
      rcases List.eq_nil_or_concat A with h | ⟨A', y, h⟩
      · rw [h] at hn; simp at hn
      · exact ⟨A', y, by simpa using h⟩
    have hy : ok y := hA y (by simp)
    obtain ⟨v, hc, hv⟩ := C.ans x y hx hy
    by_cases hneg : v < 0
    · have hb := WS (i := i) (b := b) ha hl hc hneg
      have hl' : (P ++ A' ++ x :: ((y :: B) ++ T)).length ≤ 1099511627776 := by
        simp only [List.length_append, List.length_cons, List.length_nil] at hl ⊢; omega
      obtain ⟨D, d1, d2, d3⟩ := ih A' (y :: B) T (by simpa using hn) (fun z hz => hA z (by simp [hz])) (fun z hz => by rcases List.mem_cons.1 hz with rfl | hz; exact hy; exact hB z hz) (by simpa using hs)
        (fun z hz => by rcases List.mem_cons.1 hz with rfl | hz; exact hv.1 hneg; exact hlt z hz) hl'
      refine ⟨D, d1.trans ?_, d2, ?_⟩
      · simp only [List.append_assoc, List.singleton_append]
        exact List.Perm.append_left _ (List.Perm.swap ..)
      · rw [eB hb]; simpa using d3
    · refine ⟨A' ++ [y] ++ x :: B, List.Perm.refl _, ?_, ?_⟩
      · have hyx : le y x := Classical.byContradiction fun h => hneg (hv.2 h)
        simp only [Srt, List.pairwise_append] at hs ⊢
        obtain ⟨s1, s2, s3⟩ := hs
        refine ⟨s1, List.pairwise_cons.2 ⟨fun z hz => ?_, s2⟩, ?_⟩
        · rcases C.total x z hx (hB z hz) with h | h
          · exact h
          · exact absurd h (hlt z hz)
        · intro z hz w hw
          rcases List.mem_cons.1 hw with rfl | hw
          · rcases List.mem_append.1 hz with hz' | hz'
            · exact C.trans z y w (hA z hz) hy hx (s1.2.2 z hz' y (by simp)) hyx
            · rw [List.mem_singleton] at hz'; subst hz'; exact hyx
          · exact s3 z hz w hw
      · rw [cL (IQ ha hl (Or.inr ⟨A', y, v, rfl, hc, hneg⟩))]
        simp

theorem RF (C : Cmp ok le cmp) {a b : Int} {P : List α} (ha : a = (P.length : Nat)) : ∀ (B A T : List α), Oks ok A → Oks ok B → Srt le A → b = ((P.length + A.length + B.length : Nat) : Int) → (P ++ A ++ (B ++ T)).length ≤ 1099511627776 →
    ∃ D, D.Perm (A ++ B) ∧ Srt le D ∧ lp (fun s : List α × Int => jX cmp a b s.1 s.2) (P ++ A ++ (B ++ T), ((P.length + A.length : Nat) : Int)) = some (P ++ D ++ T)
  | [], A, T, _, _, hs, hb, _ => by
    refine ⟨A, by simp, hs, cL ?_⟩
    have : decide (((P.length + A.length : Nat) : Int) < b) = false := by subst hb; simp
    simp only [jX, this, cond_false, List.nil_append]
  | x :: B, A, T, hA, hB, hs, hb, hl => by
    obtain ⟨D, d1, d2, d3⟩ := aAT C (hB x (by simp)) (b := b) (i := ((P.length + A.length : Nat) : Int)) ha A.length A [] (B ++ T) rfl hA (by intro z hz; simp at hz) (by simpa using hs) (by simp) (by simpa using hl)
    have hD : D.length = A.length + 1 := by rw [d1.length_eq]; simp
    have hlt : decide (((P.length + A.length : Nat) : Int) < b) = true := by subst hb; simp; omega
    have hbod : (fun s : List α × Int => jX cmp a b s.1 s.2) (P ++ A ++ (x :: B ++ T), ((P.length + A.length : Nat) : Int)) = some (.inl (P ++ D ++ (B ++ T), ((P.length + D.length : Nat) : Int))) := by
      show jX cmp a b _ _ = _
      simp only [jX, hlt, cond_true, CJ]
      rw [show P ++ A ++ (x :: B ++ T) = P ++ A ++ x :: ([] ++ (B ++ T)) by simp, d3]
      simp only [Option.bind_some, CD]
      rw [wr (by omega) (by simp only [List.length_append, List.length_cons] at hl; omega), hD]
      congr 1
    have hl' : (P ++ D ++ (B ++ T)).length ≤ 1099511627776 := by simp only [List.length_append, List.length_cons] at hl ⊢; omega
    obtain ⟨E, e1, e2, e3⟩ := RF C (b := b) ha B D T (fun z hz => by
      have := d1.mem_iff.1 hz
      rcases List.mem_append.1 this with h | h
      · exact hA z h
      · rw [List.mem_singleton] at h; subst h; exact hB z (by simp)) (fun z hz => hB z (by simp [hz])) d2 (by rw [hb]; simp only [List.length_cons]; congr 1; omega) hl'
    refine ⟨E, e1.trans ?_, e2, by rw [eB hbod]; exact e3⟩
    have := d1.append_right B
    simpa using this

theorem aA7 (C : Cmp ok le cmp) {P A T : List α} {a b : Int} (ha : a = (P.length : Nat)) (hb : b = ((P.length + A.length : Nat) : Int)) (hA : Oks ok A) (hl : (P ++ A ++ T).length ≤ 1099511627776) :
    ∃ D, D.Perm A ∧ Srt le D ∧ oG (P ++ A ++ T) a b cmp = some (P ++ D ++ T) := by
  unfold oG CI
  simp only [List.length_append] at hl
  cases A with
  | nil =>
    refine ⟨[], List.Perm.refl _, List.Pairwise.nil, ?_⟩
    rw [cL (r := P ++ [] ++ T)]
    · rfl
    · have : decide (IntKind.i64.wrap (a + 1) < b) = false := by
        rw [wr (by omega) (by omega)]; subst ha; subst hb; simp; omega
      simp only [jX, this, cond_false]
  | cons x A =>
    simp only [List.length_cons] at hl
    have hw : IntKind.i64.wrap (a + 1) = ((P.length + [x].length : Nat) : Int) := by rw [wr (by omega) (by omega)]; subst ha; simp
    obtain ⟨D, d1, d2, d3⟩ := RF C (b := b) ha A [x] T (fun z hz => by rw [List.mem_singleton] at hz; subst hz; exact hA z (by simp)) (fun z hz => hA z (by simp [hz])) (by simp) (by rw [hb]; simp only [List.length_cons, List.length_nil]; congr 1; omega) (by simp only [List.length_append, List.length_cons, List.length_nil]; omega)
    refine ⟨D, by simpa using d1, d2, ?_⟩
    rw [hw, show P ++ x :: A ++ T = P ++ [x] ++ (A ++ T) by simp, d3]
    rfl

end ins
theorem JU {cmp : α → α → Option Int} {a b n : Int} : ∀ (X Y Q Z R : List α) (i : Nat), X.length = Y.length → a + i = (Q.length : Nat) → b + i = ((Q.length + X.length + Z.length : Nat) : Int) → n = ((i + X.length : Nat) : Int) → 0 ≤ a → 0 ≤ b → (Q ++ X ++ Z ++ Y ++ R).length ≤ 1099511627776 →
    lp (fun s : List α × Int => qA cmp a b n s.1 s.2) (Q ++ X ++ Z ++ Y ++ R, ((i : Nat) : Int)) = some (Q ++ Y ++ Z ++ X ++ R)
  | [], Y, Q, Z, R, i, hxy, ha, hb, hn, _, _, hl => by
    have : Y = [] := List.length_eq_zero_iff.1 hxy.symm
    subst this
    refine cL ?_
    have : decide (((i : Nat) : Int) < n) = false := by subst hn; simp
    simp only [qA, this, cond_false]
  | x :: X, [], Q, Z, R, i, hxy, _, _, _, _, _, _ => by simp at hxy
  | x :: X, y :: Y, Q, Z, R, i, hxy, ha, hb, hn, ha0, hb0, hl => by
    simp only [List.length_append, List.length_cons] at hl hb hn hxy
    have hlt : decide (((i : Nat) : Int) < n) = true := by subst hn; simp; omega
    have wa : IntKind.i64.wrap (a + i) = ((Q.length : Nat) : Int) := by rw [wr (by omega) (by omega)]; exact ha
    have wb : IntKind.i64.wrap (b + i) = ((Q.length + 1 + (X ++ Z).length : Nat) : Int) := by rw [wr (by omega) (by omega), hb]; simp only [List.length_append]; congr 1; omega
    have wi : IntKind.i64.wrap (((i : Nat) : Int) + 1) = ((i + 1 : Nat) : Int) := by rw [wr (by omega) (by omega)]; omega
    have hd : Q ++ x :: X ++ Z ++ y :: Y ++ R = Q ++ x :: ((X ++ Z) ++ y :: (Y ++ R)) := by simp
    have b1 : 0 ≤ ((Q.length : Nat) : Int) ∧ ((Q.length : Nat) : Int) < ((List.length (Q ++ x :: X ++ Z ++ y :: Y ++ R) : Nat) : Int) := ⟨by omega, by simp only [List.length_append, List.length_cons]; omega⟩
    have b2 : 0 ≤ ((Q.length + 1 + (X ++ Z).length : Nat) : Int) ∧ ((Q.length + 1 + (X ++ Z).length : Nat) : Int) < ((List.length (Q ++ x :: X ++ Z ++ y :: Y ++ R) : Nat) : Int) := ⟨by omega, by simp only [List.length_append, List.length_cons]; omega⟩
    have g1 : (Q ++ x :: X ++ Z ++ y :: Y ++ R).getD Q.length default = x := qY hd rfl
    have g2 : (Q ++ x :: X ++ Z ++ y :: Y ++ R).getD (Q.length + 1 + (X ++ Z).length) default = y := qY (Q := Q ++ x :: X ++ Z) (R := Y ++ R) (by simp) (by simp; omega)
    have hbod : (fun s : List α × Int => qA cmp a b n s.1 s.2) (Q ++ x :: X ++ Z ++ y :: Y ++ R, ((i : Nat) : Int)) = some (.inl ((Q ++ [y]) ++ X ++ (Z ++ [x]) ++ Y ++ R, ((i + 1 : Nat) : Int))) := by
      show qA cmp a b n _ _ = _
      simp only [qA, hlt, cond_true, wa, wb, wi, aQ b1, aQ b2, Int.toNat_natCast, g1, g2]
      rw [UG hd rfl rfl]
      simp
    rw [eB hbod, JU X Y (Q ++ [y]) (Z ++ [x]) R (i + 1) (by omega) (by simp; omega) (by simp; omega) (by rw [hn]; congr 1; omega) ha0 hb0 (by simp only [List.length_append, List.length_cons, List.length_nil]; omega)]
    simp

theorem PT {cmp : α → α → Option Int} {a b n : Int} {X Y Q Z R d : List α} (hd : d = Q ++ X ++ Z ++ Y ++ R) (hxy : X.length = Y.length) (ha : a = (Q.length : Nat)) (hb : b = ((Q.length + X.length + Z.length : Nat) : Int)) (hn : n = (X.length : Nat)) (hl : d.length ≤ 1099511627776) :
    wA d a b n cmp = some (Q ++ Y ++ Z ++ X ++ R) := by
  subst hd
  unfold wA FY
  have := JU (cmp := cmp) (a := a) (b := b) (n := n) X Y Q Z R 0 hxy (by omega) (by omega) (by omega) (by omega) (by omega) hl
  simp only [Int.natCast_zero] at this
  rw [this]; rfl

theorem aAs {cmp : α → α → Option Int} {m : Int} : ∀ (n : Nat) (X Y Q R : List α), X.length + Y.length ≤ n → X ≠ [] → Y ≠ [] → m = ((Q.length + X.length : Nat) : Int) → (Q ++ X ++ Y ++ R).length ≤ 1099511627776 →
    (lp (fun s : List α × Int × Int => mS cmp m s.1 s.2.1 s.2.2) (Q ++ X ++ Y ++ R, ((X.length : Nat) : Int), ((Y.length : Nat) : Int))).bind (fun rr => FU cmp rr.1 m rr.2) = some (Q ++ Y ++ X ++ R) := by
  intro n
  induction n with
  | zero => intro X Y Q R hn hX; exact absurd (List.length_eq_zero_iff.1 (by omega)) hX
  | succ n ih =>
    intro X Y Q R hn hX hY hm hl
    have hX' : 0 < X.length := List.length_pos_iff.2 hX
    have hY' : 0 < Y.length := List.length_pos_iff.2 hY
    simp only [List.length_append] at hl
    rcases Nat.lt_trichotomy X.length Y.length with h | h | h
    · -- the second is longer
      obtain ⟨Y1, Y2, rfl, hY2⟩ : ∃ Y1 Y2, Y = Y1 ++ Y2 ∧ Y2.length = X.length := ⟨Y.take (Y.length - X.length), Y.drop (Y.length - X.length), (List.take_append_drop _ _).symm, by rw [List.length_drop]; omega⟩
      simp only [List.length_append] at hn hl h
      have hne : decide (((X.length : Nat) : Int) = (((Y1 ++ Y2).length : Nat) : Int)) = false := by simp only [List.length_append]; simp; omega
      have hlt : decide ((((Y1 ++ Y2).length : Nat) : Int) < ((X.length : Nat) : Int)) = false := by simp only [List.length_append]; simp; omega
      have e1 : IntKind.i64.wrap (m - ((X.length : Nat) : Int)) = ((Q.length : Nat) : Int) := by rw [wr (by omega) (by omega)]; omega
      have e0 : IntKind.i64.wrap (m + (((Y1 ++ Y2).length : Nat) : Int)) = m + (((Y1 ++ Y2).length : Nat) : Int) := by simp only [List.length_append]; exact wr (by omega) (by omega)
      have e2 : IntKind.i64.wrap (m + (((Y1 ++ Y2).length : Nat) : Int) - ((X.length : Nat) : Int)) = ((Q.length + X.length + Y1.length : Nat) : Int) := by simp only [List.length_append]; rw [wr (by omega) (by omega)]; omega
      have e3 : IntKind.i64.wrap ((((Y1 ++ Y2).length : Nat) : Int) - ((X.length : Nat) : Int)) = ((Y1.length : Nat) : Int) := by simp only [List.length_append]; rw [wr (by omega) (by omega)]; omega
      have hbod : (fun s : List α × Int × Int => mS cmp m s.1 s.2.1 s.2.2) (Q ++ X ++ (Y1 ++ Y2) ++ R, ((X.length : Nat) : Int), (((Y1 ++ Y2).length : Nat) : Int)) = some (.inl (Q ++ Y2 ++ Y1 ++ (X ++ R), ((Y2.length : Nat) : Int), ((Y1.length : Nat) : Int))) := by
        show mS cmp m _ _ _ = _
        simp only [mS, hne, Bool.not_false, cond_true, hlt, cond_false, e0, e1, e2, e3]
        rw [PT (X := X) (Y := Y2) (Q := Q) (Z := Y1) (R := R) (by simp) hY2.symm rfl rfl rfl (by simp only [List.length_append]; omega)]
        simp [hY2]
      rw [eB hbod, ih Y2 Y1 Q (X ++ R) (by omega) (fun h => by rw [h] at hY2; simp at hY2; omega) (fun h' => by rw [h'] at h; simp at h; omega) (by rw [hm]; congr 1; omega) (by simp only [List.length_append]; omega)]
      simp
    · -- alike
      have hne : decide (((X.length : Nat) : Int) = ((Y.length : Nat) : Int)) = true := by simp; omega
      rw [cL (r := (Q ++ X ++ Y ++ R, ((X.length : Nat) : Int))) (by show mS cmp m _ _ _ = _; simp only [mS, hne, Bool.not_true, cond_false])]
      simp only [Option.bind_some, FU]
      have e1 : IntKind.i64.wrap (m - ((X.length : Nat) : Int)) = ((Q.length : Nat) : Int) := by rw [wr (by omega) (by omega)]; omega
      rw [e1, PT (X := X) (Y := Y) (Q := Q) (Z := []) (R := R) (by simp) h rfl (by rw [hm]; simp) rfl (by simp only [List.length_append]; omega)]
      simp
    · -- the first is longer
      obtain ⟨X1, X2, rfl, hX1⟩ : ∃ X1 X2, X = X1 ++ X2 ∧ X1.length = Y.length := ⟨X.take Y.length, X.drop Y.length, (List.take_append_drop _ _).symm, by rw [List.length_take]; omega⟩
      simp only [List.length_append] at hn hl h hm
      have hne : decide ((((X1 ++ X2).length : Nat) : Int) = ((Y.length : Nat) : Int)) = false := by simp only [List.length_append]; simp; omega
      have hlt : decide (((Y.length : Nat) : Int) < (((X1 ++ X2).length : Nat) : Int)) = true := by simp only [List.length_append]; simp; omega
      have e1 : IntKind.i64.wrap (m - (((X1 ++ X2).length : Nat) : Int)) = ((Q.length : Nat) : Int) := by simp only [List.length_append]; rw [wr (by omega) (by omega)]; omega
      have e3 : IntKind.i64.wrap ((((X1 ++ X2).length : Nat) : Int) - ((Y.length : Nat) : Int)) = ((X2.length : Nat) : Int) := by simp only [List.length_append]; rw [wr (by omega) (by omega)]; omega
      have hbod : (fun s : List α × Int × Int => mS cmp m s.1 s.2.1 s.2.2) (Q ++ (X1 ++ X2) ++ Y ++ R, (((X1 ++ X2).length : Nat) : Int), ((Y.length : Nat) : Int)) = some (.inl ((Q ++ Y) ++ X2 ++ X1 ++ R, ((X2.length : Nat) : Int), ((X1.length : Nat) : Int))) := by
        show mS cmp m _ _ _ = _
        simp only [mS, hne, Bool.not_false, cond_true, hlt, e1, e3]
        rw [PT (X := X1) (Y := Y) (Q := Q) (Z := X2) (R := R) (by simp) hX1 rfl (by rw [hm]; congr 1; omega) (by rw [hX1]) (by simp only [List.length_append]; omega)]
        simp [hX1]
      rw [eB hbod, ih X2 X1 (Q ++ Y) R (by omega) (fun h' => by rw [h'] at h; simp at h; omega) (fun h => by rw [h] at hX1; simp at hX1; omega) (by rw [hm]; simp only [List.length_append]; congr 1; omega) (by simp only [List.length_append]; omega)]
      simp

theorem aDz {cmp : α → α → Option Int} {a m b : Int} {X Y Q R d : List α} (hd : d = Q ++ X ++ Y ++ R) (hX : X ≠ []) (hY : Y ≠ []) (ha : a = (Q.length : Nat)) (hm : m = ((Q.length + X.length : Nat) : Int)) (hb : b = ((Q.length + X.length + Y.length : Nat) : Int)) (hl : d.length ≤ 1099511627776) :
    FC d a m b cmp = some (Q ++ Y ++ X ++ R) := by
  subst hd
  unfold FC LL
  have hl' := hl
  simp only [List.length_append] at hl'
  rw [show IntKind.i64.wrap (m - a) = ((X.length : Nat) : Int) by rw [wr (by omega) (by omega)]; omega, show IntKind.i64.wrap (b - m) = ((Y.length : Nat) : Int) by rw [wr (by omega) (by omega)]; omega]
  exact aAs _ X Y Q R (Nat.le_refl _) hX hY hm hl

end Go.Abs
namespace Go.Abs
open Go
variable {α : Type} [Inhabited α]
theorem half {s : Nat} (h : s ≤ 4398046511104) : IntKind.i64.wrap (Int.fdiv (IntKind.u64.wrap (IntKind.i64.wrap (s : Int))) (2 ^ (min (Int.toNat (1 : Int)) 64))) = ((s / 2 : Nat) : Int) := by
  rw [wr (n := (s : Int)) (by omega) (by omega)]
  have hu : IntKind.u64.wrap (s : Int) = (s : Int) := by
    simp only [IntKind.wrap, IntKind.bits, IntKind.signed]
    simp
    omega
  have hp : (2 : Int) ^ (min (Int.toNat (1 : Int)) 64) = 2 := by decide
  rw [hu, hp, Int.fdiv_eq_ediv_of_nonneg _ (by omega), wr (by omega) (by omega)]
  omega

theorem HR {P B S d : List α} {n k : Nat} (hd : d = P ++ B ++ S) (hn : n = P.length + k) (hk : k < B.length) : d.getD n default = B.getD k default := by
  subst hd; subst hn
  simp only [List.getD_eq_getElem?_getD]
  rw [List.append_assoc, List.getElem?_append_right (by omega), List.getElem?_append_left (by omega)]
  congr 2; omega

theorem HI {l : List α} {t : Nat} {y : α} (h : y ∈ l.take t) : ∃ i, i < t ∧ i < l.length ∧ y = l.getD i default := by
  obtain ⟨i, hi, rfl⟩ := List.mem_iff_getElem.1 h
  rw [List.length_take] at hi
  refine ⟨i, by omega, by omega, ?_⟩
  rw [List.getElem_take, List.getD_eq_getElem?_getD, List.getElem?_eq_getElem (by omega)]; rfl

theorem vJ {l : List α} {t : Nat} {y : α} (h : y ∈ l.drop t) : ∃ i, t ≤ i ∧ i < l.length ∧ y = l.getD i default := by
  obtain ⟨i, hi, rfl⟩ := List.mem_iff_getElem.1 h
  rw [List.length_drop] at hi
  refine ⟨t + i, by omega, by omega, ?_⟩
  rw [List.getElem_drop, List.getD_eq_getElem?_getD, List.getElem?_eq_getElem (by omega)]; rfl

theorem dK {l : List α} {i : Nat} (h : i < l.length) : l.getD i default ∈ l := by
  rw [List.getD_eq_getElem?_getD, List.getElem?_eq_getElem h]; exact List.getElem_mem h

section sym
variable {ok : α → Prop} {le : α → α → Prop} {cmp : α → α → Option Int}
theorem Cmp.refl {β : Type} {ok : β → Prop} {le : β → β → Prop} {cmp : β → β → Option Int} (C : Cmp ok le cmp) {x : β} (h : ok x) : le x x := by rcases C.total x x h h with h | h <;> exact h

theorem tY (C : Cmp ok le cmp) {l : List α} (ho : Oks ok l) (hs : Srt le l) {i j : Nat} (hij : i ≤ j) (hj : j < l.length) : le (l.getD i default) (l.getD j default) := by
  rcases Nat.lt_or_eq_of_le hij with h | h
  · have := List.pairwise_iff_getElem.1 hs i j (by omega) hj h
    simpa [List.getD_eq_getElem?_getD, List.getElem?_eq_getElem hj, List.getElem?_eq_getElem (show i < l.length by omega)] using this
  · subst h; exact C.refl (ho _ (dK hj))

theorem VB {β : Type} {le : β → β → Prop} {l : List β} (h : Srt le l) (t : Nat) : Srt le (l.take t) := List.Pairwise.sublist (List.take_sublist t l) h

theorem UO {β : Type} {le : β → β → Prop} {l : List β} (h : Srt le l) (t : Nat) : Srt le (l.drop t) := List.Pairwise.sublist (List.drop_sublist t l) h

theorem SV {β : Type} {body : (List β × Int × Int) → Option ((List β × Int × Int) ⊕ (List β × Int))} {d : List β} {f : Nat → Prop} {lo hi : Nat}
    (hb : ∀ i j : Nat, lo ≤ i → i < j → j ≤ hi → ∃ t : Bool, (t = true ↔ f ((i + j) / 2)) ∧ body (d, (i : Int), (j : Int)) = some (.inl (if t then (d, (((i + j) / 2 + 1 : Nat) : Int), (j : Int)) else (d, (i : Int), (((i + j) / 2 : Nat) : Int)))))
    (he : ∀ i : Nat, body (d, (i : Int), (i : Int)) = some (.inr (d, (i : Int)))) :
    ∀ (n i j : Nat), j - i ≤ n → lo ≤ i → i ≤ j → j ≤ hi → (i = lo ∨ f (i - 1)) → (j = hi ∨ ¬ f j) → ∃ s, lo ≤ s ∧ s ≤ hi ∧ (s = lo ∨ f (s - 1)) ∧ (s = hi ∨ ¬ f s) ∧ lp body (d, (i : Int), (j : Int)) = some (d, ((s : Nat) : Int)) := by
  intro n
  induction n with
  | zero =>
    intro i j hn h1 h2 h3 h4 h5
    have : i = j := by omega
    subst this
    exact ⟨i, h1, h3, h4, h5, cL (he i)⟩
  | succ n ih =>
    intro i j hn h1 h2 h3 h4 h5
    by_cases hij : i = j
    · subst hij; exact ⟨i, h1, h3, h4, h5, cL (he i)⟩
    · obtain ⟨t, ht, hbt⟩ := hb i j h1 (by omega) h3
      cases t
      · obtain ⟨s, r1, r2, r3, r4, r5⟩ := ih i ((i + j) / 2) (by omega) h1 (by omega) (by omega) h4 (Or.inr (fun h => by have := ht.2 h; cases this))
        refine ⟨s, r1, r2, r3, r4, ?_⟩
        rw [eB hbt]; exact r5
      · obtain ⟨s, r1, r2, r3, r4, r5⟩ := ih ((i + j) / 2 + 1) j (by omega) (by omega) (by omega) h3 (Or.inr (by simpa using ht.1 rfl)) h5
        refine ⟨s, r1, r2, r3, r4, ?_⟩
        rw [eB hbt]; exact r5

def NJ (le : α → α → Prop) (P A B S r : List α) : Prop := ∃ D, D.Perm (A ++ B) ∧ Srt le D ∧ r = P ++ D ++ S

theorem aCh {cmp : α → α → Option Int} {rec : List α → Int → Int → Int → Option (List α)} {e : Int} {x : α} : ∀ (B Q R : List α) (k : Nat), k = Q.length → e = ((Q.length + B.length + 1 : Nat) : Int) → (Q ++ x :: B ++ R).length ≤ 1099511627776 →
    lp (fun s : List α × Int => oE cmp rec e s.1 s.2) (Q ++ x :: B ++ R, (k : Int)) = some (Q ++ B ++ x :: R)
  | [], Q, R, k, hk, he, hl => by
    simp only [List.length_append, List.length_cons, List.length_nil] at hl he
    refine cL ?_
    show oE cmp rec e _ _ = _
    have : decide ((k : Int) < IntKind.i64.wrap (e - 1)) = false := by rw [wr (by omega) (by omega)]; simp; omega
    simp only [oE, this, cond_false]
    simp
  | y :: B, Q, R, k, hk, he, hl => by
    simp only [List.length_append, List.length_cons] at hl he
    have h1 : decide ((k : Int) < IntKind.i64.wrap (e - 1)) = true := by rw [wr (by omega) (by omega)]; simp; omega
    have hw : IntKind.i64.wrap ((k : Int) + 1) = ((k + 1 : Nat) : Int) := by rw [wr (by omega) (by omega)]; omega
    have b1 : 0 ≤ (k : Int) ∧ (k : Int) < ((List.length (Q ++ x :: y :: B ++ R) : Nat) : Int) := ⟨by omega, by simp only [List.length_append, List.length_cons]; omega⟩
    have b2 : 0 ≤ ((k + 1 : Nat) : Int) ∧ ((k + 1 : Nat) : Int) < ((List.length (Q ++ x :: y :: B ++ R) : Nat) : Int) := ⟨by omega, by simp only [List.length_append, List.length_cons]; omega⟩
    have hd : Q ++ x :: y :: B ++ R = Q ++ x :: ([] ++ y :: (B ++ R)) := by simp
    have g1 : (Q ++ x :: y :: B ++ R).getD k default = x := qY hd hk
    have g2 : (Q ++ x :: y :: B ++ R).getD (k + 1) default = y := qY (Q := Q ++ [x]) (R := B ++ R) (by simp) (by simp; omega)
    have hb : (fun s : List α × Int => oE cmp rec e s.1 s.2) (Q ++ x :: y :: B ++ R, (k : Int)) = some (.inl ((Q ++ [y]) ++ x :: B ++ R, ((k + 1 : Nat) : Int))) := by
      show oE cmp rec e _ _ = _
      simp only [oE, h1, cond_true, hw, aQ b1, aQ b2, Int.toNat_natCast, g1, g2]
      rw [UG (M := []) hd hk (by simp; omega)]
      simp
    rw [eB hb, aCh B (Q ++ [y]) R (k + 1) (by simp; omega) (by rw [he]; simp only [List.length_append, List.length_cons, List.length_nil]; congr 1; omega) (by simp only [List.length_append, List.length_cons, List.length_nil]; omega)]
    simp

theorem aCF {cmp : α → α → Option Int} {rec : List α → Int → Int → Int → Option (List α)} {e : Int} {x : α} {Q : List α} (he : e = (Q.length : Nat)) : ∀ (n : Nat) (A R : List α) (k : Nat), A.length = n → k = Q.length + A.length → (Q ++ A ++ x :: R).length ≤ 1099511627776 →
    lp (fun s : List α × Int => oD cmp rec e s.1 s.2) (Q ++ A ++ x :: R, (k : Int)) = some (Q ++ x :: A ++ R) := by
  intro n
  induction n with
  | zero =>
    intro A R k hn hk hl
    have hA : A = [] := List.length_eq_zero_iff.1 hn
    subst hA
    refine cL ?_
    show oD cmp rec e _ _ = _
    have : decide (e < (k : Int)) = false := by simp only [List.length_nil] at hk; simp; omega
    simp only [oD, this, cond_false]
    simp
  | succ n ih =>
    intro A R k hn hk hl
    obtain ⟨A', y, rfl⟩ : ∃ A' y, A = A' ++ [y] := by
      rcases List.eq_nil_or_concat A with h | ⟨A', y, h⟩
      · rw [h] at hn; simp at hn
      · exact ⟨A', y, by simpa using h⟩
    simp only [List.length_append, List.length_cons, List.length_nil] at hl hk hn
    have h1 : decide (e < (k : Int)) = true := by simp; omega
    have hw : IntKind.i64.wrap ((k : Int) - 1) = ((Q.length + A'.length : Nat) : Int) := by rw [wr (by omega) (by omega)]; omega
    have b1 : 0 ≤ (k : Int) ∧ (k : Int) < ((List.length (Q ++ (A' ++ [y]) ++ x :: R) : Nat) : Int) := ⟨by omega, by simp only [List.length_append, List.length_cons, List.length_nil]; omega⟩
    have b2 : 0 ≤ ((Q.length + A'.length : Nat) : Int) ∧ ((Q.length + A'.length : Nat) : Int) < ((List.length (Q ++ (A' ++ [y]) ++ x :: R) : Nat) : Int) := ⟨by omega, by simp only [List.length_append, List.length_cons, List.length_nil]; omega⟩
    have g1 : (Q ++ (A' ++ [y]) ++ x :: R).getD k default = x := qY (Q := Q ++ (A' ++ [y])) rfl (by simp; omega)
    have g2 : (Q ++ (A' ++ [y]) ++ x :: R).getD (Q.length + A'.length) default = y := qY (Q := Q ++ A') (R := x :: R) (by simp) (by simp)
    have hb : (fun s : List α × Int => oD cmp rec e s.1 s.2) (Q ++ (A' ++ [y]) ++ x :: R, (k : Int)) = some (.inl (Q ++ A' ++ x :: (y :: R), ((Q.length + A'.length : Nat) : Int))) := by
      show oD cmp rec e _ _ = _
      simp only [oD, h1, cond_true, hw, aQ b1, aQ b2, Int.toNat_natCast, g1, g2]
      rw [GI (Q := Q ++ (A' ++ [y])) (x := x) (R := R) rfl (by simp; omega), GI (Q := Q ++ A') (x := y) (R := y :: R) (by simp) (by simp)]
    rw [eB hb, ih A' (y :: R) (Q.length + A'.length) (by omega) rfl (by simp only [List.length_append, List.length_cons]; omega)]
    simp

def YG (cmp : α → α → Option Int) (le : α → α → Prop) (P A B S : List α) (d : List α) (a m b : Int) : Prop :=
  (∃ r, NJ le P A B S r ∧ ∀ rec, eD cmp rec d a m b = some r) ∨
  (∃ A1 A2 B1 B2, A = A1 ++ A2 ∧ B = B1 ++ B2 ∧ 0 < A1.length + B1.length ∧ 0 < A2.length + B2.length ∧ (∀ x ∈ A1 ++ B1, ∀ y ∈ A2 ++ B2, le x y) ∧
    ∀ rec, eD cmp rec d a m b = (cond (decide (A1 ≠ [] ∧ B1 ≠ [])) (rec (P ++ A1 ++ B1 ++ A2 ++ B2 ++ S) a (a + (A1.length : Nat)) (a + ((A1.length + B1.length : Nat) : Int))) (some (P ++ A1 ++ B1 ++ A2 ++ B2 ++ S))).bind fun x =>
      cond (decide (A2 ≠ [] ∧ B2 ≠ [])) (rec x (a + ((A1.length + B1.length : Nat) : Int)) (a + ((A1.length + B1.length + A2.length : Nat) : Int)) b) (some x))

theorem aAY (C : Cmp ok le cmp) {P B S : List α} {x : α} {a m b : Int} (hx : ok x) (hB : Oks ok B) (hs : Srt le B) (ha : a = (P.length : Nat)) (hm : m = ((P.length + 1 : Nat) : Int)) (hb : b = ((P.length + 1 + B.length : Nat) : Int)) (hl : (P ++ x :: B ++ S).length ≤ 1099511627776) :
    ∃ r, NJ le P [x] B S r ∧ ∀ rec, eD cmp rec (P ++ x :: B ++ S) a m b = some r := by
  have hl' := hl
  simp only [List.length_append, List.length_cons] at hl'
  have hgx : (P ++ x :: B ++ S).getD P.length default = x := qY (Q := P) (R := B ++ S) (by simp) rfl
  have hgb : ∀ k, k < B.length → (P ++ x :: B ++ S).getD (P.length + 1 + k) default = B.getD k default := fun k hk => HR (P := P ++ [x]) (B := B) (S := S) (by simp) (by simp) hk
  have hbin : ∀ rec, ∃ s : Nat, P.length + 1 ≤ s ∧ s ≤ P.length + 1 + B.length ∧ (s = P.length + 1 ∨ ¬ le x (B.getD (s - 1 - (P.length + 1)) default)) ∧ (s = P.length + 1 + B.length ∨ ¬ ¬ le x (B.getD (s - (P.length + 1)) default)) ∧
      lp (fun s : List α × Int × Int => oF cmp rec a s.1 s.2.1 s.2.2) (P ++ x :: B ++ S, m, b) = some (P ++ x :: B ++ S, ((s : Nat) : Int)) := by
    intro rec
    rw [hm, hb]
    refine SV (lo := P.length + 1) (hi := P.length + 1 + B.length) (f := fun k => ¬ le x (B.getD (k - (P.length + 1)) default)) ?_ ?_ _ _ _ (Nat.le_refl _) (Nat.le_refl _) (by omega) (Nat.le_refl _) (Or.inl rfl) (Or.inl rfl)
    · intro i j h1 h2 h3
      have hh : (i + j) / 2 - (P.length + 1) < B.length := by omega
      have e1 : (P ++ x :: B ++ S).getD ((i + j) / 2) default = B.getD ((i + j) / 2 - (P.length + 1)) default := by
        have := hgb ((i + j) / 2 - (P.length + 1)) hh
        rwa [show P.length + 1 + ((i + j) / 2 - (P.length + 1)) = (i + j) / 2 by omega] at this
      obtain ⟨v, hc, hv⟩ := C.ans _ x (hB _ (dK hh)) hx
      refine ⟨decide (v < 0), by simpa using hv, ?_⟩
      show oF cmp rec a _ _ _ = _
      have hlt : decide ((i : Int) < (j : Int)) = true := by simpa using h2
      have hadd : ((i : Int) + (j : Int)) = ((i + j : Nat) : Int) := by omega
      have w1 : IntKind.i64.wrap ((((i + j) / 2 : Nat) : Int) + 1) = (((i + j) / 2 + 1 : Nat) : Int) := by rw [wr (by omega) (by omega)]; omega
      simp only [oF, hlt, cond_true, hadd, half (s := i + j) (by omega), Int.toNat_natCast, ha, e1, hgx, hc, Option.bind_some, w1]
      rw [aQ (by omega), aQ ⟨by omega, by simp only [List.length_append, List.length_cons]; omega⟩, aQ ⟨by omega, by simp only [List.length_append, List.length_cons]; omega⟩]
      by_cases hneg : v < 0 <;> simp [hneg]
    · intro i
      show oF cmp rec a _ _ _ = _
      have hlt : decide ((i : Int) < (i : Int)) = false := by simp
      simp only [oF, hlt, cond_false]
  obtain ⟨s, s1, s2, s3, s4, s5⟩ := hbin (fun _ _ _ _ => none)
  obtain ⟨t, rfl⟩ : ∃ t, s = P.length + 1 + t := ⟨s - (P.length + 1), by omega⟩
  have ht : t ≤ B.length := by omega
  have hx1 : ∀ i, i < t → le (B.getD i default) x := fun i hi => by
    have h3 : ¬ le x (B.getD (t - 1) default) := by
      rcases s3 with h | h
      · omega
      · rwa [show P.length + 1 + t - 1 - (P.length + 1) = t - 1 by omega] at h
    have h4 : le (B.getD (t - 1) default) x := by
      rcases C.total x _ hx (hB _ (dK (show t - 1 < B.length by omega))) with h | h
      · exact absurd h h3
      · exact h
    exact C.trans _ _ _ (hB _ (dK (by omega))) (hB _ (dK (by omega))) hx (tY C hB hs (show i ≤ t - 1 by omega) (by omega)) h4
  have hx2 : ∀ j, t ≤ j → j < B.length → le x (B.getD j default) := fun j hj hj' => by
    have h3 : le x (B.getD t default) := by
      rcases s4 with h | h
      · omega
      · rw [show P.length + 1 + t - (P.length + 1) = t by omega] at h
        exact Classical.not_not.1 h
    exact C.trans _ _ _ hx (hB _ (dK (by omega))) (hB _ (dK hj')) h3 (tY C hB hs hj hj')
  have hBs : B.take t ++ B.drop t = B := List.take_append_drop t B
  have hlt : (B.take t).length = t := by rw [List.length_take]; omega
  refine ⟨P ++ (B.take t ++ x :: B.drop t) ++ S, ⟨_, ?_, ?_, rfl⟩, fun rec => ?_⟩
  · have := List.perm_middle (a := x) (l₁ := B.take t) (l₂ := B.drop t)
    rw [hBs] at this; exact this
  · simp only [Srt, List.pairwise_append, List.pairwise_cons]
    refine ⟨VB hs t, ⟨fun z hz => ?_, UO hs t⟩, fun y hy z hz => ?_⟩
    · obtain ⟨j, j1, j2, rfl⟩ := vJ hz
      exact hx2 j j1 j2
    · obtain ⟨i, i1, i2, rfl⟩ := HI hy
      rcases List.mem_cons.1 hz with rfl | hz
      · exact hx1 i i1
      · obtain ⟨j, j1, j2, rfl⟩ := vJ hz
        exact tY C hB hs (by omega) j2
  · have h1 : decide (IntKind.i64.wrap (m - a) = 1) = true := by rw [wr (by omega) (by omega)]; simp; omega
    have s5' : lp (fun s : List α × Int × Int => oF cmp rec a s.1 s.2.1 s.2.2) (P ++ x :: B ++ S, m, b) = some (P ++ x :: B ++ S, ((P.length + 1 + t : Nat) : Int)) := s5
    simp only [eD, h1, cond_true, FZ, s5', Option.bind_some, GL, GP]
    have hmv := aCh (cmp := cmp) (rec := rec) (e := ((P.length + 1 + t : Nat) : Int)) (x := x) (B.take t) P (B.drop t ++ S) P.length rfl (by rw [hlt]; congr 1; omega) (by simp only [List.length_append, List.length_cons, List.length_drop]; omega)
    have hd : P ++ x :: B.take t ++ (B.drop t ++ S) = P ++ x :: B ++ S := by
      have : P ++ x :: B.take t ++ (B.drop t ++ S) = P ++ x :: (B.take t ++ B.drop t) ++ S := by simp only [List.append_assoc, List.cons_append]
      rw [this, hBs]
    rw [hd] at hmv
    rw [ha, hmv]
    simp [GK]

theorem aBD (C : Cmp ok le cmp) {P A S : List α} {x : α} {a m b : Int} (hx : ok x) (hA : Oks ok A) (hs : Srt le A) (hA1 : A.length ≠ 1) (ha : a = (P.length : Nat)) (hm : m = ((P.length + A.length : Nat) : Int)) (hb : b = ((P.length + A.length + 1 : Nat) : Int)) (hl : (P ++ A ++ x :: S).length ≤ 1099511627776) :
    ∃ r, NJ le P A [x] S r ∧ ∀ rec, eD cmp rec (P ++ A ++ x :: S) a m b = some r := by
  have hl' := hl
  simp only [List.length_append, List.length_cons] at hl'
  have hgx : (P ++ A ++ x :: S).getD (P.length + A.length) default = x := qY (Q := P ++ A) (R := S) rfl (by simp)
  have hga : ∀ k, k < A.length → (P ++ A ++ x :: S).getD (P.length + k) default = A.getD k default := fun k hk => HR (P := P) (B := A) (S := x :: S) rfl rfl hk
  have hbin : ∀ rec, ∃ s : Nat, P.length ≤ s ∧ s ≤ P.length + A.length ∧ (s = P.length ∨ le (A.getD (s - 1 - P.length) default) x) ∧ (s = P.length + A.length ∨ ¬ le (A.getD (s - P.length) default) x) ∧
      lp (fun s : List α × Int × Int => oC cmp rec m s.1 s.2.1 s.2.2) (P ++ A ++ x :: S, a, m) = some (P ++ A ++ x :: S, ((s : Nat) : Int)) := by
    intro rec
    rw [ha, hm]
    refine SV (lo := P.length) (hi := P.length + A.length) (f := fun k => le (A.getD (k - P.length) default) x) ?_ ?_ _ _ _ (Nat.le_refl _) (Nat.le_refl _) (by omega) (Nat.le_refl _) (Or.inl rfl) (Or.inl rfl)
    · intro i j h1 h2 h3
      have hh : (i + j) / 2 - P.length < A.length := by omega
      have e1 : (P ++ A ++ x :: S).getD ((i + j) / 2) default = A.getD ((i + j) / 2 - P.length) default := by
        have := hga ((i + j) / 2 - P.length) hh
        rwa [show P.length + ((i + j) / 2 - P.length) = (i + j) / 2 by omega] at this
      obtain ⟨v, hc, hv⟩ := C.ans x _ hx (hA _ (dK hh))
      refine ⟨!decide (v < 0), by simp only [Bool.not_eq_true', decide_eq_false_iff_not, hv, Classical.not_not], ?_⟩
      show oC cmp rec _ _ _ _ = _
      have hlt : decide ((i : Int) < (j : Int)) = true := by simpa using h2
      have hadd : ((i : Int) + (j : Int)) = ((i + j : Nat) : Int) := by omega
      have w1 : IntKind.i64.wrap ((((i + j) / 2 : Nat) : Int) + 1) = (((i + j) / 2 + 1 : Nat) : Int) := by rw [wr (by omega) (by omega)]; omega
      simp only [oC, hlt, cond_true, hadd, half (s := i + j) (by omega), Int.toNat_natCast, e1, hgx, hc, Option.bind_some, w1]
      rw [aQ (by omega), aQ ⟨by omega, by simp only [List.length_append, List.length_cons]; omega⟩, aQ ⟨by omega, by simp only [List.length_append, List.length_cons]; omega⟩]
      by_cases hneg : v < 0 <;> simp [hneg]
    · intro i
      show oC cmp rec _ _ _ _ = _
      have hlt : decide ((i : Int) < (i : Int)) = false := by simp
      simp only [oC, hlt, cond_false]
  obtain ⟨s, s1, s2, s3, s4, s5⟩ := hbin (fun _ _ _ _ => none)
  obtain ⟨t, rfl⟩ : ∃ t, s = P.length + t := ⟨s - P.length, by omega⟩
  have ht : t ≤ A.length := by omega
  have hx1 : ∀ i, i < t → le (A.getD i default) x := fun i hi => by
    have h4 : le (A.getD (t - 1) default) x := by
      rcases s3 with h | h
      · omega
      · rwa [show P.length + t - 1 - P.length = t - 1 by omega] at h
    exact C.trans _ _ _ (hA _ (dK (by omega))) (hA _ (dK (by omega))) hx (tY C hA hs (show i ≤ t - 1 by omega) (by omega)) h4
  have hx2 : ∀ j, t ≤ j → j < A.length → le x (A.getD j default) := fun j hj hj' => by
    have h3 : le x (A.getD t default) := by
      rcases s4 with h | h
      · omega
      · rw [show P.length + t - P.length = t by omega] at h
        rcases C.total x _ hx (hA _ (dK (show t < A.length by omega))) with h' | h'
        · exact h'
        · exact absurd h' h
    exact C.trans _ _ _ hx (hA _ (dK (by omega))) (hA _ (dK hj')) h3 (tY C hA hs hj hj')
  have hAs : A.take t ++ A.drop t = A := List.take_append_drop t A
  have hlt : (A.take t).length = t := by rw [List.length_take]; omega
  refine ⟨P ++ (A.take t ++ x :: A.drop t) ++ S, ⟨_, ?_, ?_, rfl⟩, fun rec => ?_⟩
  · have := List.perm_middle (a := x) (l₁ := A.take t) (l₂ := A.drop t)
    rw [hAs] at this
    exact this.trans (by simpa using (List.perm_append_comm (l₁ := [x]) (l₂ := A)))
  · simp only [Srt, List.pairwise_append, List.pairwise_cons]
    refine ⟨VB hs t, ⟨fun z hz => ?_, UO hs t⟩, fun y hy z hz => ?_⟩
    · obtain ⟨j, j1, j2, rfl⟩ := vJ hz
      exact hx2 j j1 j2
    · obtain ⟨i, i1, i2, rfl⟩ := HI hy
      rcases List.mem_cons.1 hz with rfl | hz
      · exact hx1 i i1
      · obtain ⟨j, j1, j2, rfl⟩ := vJ hz
        exact tY C hA hs (by omega) j2
  · have h1 : decide (IntKind.i64.wrap (m - a) = 1) = false := by rw [wr (by omega) (by omega)]; simp; omega
    have h2 : decide (IntKind.i64.wrap (b - m) = 1) = true := by rw [wr (by omega) (by omega)]; simp; omega
    have s5' : lp (fun s : List α × Int × Int => oC cmp rec m s.1 s.2.1 s.2.2) (P ++ A ++ x :: S, a, m) = some (P ++ A ++ x :: S, ((P.length + t : Nat) : Int)) := s5
    simp only [eD, h1, cond_false, CR, h2, cond_true, GC, s5', Option.bind_some, IP, GA]
    have hmv := aCF (cmp := cmp) (rec := rec) (e := ((P.length + t : Nat) : Int)) (x := x) (Q := P ++ A.take t) (by simp [hlt]) (A.drop t).length (A.drop t) S (P.length + A.length) rfl (by simp only [List.length_append, List.length_drop, hlt]; omega) (by simp only [List.length_append, List.length_cons, List.length_drop, hlt]; omega)
    have hd : P ++ A.take t ++ A.drop t ++ x :: S = P ++ A ++ x :: S := by
      have : P ++ A.take t ++ A.drop t ++ x :: S = P ++ (A.take t ++ A.drop t) ++ x :: S := by simp only [List.append_assoc]
      rw [this, hAs]
    rw [hd] at hmv
    rw [hm, hmv]
    simp [II]

theorem aC1 (C : Cmp ok le cmp) {P A B S : List α} {a m b : Int} (hA : Oks ok A) (hB : Oks ok B) (hsA : Srt le A) (hsB : Srt le B) (hA2 : 2 ≤ A.length) (hB2 : 2 ≤ B.length)
    (ha : a = (P.length : Nat)) (hm : m = ((P.length + A.length : Nat) : Int)) (hb : b = ((P.length + A.length + B.length : Nat) : Int)) (hl : (P ++ A ++ B ++ S).length ≤ 1099511627776) :
    YG cmp le P A B S (P ++ A ++ B ++ S) a m b := by
  right
  have hl' := hl
  simp only [List.length_append] at hl'
  -- the middle
  obtain ⟨mid, hmid⟩ : ∃ mid : Nat, mid = (P.length + (P.length + A.length + B.length)) / 2 := ⟨_, rfl⟩
  have hga : ∀ k, P.length ≤ k → k < P.length + A.length → (P ++ A ++ B ++ S).getD k default = A.getD (k - P.length) default := fun k h1 h2 => HR (P := P) (B := A) (S := B ++ S) (by simp) (by omega) (by omega)
  have hgb : ∀ k, P.length + A.length ≤ k → k < P.length + A.length + B.length → (P ++ A ++ B ++ S).getD k default = B.getD (k - (P.length + A.length)) default := fun k h1 h2 => HR (P := P ++ A) (B := B) (S := S) (by simp) (by simp; omega) (by omega)
  -- the search
  obtain ⟨lo, hi, hlo, hhi, hbnd, hlohi, hrange, hinit⟩ : ∃ lo hi : Nat, (lo = P.length ∨ lo + (P.length + A.length + B.length) = mid + (P.length + A.length)) ∧ (hi = P.length + A.length ∨ hi = mid) ∧ (P.length ≤ lo ∧ mid + (P.length + A.length) ≤ lo + (P.length + A.length + B.length) ∧ hi ≤ P.length + A.length ∧ hi ≤ mid) ∧ lo ≤ hi ∧
      (∀ c, lo ≤ c → c < hi → P.length ≤ c ∧ c < P.length + A.length ∧ P.length + A.length ≤ mid + (P.length + A.length) - 1 - c ∧ mid + (P.length + A.length) - 1 - c < P.length + A.length + B.length) ∧
      (∀ rec, yJ cmp rec (P ++ A ++ B ++ S) a m b = yK cmp rec (P ++ A ++ B ++ S) a m b (mid : Int) ((mid + (P.length + A.length) : Nat) : Int) (lo : Int) (hi : Int)) := by
    have hw0 : IntKind.i64.wrap (Int.fdiv (IntKind.u64.wrap (IntKind.i64.wrap (a + b))) (2 ^ (min (Int.toNat (1 : Int)) 64))) = ((mid : Nat) : Int) := by
      rw [show a + b = ((P.length + (P.length + A.length + B.length) : Nat) : Int) by omega, half (by omega), hmid]
    have hw1 : IntKind.i64.wrap ((mid : Int) + m) = ((mid + (P.length + A.length) : Nat) : Int) := by rw [wr (by omega) (by omega)]; omega
    by_cases hc : mid < P.length + A.length
    · refine ⟨mid + (P.length + A.length) - (P.length + A.length + B.length), mid, Or.inr (by omega), Or.inr (by omega), by omega, by omega, fun c h1 h2 => ⟨by omega, by omega, by omega, by omega⟩, fun rec => ?_⟩
      have hlt : decide ((mid : Int) < m) = true := by simp; omega
      simp only [yJ, hw0, hlt, cond_true, hw1]
      rw [aQ (by omega), show IntKind.i64.wrap (((mid + (P.length + A.length) : Nat) : Int) - b) = ((mid + (P.length + A.length) - (P.length + A.length + B.length) : Nat) : Int) by rw [wr (by omega) (by omega)]; omega]
    · refine ⟨P.length, P.length + A.length, Or.inl rfl, Or.inl rfl, by omega, by omega, fun c h1 h2 => ⟨by omega, by omega, by omega, by omega⟩, fun rec => ?_⟩
      have hlt : decide ((mid : Int) < m) = false := by simp; omega
      simp only [yJ, hw0, hlt, cond_false, hw1]
      rw [aQ (by omega)]
      rw [ha, hm]
  have hbin : ∀ rec, ∃ s : Nat, lo ≤ s ∧ s ≤ hi ∧ (s = lo ∨ le (A.getD (s - 1 - P.length) default) (B.getD (mid + (P.length + A.length) - 1 - (s - 1) - (P.length + A.length)) default)) ∧ (s = hi ∨ ¬ le (A.getD (s - P.length) default) (B.getD (mid + (P.length + A.length) - 1 - s - (P.length + A.length)) default)) ∧
      lp (fun s : List α × Int × Int => pF cmp rec a m b (mid : Int) ((mid + (P.length + A.length) : Nat) : Int) ((mid + (P.length + A.length) - 1 : Nat) : Int) s.1 s.2.1 s.2.2) (P ++ A ++ B ++ S, (lo : Int), (hi : Int)) = some (P ++ A ++ B ++ S, ((s : Nat) : Int)) := by
    intro rec
    refine SV (lo := lo) (hi := hi) (f := fun k => le (A.getD (k - P.length) default) (B.getD (mid + (P.length + A.length) - 1 - k - (P.length + A.length)) default)) ?_ ?_ _ _ _ (Nat.le_refl _) (Nat.le_refl _) hlohi (Nat.le_refl _) (Or.inl rfl) (Or.inl rfl)
    · intro i j h1 h2 h3
      obtain ⟨r1, r2, r3, r4⟩ := hrange ((i + j) / 2) (by omega) (by omega)
      have e1 := hga ((i + j) / 2) r1 r2
      have e2 := hgb (mid + (P.length + A.length) - 1 - (i + j) / 2) r3 r4
      obtain ⟨v, hc, hv⟩ := C.ans (B.getD (mid + (P.length + A.length) - 1 - (i + j) / 2 - (P.length + A.length)) default) (A.getD ((i + j) / 2 - P.length) default) (hB _ (dK (by omega))) (hA _ (dK (by omega)))
      refine ⟨!decide (v < 0), by simp only [Bool.not_eq_true', decide_eq_false_iff_not, hv, Classical.not_not], ?_⟩
      show pF cmp rec _ _ _ _ _ _ _ _ _ = _
      have hlt : decide ((i : Int) < (j : Int)) = true := by simpa using h2
      have hadd : ((i : Int) + (j : Int)) = ((i + j : Nat) : Int) := by omega
      have w1 : IntKind.i64.wrap ((((i + j) / 2 : Nat) : Int) + 1) = (((i + j) / 2 + 1 : Nat) : Int) := by rw [wr (by omega) (by omega)]; omega
      have w2 : IntKind.i64.wrap (((mid + (P.length + A.length) - 1 : Nat) : Int) - (((i + j) / 2 : Nat) : Int)) = ((mid + (P.length + A.length) - 1 - (i + j) / 2 : Nat) : Int) := by rw [wr (by omega) (by omega)]; omega
      simp only [pF, hlt, cond_true, hadd, half (s := i + j) (by omega), w1, w2, Int.toNat_natCast, e1, e2, hc, Option.bind_some]
      rw [aQ (by omega), aQ ⟨by omega, by simp only [List.length_append]; omega⟩, aQ ⟨by omega, by simp only [List.length_append]; omega⟩]
      by_cases hneg : v < 0 <;> simp [hneg]
    · intro i
      show pF cmp rec _ _ _ _ _ _ _ _ _ = _
      have hlt : decide ((i : Int) < (i : Int)) = false := by simp
      simp only [pF, hlt, cond_false]
  obtain ⟨s, s1, s2, s3, s4, s5⟩ := hbin (fun _ _ _ _ => none)
  have hsA0 : P.length ≤ s ∧ s ≤ P.length + A.length := by
    omega
  have hsB0 : P.length + A.length ≤ mid + (P.length + A.length) - s ∧ mid + (P.length + A.length) - s ≤ P.length + A.length + B.length := by
    omega
  obtain ⟨t, rfl⟩ : ∃ t, s = P.length + t := ⟨s - P.length, by omega⟩
  obtain ⟨u, hu⟩ : ∃ u, mid + (P.length + A.length) - (P.length + t) = P.length + A.length + u := ⟨mid + (P.length + A.length) - (P.length + t) - (P.length + A.length), by omega⟩
  have htA : t ≤ A.length := by omega
  have huB : u ≤ B.length := by omega
  have hmtu : mid = P.length + t + u := by omega
  have hAs : A.take t ++ A.drop t = A := List.take_append_drop t A
  have hBs : B.take u ++ B.drop u = B := List.take_append_drop u B
  have hlA1 : (A.take t).length = t := by rw [List.length_take]; omega
  have hlA2 : (A.drop t).length = A.length - t := by rw [List.length_drop]
  have hlB1 : (B.take u).length = u := by rw [List.length_take]; omega
  have hlB2 : (B.drop u).length = B.length - u := by rw [List.length_drop]
  refine ⟨A.take t, A.drop t, B.take u, B.drop u, hAs.symm, hBs.symm, by rw [hlA1, hlB1]; omega, by rw [hlA2, hlB2]; omega, ?_, fun rec => ?_⟩
  · -- who stands ahead of whom
    intro x hx y hy
    rcases List.mem_append.1 hx with hx | hx
    · obtain ⟨i, i1, i2, rfl⟩ := HI hx
      rcases List.mem_append.1 hy with hy | hy
      · obtain ⟨j, j1, j2, rfl⟩ := vJ hy
        exact tY C hA hsA (by omega) j2
      · obtain ⟨j, j1, j2, rfl⟩ := vJ hy
        have h3 : le (A.getD (t - 1) default) (B.getD u default) := by
          rcases s3 with h | h
          · rcases hlo with h' | h' <;> omega
          · rwa [show P.length + t - 1 - P.length = t - 1 by omega, show mid + (P.length + A.length) - 1 - (P.length + t - 1) - (P.length + A.length) = u by omega] at h
        exact C.trans _ _ _ (hA _ (dK i2)) (hA _ (dK (by omega))) (hB _ (dK j2)) (tY C hA hsA (show i ≤ t - 1 by omega) (by omega))
          (C.trans _ _ _ (hA _ (dK (by omega))) (hB _ (dK (by omega))) (hB _ (dK j2)) h3 (tY C hB hsB j1 j2))
    · obtain ⟨i, i1, i2, rfl⟩ := HI hx
      rcases List.mem_append.1 hy with hy | hy
      · obtain ⟨j, j1, j2, rfl⟩ := vJ hy
        have h3 : le (B.getD (u - 1) default) (A.getD t default) := by
          have h0 : ¬ le (A.getD t default) (B.getD (u - 1) default) := by
            rcases s4 with h | h
            · rcases hhi with h' | h' <;> omega
            · rwa [show P.length + t - P.length = t by omega, show mid + (P.length + A.length) - 1 - (P.length + t) - (P.length + A.length) = u - 1 by omega] at h
          rcases C.total _ _ (hA _ (dK (show t < A.length by omega))) (hB _ (dK (show u - 1 < B.length by omega))) with h | h
          · exact absurd h h0
          · exact h
        exact C.trans _ _ _ (hB _ (dK i2)) (hB _ (dK (by omega))) (hA _ (dK j2)) (tY C hB hsB (show i ≤ u - 1 by omega) (by omega))
          (C.trans _ _ _ (hB _ (dK (by omega))) (hA _ (dK (by omega))) (hA _ (dK j2)) h3 (tY C hA hsA j1 j2))
      · obtain ⟨j, j1, j2, rfl⟩ := vJ hy
        exact tY C hB hsB (by omega) j2
  · have h1 : decide (IntKind.i64.wrap (m - a) = 1) = false := by rw [wr (by omega) (by omega)]; simp; omega
    have h2 : decide (IntKind.i64.wrap (b - m) = 1) = false := by rw [wr (by omega) (by omega)]; simp; omega
    have s5' : lp (fun s : List α × Int × Int => pF cmp rec a m b (mid : Int) ((mid + (P.length + A.length) : Nat) : Int) ((mid + (P.length + A.length) - 1 : Nat) : Int) s.1 s.2.1 s.2.2) (P ++ A ++ B ++ S, (lo : Int), (hi : Int)) = some (P ++ A ++ B ++ S, ((P.length + t : Nat) : Int)) := s5
    have hp : IntKind.i64.wrap (((mid + (P.length + A.length) : Nat) : Int) - 1) = ((mid + (P.length + A.length) - 1 : Nat) : Int) := by rw [wr (by omega) (by omega)]; omega
    have he : IntKind.i64.wrap (((mid + (P.length + A.length) : Nat) : Int) - ((P.length + t : Nat) : Int)) = ((P.length + A.length + u : Nat) : Int) := by rw [wr (by omega) (by omega)]; omega
    simp only [eD, h1, cond_false, CR, h2, hinit rec, yK, IF, hp, s5', Option.bind_some, IN, he]
    -- the turn
    have hd : P ++ A ++ B ++ S = (P ++ A.take t) ++ A.drop t ++ B.take u ++ (B.drop u ++ S) := by
      have : (P ++ A.take t) ++ A.drop t ++ B.take u ++ (B.drop u ++ S) = P ++ (A.take t ++ A.drop t) ++ (B.take u ++ B.drop u) ++ S := by simp only [List.append_assoc]
      rw [this, hAs, hBs]
    have hrot : cond (decide (((P.length + t : Nat) : Int) < m) && decide (m < ((P.length + A.length + u : Nat) : Int)))
        ((FC (P ++ A ++ B ++ S) ((P.length + t : Nat) : Int) m ((P.length + A.length + u : Nat) : Int) cmp).bind fun x10 => qU cmp rec x10 a b (mid : Int) ((P.length + t : Nat) : Int) ((P.length + A.length + u : Nat) : Int))
        (qU cmp rec (P ++ A ++ B ++ S) a b (mid : Int) ((P.length + t : Nat) : Int) ((P.length + A.length + u : Nat) : Int))
        = qU cmp rec (P ++ A.take t ++ B.take u ++ A.drop t ++ B.drop u ++ S) a b (mid : Int) ((P.length + t : Nat) : Int) ((P.length + A.length + u : Nat) : Int) := by
      by_cases hc : t < A.length ∧ 0 < u
      · have : (decide (((P.length + t : Nat) : Int) < m) && decide (m < ((P.length + A.length + u : Nat) : Int))) = true := by simp; omega
        rw [this, cond_true, aDz (Q := P ++ A.take t) (X := A.drop t) (Y := B.take u) (R := B.drop u ++ S) hd (fun h => by rw [h] at hlA2; simp at hlA2; omega) (fun h => by rw [h] at hlB1; simp at hlB1; omega)
          (by simp only [List.length_append, hlA1]) (by simp only [List.length_append, hlA1, hlA2]; rw [hm]; congr 1; omega) (by simp only [List.length_append, hlA1, hlA2, hlB1]; congr 1; omega) hl]
        simp
      · have : (decide (((P.length + t : Nat) : Int) < m) && decide (m < ((P.length + A.length + u : Nat) : Int))) = false := by
          rw [Bool.eq_false_iff]; intro h; simp at h; apply hc; omega
        rw [this, cond_false, hd]
        congr 1
        by_cases h0 : t < A.length
        · have : u = 0 := by omega
          subst this; simp
        · have hz : A.drop t = [] := List.drop_eq_nil_of_le (by omega)
          simp only [hz, List.append_nil, List.append_assoc, List.nil_append]
    rw [hrot]
    have hne1 : decide (A.take t ≠ [] ∧ B.take u ≠ []) = (decide (a < ((P.length + t : Nat) : Int)) && decide (((P.length + t : Nat) : Int) < (mid : Int))) := by
      have q1 : A.take t ≠ [] ↔ 0 < t := by rw [← List.length_pos_iff, hlA1]
      have q2 : B.take u ≠ [] ↔ 0 < u := by rw [← List.length_pos_iff, hlB1]
      rw [Bool.eq_iff_iff]; simp [q1, q2]; omega
    have hne2 : decide (A.drop t ≠ [] ∧ B.drop u ≠ []) = (decide ((mid : Int) < ((P.length + A.length + u : Nat) : Int)) && decide (((P.length + A.length + u : Nat) : Int) < b)) := by
      have q1 : A.drop t ≠ [] ↔ t < A.length := by rw [← List.length_pos_iff, hlA2]; omega
      have q2 : B.drop u ≠ [] ↔ u < B.length := by rw [← List.length_pos_iff, hlB2]; omega
      rw [Bool.eq_iff_iff]; simp [q1, q2]; omega
    rw [hne1, hne2, hlA1, hlB1, hlA2]
    have f1 : a + ((t : Nat) : Int) = ((P.length + t : Nat) : Int) := by omega
    have f2 : a + ((t + u : Nat) : Int) = (mid : Int) := by omega
    have f3 : a + ((t + u + (A.length - t) : Nat) : Int) = ((P.length + A.length + u : Nat) : Int) := by omega
    rw [f1, f2, f3]
    simp only [qU, CW]
    cases (decide (a < ((P.length + t : Nat) : Int)) && decide (((P.length + t : Nat) : Int) < (mid : Int))) <;> simp only [cond_true, cond_false, Option.bind_some, Option.bind_fun_some]

end sym
end Go.Abs
namespace Go.Abs
open Go
variable {α : Type} [Inhabited α] {ok : α → Prop} {le : α → α → Prop} {cmp : α → α → Option Int}
theorem aCS (C : Cmp ok le cmp) {P A B S : List α} {a m b : Int} (hA : A ≠ []) (hB : B ≠ []) (oA : Oks ok A) (oB : Oks ok B) (sA : Srt le A) (sB : Srt le B)
    (ha : a = (P.length : Nat)) (hm : m = ((P.length + A.length : Nat) : Int)) (hb : b = ((P.length + A.length + B.length : Nat) : Int)) (hl : (P ++ A ++ B ++ S).length ≤ 1099511627776) : YG cmp le P A B S (P ++ A ++ B ++ S) a m b := by
  by_cases h1 : A.length = 1
  · obtain ⟨x, rfl⟩ := List.length_eq_one_iff.1 h1
    left
    obtain ⟨r, h, h'⟩ := aAY C (P := P) (S := S) (x := x) (oA x (by simp)) oB sB ha (by simpa using hm) (by simpa using hb) (by simpa using hl)
    exact ⟨r, h, fun rec => by have := h' rec; simpa using this⟩
  · by_cases h2 : B.length = 1
    · obtain ⟨x, rfl⟩ := List.length_eq_one_iff.1 h2
      left
      obtain ⟨r, h, h'⟩ := aBD C (P := P) (S := S) (x := x) (oB x (by simp)) oA sA h1 ha hm (by simpa using hb) (by simpa using hl)
      exact ⟨r, h, fun rec => by have := h' rec; simpa using this⟩
    · have p1 := List.length_pos_iff.2 hA
      have p2 := List.length_pos_iff.2 hB
      exact aC1 C oA oB sA sB (by omega) (by omega) ha hm hb hl

theorem MM (C : Cmp ok le cmp) : ∀ (k : Nat) (P A B S : List α) (a m b : Int), A ≠ [] → B ≠ [] → Oks ok A → Oks ok B → Srt le A → Srt le B →
    a = (P.length : Nat) → m = ((P.length + A.length : Nat) : Int) → b = ((P.length + A.length + B.length : Nat) : Int) → (P ++ A ++ B ++ S).length ≤ 1099511627776 →
    (∀ r, eF cmp k (P ++ A ++ B ++ S) a m b = some r → NJ le P A B S r) ∧ (A.length + B.length ≤ k → ∃ r, eF cmp k (P ++ A ++ B ++ S) a m b = some r)
  | 0, P, A, B, S, a, m, b, hA, hB, oA, oB, sA, sB, ha, hm, hb, hl => by
    refine ⟨fun r h => by simp [eF] at h, fun h => ?_⟩
    exact absurd (List.length_eq_zero_iff.1 (by omega)) hA
  | k + 1, P, A, B, S, a, m, b, hA, hB, oA, oB, sA, sB, ha, hm, hb, hl => by
    have part : ∀ (P' A' B' S' : List α) (a' m' b' : Int), Oks ok A' → Oks ok B' → Srt le A' → Srt le B' → a' = (P'.length : Nat) → m' = ((P'.length + A'.length : Nat) : Int) → b' = ((P'.length + A'.length + B'.length : Nat) : Int) → (P' ++ A' ++ B' ++ S').length ≤ 1099511627776 →
        (∀ r, cond (decide (A' ≠ [] ∧ B' ≠ [])) (eF cmp k (P' ++ A' ++ B' ++ S') a' m' b') (some (P' ++ A' ++ B' ++ S')) = some r → NJ le P' A' B' S' r) ∧
        (A'.length + B'.length ≤ k → ∃ r, cond (decide (A' ≠ [] ∧ B' ≠ [])) (eF cmp k (P' ++ A' ++ B' ++ S') a' m' b') (some (P' ++ A' ++ B' ++ S')) = some r) := by
      intro P' A' B' S' a' m' b' oA' oB' sA' sB' ha' hm' hb' hl'
      by_cases h : A' ≠ [] ∧ B' ≠ []
      · rw [decide_eq_true h, cond_true]
        exact MM C k P' A' B' S' a' m' b' h.1 h.2 oA' oB' sA' sB' ha' hm' hb' hl'
      · rw [decide_eq_false h, cond_false]
        refine ⟨fun r hr => ?_, fun _ => ⟨_, rfl⟩⟩
        cases hr
        refine ⟨A' ++ B', List.Perm.refl _, ?_, by simp⟩
        by_cases h1 : A' = []
        · subst h1; simpa using sB'
        · have h2 : B' = [] := Classical.byContradiction fun h2 => h ⟨h1, h2⟩
          subst h2; simpa using sA'
    rcases aCS C hA hB oA oB sA sB ha hm hb hl with ⟨r, hr, hs⟩ | ⟨A1, A2, B1, B2, rfl, rfl, p1, p2, hcross, hs⟩
    · have e : eF cmp (k + 1) (P ++ A ++ B ++ S) a m b = some r := hs _
      exact ⟨fun r' h => by rw [e] at h; cases h; exact hr, fun _ => ⟨r, e⟩⟩
    · have e := hs (eF cmp k)
      rw [show eD cmp (eF cmp k) = eF cmp (k + 1) from rfl] at e
      have q1 := part P A1 B1 (A2 ++ B2 ++ S) a (a + (A1.length : Nat)) (a + ((A1.length + B1.length : Nat) : Int)) (fun x hx => oA x (by simp [hx])) (fun x hx => oB x (by simp [hx]))
        (List.pairwise_append.1 sA).1 (List.pairwise_append.1 sB).1 ha (by omega) (by omega) (by simp only [List.length_append] at hl ⊢; omega)
      have hd1 : P ++ A1 ++ B1 ++ A2 ++ B2 ++ S = P ++ A1 ++ B1 ++ (A2 ++ B2 ++ S) := by simp
      rw [hd1] at e
      have q2 : ∀ D1 : List α, D1.Perm (A1 ++ B1) → _ := fun D1 hD1 => part (P ++ D1) A2 B2 S (a + ((A1.length + B1.length : Nat) : Int)) (a + ((A1.length + B1.length + A2.length : Nat) : Int)) b (fun x hx => oA x (by simp [hx])) (fun x hx => oB x (by simp [hx]))
        (List.pairwise_append.1 sA).2.1 (List.pairwise_append.1 sB).2.1 (by have := hD1.length_eq; simp only [List.length_append] at this ⊢; omega) (by have := hD1.length_eq; simp only [List.length_append] at this ⊢; omega)
        (by have := hD1.length_eq; rw [hb]; simp only [List.length_append] at this ⊢; congr 1; omega) (by have := hD1.length_eq; simp only [List.length_append] at hl this ⊢; omega)
      refine ⟨fun r h => ?_, fun hk => ?_⟩
      · rw [e] at h
        obtain ⟨x, h1, h2⟩ := Option.bind_eq_some_iff.1 h
        obtain ⟨D1, d1, d2, rfl⟩ := q1.1 x h1
        have h2' : cond (decide (A2 ≠ [] ∧ B2 ≠ [])) (eF cmp k (P ++ D1 ++ A2 ++ B2 ++ S) (a + ((A1.length + B1.length : Nat) : Int)) (a + ((A1.length + B1.length + A2.length : Nat) : Int)) b) (some (P ++ D1 ++ A2 ++ B2 ++ S)) = some r := by
          have : P ++ D1 ++ (A2 ++ B2 ++ S) = P ++ D1 ++ A2 ++ B2 ++ S := by simp
          rw [this] at h2; exact h2
        obtain ⟨D2, f1, f2, rfl⟩ := (q2 D1 d1).1 r h2'
        refine ⟨D1 ++ D2, ?_, ?_, by simp⟩
        · refine (d1.append f1).trans ?_
          have : (B1 ++ (A2 ++ B2)).Perm (A2 ++ (B1 ++ B2)) := by
            have := (List.perm_append_comm (l₁ := B1) (l₂ := A2)).append_right B2
            simpa using this
          have := this.append_left A1
          simpa using this
        · rw [Srt, List.pairwise_append]
          exact ⟨d2, f2, fun x hx y hy => hcross x (d1.mem_iff.1 hx) y (f1.mem_iff.1 hy)⟩
      · simp only [List.length_append] at hk
        obtain ⟨x, hx⟩ := q1.2 (by omega)
        obtain ⟨D1, d1, d2, rfl⟩ := q1.1 x hx
        obtain ⟨r, hr⟩ := (q2 D1 d1).2 (by omega)
        refine ⟨r, ?_⟩
        rw [e, hx]
        have : P ++ D1 ++ (A2 ++ B2 ++ S) = P ++ D1 ++ A2 ++ B2 ++ S := by simp
        rw [this]; exact hr

theorem ZC {β : Type} {g : Nat → Option β} (h : ∃ k r, g k = some r) : ∃ r, LX g = some r := by
  unfold LX
  rw [dif_pos h]
  exact Classical.choose_spec h

theorem aAQ (C : Cmp ok le cmp) {P A B S d : List α} {a m b : Int} (hd : d = P ++ A ++ B ++ S) (hA : A ≠ []) (hB : B ≠ []) (oA : Oks ok A) (oB : Oks ok B) (sA : Srt le A) (sB : Srt le B)
    (ha : a = (P.length : Nat)) (hm : m = ((P.length + A.length : Nat) : Int)) (hb : b = ((P.length + A.length + B.length : Nat) : Int)) (hl : d.length ≤ 1099511627776) :
    ∃ D, D.Perm (A ++ B) ∧ Srt le D ∧ pS d a m b cmp = some (P ++ D ++ S) := by
  subst hd
  unfold pS
  obtain ⟨r, hr⟩ := (MM C (A.length + B.length) P A B S a m b hA hB oA oB sA sB ha hm hb hl).2 (Nat.le_refl _)
  obtain ⟨r', hr'⟩ := ZC (g := fun k => eF cmp k (P ++ A ++ B ++ S) a m b) ⟨_, r, hr⟩
  obtain ⟨k, hk⟩ := JI hr'
  obtain ⟨D, d1, d2, rfl⟩ := (MM C k P A B S a m b hA hB oA oB sA sB ha hm hb hl).1 r' hk
  exact ⟨D, d1, d2, hr'⟩

inductive nS {β : Type} (le : β → β → Prop) (n : Nat) : List β → Prop
  | last {l : List β} : l.length ≤ n → Srt le l → nS le n l
  | cons {x l : List β} : x.length = n → Srt le x → nS le n l → nS le n (x ++ l)

theorem nS.srt {β : Type} {le : β → β → Prop} {n : Nat} {l : List β} (h : nS le n l) (hl : l.length ≤ n) : Srt le l := by
  cases h with
  | last _ h => exact h
  | cons hx hs hr =>
    rename_i x r
    have : r = [] := List.length_eq_zero_iff.1 (by simp only [List.length_append] at hl; omega)
    subst this; simpa using hs

theorem nS.split {β : Type} {le : β → β → Prop} {n : Nat} {l : List β} (h : nS le n l) (hl : n < l.length) : ∃ x r, l = x ++ r ∧ x.length = n ∧ Srt le x ∧ nS le n r := by
  cases h with
  | last h' _ => omega
  | cons hx hs hr => exact ⟨_, _, rfl, hx, hs, hr⟩

theorem nS.aDm {β : Type} {le : β → β → Prop} {n : Nat} {l : List β} (hn : 0 < n) (h : nS le n l) (hl : 2 * n ≤ l.length) : ∃ x y r, l = x ++ y ++ r ∧ x.length = n ∧ y.length = n ∧ Srt le x ∧ Srt le y ∧ nS le n r := by
  obtain ⟨x, r, rfl, h1, h2, h3⟩ := h.split (by omega)
  simp only [List.length_append] at hl
  by_cases he : r.length = n
  · exact ⟨x, r, [], by simp, h1, he, h2, h3.srt (by omega), nS.last (by simp) List.Pairwise.nil⟩
  · obtain ⟨y, r', rfl, e1, e2, e3⟩ := h3.split (by omega)
    exact ⟨x, y, r', by simp, h1, e1, h2, e2, e3⟩

theorem Oks.perm {β : Type} {ok : β → Prop} {l l' : List β} (h : Oks ok l) (hp : l'.Perm l) : Oks ok l' := fun x hx => h x (hp.mem_iff.1 hx)

theorem aDb (C : Cmp ok le cmp) {n1 : Int} : ∀ (n : Nat) (F G : List α), G.length ≤ n → Oks ok G → n1 = ((F.length + G.length : Nat) : Int) → (F ++ G).length ≤ 1099511627776 →
    ∃ G1 G2, (G1 ++ G2).Perm G ∧ G2.length < 20 ∧ (∀ H, H.length ≤ 20 → Srt le H → nS le 20 (G1 ++ H)) ∧
      lp (fun s : List α × Int × Int => mV cmp n1 20 s.1 s.2.1 s.2.2) (F ++ G, ((F.length : Nat) : Int), ((F.length + 20 : Nat) : Int)) = some (F ++ G1 ++ G2, ((F.length + G1.length : Nat) : Int)) := by
  intro n
  induction n with
  | zero =>
    intro F G hn hG h1 hl
    refine ⟨[], G, by simp, by omega, fun H h2 h3 => nS.last (by simpa using h2) (by simpa using h3), ?_⟩
    rw [cL (r := (F ++ G, ((F.length : Nat) : Int)))]
    · simp
    · have : decide (((F.length + 20 : Nat) : Int) ≤ n1) = false := by subst h1; simp; omega
      simp only [mV, this, cond_false]
  | succ n ih =>
    intro F G hn hG h1 hl
    by_cases hg : G.length < 20
    · refine ⟨[], G, by simp, by omega, fun H h2 h3 => nS.last (by simpa using h2) (by simpa using h3), ?_⟩
      rw [cL (r := (F ++ G, ((F.length : Nat) : Int)))]
      · simp
      · have : decide (((F.length + 20 : Nat) : Int) ≤ n1) = false := by subst h1; simp; omega
        simp only [mV, this, cond_false]
    · obtain ⟨X, R, rfl, hX⟩ : ∃ X R, G = X ++ R ∧ X.length = 20 := ⟨G.take 20, G.drop 20, (List.take_append_drop _ _).symm, by rw [List.length_take]; omega⟩
      simp only [List.length_append] at hn hl h1 hg
      obtain ⟨D, d1, d2, d3⟩ := aA7 C (P := F) (A := X) (T := R) (a := ((F.length : Nat) : Int)) (b := ((F.length + 20 : Nat) : Int)) rfl (by rw [hX]) (fun x hx => hG x (by simp [hx])) (by simp only [List.length_append]; omega)
      have hD : D.length = 20 := by rw [d1.length_eq, hX]
      obtain ⟨G1, G2, g1, g2, g3, g4⟩ := ih (F ++ D) R (by omega) (fun x hx => hG x (by simp [hx])) (by rw [h1]; simp only [List.length_append]; congr 1; omega) (by simp only [List.length_append]; omega)
      refine ⟨D ++ G1, G2, ?_, g2, fun H h2 h3 => ?_, ?_⟩
      · have := d1.append g1
        simpa using this
      · rw [List.append_assoc]; exact nS.cons hD d2 (g3 H h2 h3)
      · have hb : (fun s : List α × Int × Int => mV cmp n1 20 s.1 s.2.1 s.2.2) (F ++ (X ++ R), ((F.length : Nat) : Int), ((F.length + 20 : Nat) : Int)) = some (.inl (F ++ D ++ R, (((F ++ D).length : Nat) : Int), (((F ++ D).length + 20 : Nat) : Int))) := by
          show mV cmp n1 20 _ _ _ = _
          have : decide (((F.length + 20 : Nat) : Int) ≤ n1) = true := by subst h1; simp; omega
          simp only [mV, this, cond_true]
          rw [show F ++ (X ++ R) = F ++ X ++ R by simp, d3]
          simp only [Option.bind_some, List.length_append, hD]
          rw [wr (by omega) (by omega)]
          congr 1
        rw [eB hb, g4]
        simp only [List.length_append, List.append_assoc]
        congr 2
        congr 1; omega

theorem aDc (C : Cmp ok le cmp) {n1 : Int} {bs : Nat} (hbs : 0 < bs) (hbs' : bs ≤ 1099511627776) : ∀ (n : Nat) (F G : List α), G.length ≤ n → Oks ok G → nS le bs G → n1 = ((F.length + G.length : Nat) : Int) → (F ++ G).length ≤ 1099511627776 →
    ∃ G1 G2, (G1 ++ G2).Perm G ∧ G2.length < 2 * bs ∧ nS le bs G2 ∧ (∀ H, H.length ≤ 2 * bs → Srt le H → nS le (2 * bs) (G1 ++ H)) ∧
      lp (fun s : List α × Int × Int => mU cmp n1 (bs : Int) s.1 s.2.1 s.2.2) (F ++ G, ((F.length : Nat) : Int), ((F.length + 2 * bs : Nat) : Int)) = some (F ++ G1 ++ G2, ((F.length + G1.length : Nat) : Int)) := by
  have stop : ∀ (F G : List α), nS le bs G → G.length < 2 * bs → n1 = ((F.length + G.length : Nat) : Int) → ∃ G1 G2, (G1 ++ G2).Perm G ∧ G2.length < 2 * bs ∧ nS le bs G2 ∧ (∀ H, H.length ≤ 2 * bs → Srt le H → nS le (2 * bs) (G1 ++ H)) ∧
      lp (fun s : List α × Int × Int => mU cmp n1 (bs : Int) s.1 s.2.1 s.2.2) (F ++ G, ((F.length : Nat) : Int), ((F.length + 2 * bs : Nat) : Int)) = some (F ++ G1 ++ G2, ((F.length + G1.length : Nat) : Int)) := by
    intro F G hG hg h1
    refine ⟨[], G, by simp, hg, hG, fun H h2 h3 => nS.last (by simpa using h2) (by simpa using h3), ?_⟩
    rw [cL (r := (F ++ G, ((F.length : Nat) : Int)))]
    · simp
    · have : decide (((F.length + 2 * bs : Nat) : Int) ≤ n1) = false := by subst h1; simp; omega
      show mU cmp n1 _ _ _ _ = _
      simp only [mU, this, cond_false]
  intro n
  induction n with
  | zero => intro F G hn _ hB h1 _; exact stop F G hB (by omega) h1
  | succ n ih =>
    intro F G hn hG hB h1 hl
    by_cases hg : G.length < 2 * bs
    · exact stop F G hB hg h1
    · obtain ⟨x, y, R, rfl, x1, y1, sx, sy, hR⟩ := hB.aDm hbs (by omega)
      simp only [List.length_append] at hn hl h1 hg
      obtain ⟨D, d1, d2, d3⟩ := aAQ C (P := F) (A := x) (B := y) (S := R) (d := F ++ (x ++ y ++ R)) (a := ((F.length : Nat) : Int)) (m := ((F.length + bs : Nat) : Int)) (b := ((F.length + 2 * bs : Nat) : Int)) (by simp) (fun h => by rw [h] at x1; simp at x1; omega) (fun h => by rw [h] at y1; simp at y1; omega)
        (fun z hz => hG z (by simp [hz])) (fun z hz => hG z (by simp [hz])) sx sy rfl (by rw [x1]) (by rw [x1, y1]; congr 1; omega) (by simp only [List.length_append]; omega)
      have hD : D.length = 2 * bs := by rw [d1.length_eq]; simp only [List.length_append]; omega
      obtain ⟨G1, G2, g1, g2, g3, g4, g5⟩ := ih (F ++ D) R (by omega) (fun z hz => hG z (by simp [hz])) hR (by rw [h1]; simp only [List.length_append]; congr 1; omega) (by simp only [List.length_append]; omega)
      refine ⟨D ++ G1, G2, ?_, g2, g3, fun H h2 h3 => ?_, ?_⟩
      · have := d1.append g1
        simpa using this
      · rw [List.append_assoc]; exact nS.cons hD d2 (g4 H h2 h3)
      · have hb : (fun s : List α × Int × Int => mU cmp n1 (bs : Int) s.1 s.2.1 s.2.2) (F ++ (x ++ y ++ R), ((F.length : Nat) : Int), ((F.length + 2 * bs : Nat) : Int)) = some (.inl (F ++ D ++ R, (((F ++ D).length : Nat) : Int), (((F ++ D).length + 2 * bs : Nat) : Int))) := by
          show mU cmp n1 _ _ _ _ = _
          have : decide (((F.length + 2 * bs : Nat) : Int) ≤ n1) = true := by subst h1; simp; omega
          have w1 : IntKind.i64.wrap (((F.length : Nat) : Int) + (bs : Int)) = ((F.length + bs : Nat) : Int) := by rw [wr (by omega) (by omega)]; omega
          have w2 : IntKind.i64.wrap (2 * (bs : Int)) = 2 * (bs : Int) := wr (by omega) (by omega)
          have w3 : IntKind.i64.wrap (((F.length + 2 * bs : Nat) : Int) + 2 * (bs : Int)) = ((F.length + 2 * bs + 2 * bs : Nat) : Int) := by rw [wr (by omega) (by omega)]; omega
          simp only [mU, this, cond_true, w1, w2, w3, d3, Option.bind_some, List.length_append, hD]
        rw [eB hb, g5]
        simp only [List.length_append, List.append_assoc]
        congr 2
        congr 1; omega

theorem aAo (C : Cmp ok le cmp) {d : List α} {bs : Nat} (hbs : 0 < bs) (hbs' : bs < d.length) (ho : Oks ok d) (hB : nS le bs d) (hl : d.length ≤ 1099511627776) :
    ∃ r, r.Perm d ∧ nS le (2 * bs) r ∧ kD cmp ((d.length : Nat) : Int) d (bs : Int) = some (.inl (r, ((2 * bs : Nat) : Int))) := by
  obtain ⟨G1, G2, g1, g2, g3, g4, g5⟩ := aDc C (n1 := ((d.length : Nat) : Int)) hbs (by omega) d.length [] d (Nat.le_refl _) ho hB (by simp) (by simpa using hl)
  have hlen := g1.length_eq
  simp only [List.length_append] at hlen
  have w2 : IntKind.i64.wrap (2 * (bs : Int)) = ((2 * bs : Nat) : Int) := by rw [wr (by omega) (by omega)]; omega
  have w4 : IntKind.i64.wrap ((bs : Int) * 2) = ((2 * bs : Nat) : Int) := by rw [wr (by omega) (by omega)]; omega
  have hlt : decide ((bs : Int) < ((d.length : Nat) : Int)) = true := by simp; omega
  simp only [List.nil_append, List.length_nil, Nat.zero_add, Int.natCast_zero] at g5
  have w1 : IntKind.i64.wrap (((G1.length : Nat) : Int) + (bs : Int)) = ((G1.length + bs : Nat) : Int) := by rw [wr (by omega) (by omega)]; omega
  by_cases hg : bs < G2.length
  · obtain ⟨x, y, rfl, x1, sx, hy⟩ := g3.split hg
    simp only [List.length_append] at g2 hg hlen
    have sy : Srt le y := hy.srt (by omega)
    have og : Oks ok (G1 ++ (x ++ y)) := ho.perm g1
    obtain ⟨D, d1, d2, d3⟩ := aAQ C (P := G1) (A := x) (B := y) (S := []) (d := G1 ++ (x ++ y)) (a := ((G1.length : Nat) : Int)) (m := ((G1.length + bs : Nat) : Int)) (b := ((d.length : Nat) : Int)) (by simp) (fun h => by rw [h] at x1; simp at x1; omega) (fun h => by rw [h] at hg; simp at hg; omega)
      (fun z hz => og z (by simp [hz])) (fun z hz => og z (by simp [hz])) sx sy rfl (by rw [x1]) (by congr 1; omega) (by simp only [List.length_append]; omega)
    refine ⟨G1 ++ D, ?_, ?_, ?_⟩
    · exact (d1.append_left G1).trans g1
    · exact g4 D (by rw [d1.length_eq]; simp only [List.length_append]; omega) d2
    · have hc : decide (((G1.length + bs : Nat) : Int) < ((d.length : Nat) : Int)) = true := by simp; omega
      simp only [kD, hlt, cond_true, w2, xX, g5, Option.bind_some, xW, w1, hc, d3, BS, w4]
      simp
  · refine ⟨G1 ++ G2, g1, g4 G2 (by omega) (g3.srt (by omega)), ?_⟩
    have hc : decide (((G1.length + bs : Nat) : Int) < ((d.length : Nat) : Int)) = false := by simp; omega
    simp only [kD, hlt, cond_true, w2, xX, g5, Option.bind_some, xW, w1, hc, cond_false, BS, w4]

theorem aAL (C : Cmp ok le cmp) : ∀ (n : Nat) (d : List α) (bs : Nat), d.length - bs ≤ n → 0 < bs → Oks ok d → nS le bs d → d.length ≤ 1099511627776 →
    ∃ r, r.Perm d ∧ Srt le r ∧ lp (fun s : List α × Int => kD cmp ((d.length : Nat) : Int) s.1 s.2) (d, (bs : Int)) = some r := by
  have stop : ∀ (d : List α) (bs : Nat), d.length ≤ bs → nS le bs d → ∃ r, r.Perm d ∧ Srt le r ∧ lp (fun s : List α × Int => kD cmp ((d.length : Nat) : Int) s.1 s.2) (d, (bs : Int)) = some r := by
    intro d bs h hB
    refine ⟨d, List.Perm.refl _, hB.srt h, cL ?_⟩
    show kD cmp _ _ _ = _
    have : decide ((bs : Int) < ((d.length : Nat) : Int)) = false := by simp; omega
    simp only [kD, this, cond_false]
  intro n
  induction n with
  | zero => intro d bs hn _ _ hB _; exact stop d bs (by omega) hB
  | succ n ih =>
    intro d bs hn hbs ho hB hl
    by_cases h : d.length ≤ bs
    · exact stop d bs h hB
    · obtain ⟨r, r1, r2, r3⟩ := aAo C hbs (by omega) ho hB hl
      obtain ⟨r', e1, e2, e3⟩ := ih r (2 * bs) (by rw [r1.length_eq]; omega) (by omega) (ho.perm r1) r2 (by rw [r1.length_eq]; exact hl)
      rw [r1.length_eq] at e3
      refine ⟨r', e1.trans r1, e2, ?_⟩
      rw [eB (show (fun s : List α × Int => kD cmp ((d.length : Nat) : Int) s.1 s.2) (d, (bs : Int)) = _ from r3)]
      exact e3

theorem QV (C : Cmp ok le cmp) {d : List α} (ho : Oks ok d) (hl : d.length ≤ 1099511627776) : ∃ r, r.Perm d ∧ Srt le r ∧ zD d ((d.length : Nat) : Int) cmp = some r := by
  obtain ⟨G1, G2, g1, g2, g3, g4⟩ := aDb C (n1 := ((d.length : Nat) : Int)) d.length [] d (Nat.le_refl _) ho (by simp) (by simpa using hl)
  have hlen := g1.length_eq
  simp only [List.length_append] at hlen
  have og := ho.perm g1
  obtain ⟨D, d1, d2, d3⟩ := aA7 C (P := G1) (A := G2) (T := []) (a := ((G1.length : Nat) : Int)) (b := ((d.length : Nat) : Int)) rfl (by congr 1; omega) (fun z hz => og z (by simp [hz])) (by simp only [List.length_append, List.length_nil]; omega)
  have hp : (G1 ++ D).Perm d := (d1.append_left G1).trans g1
  obtain ⟨r, r1, r2, r3⟩ := aAL C (G1 ++ D).length (G1 ++ D) 20 (by omega) (by omega) (ho.perm hp) (g3 D (by rw [d1.length_eq]; omega) d2) (by rw [hp.length_eq]; exact hl)
  refine ⟨r, r1.trans hp, r2, ?_⟩
  simp only [List.nil_append, List.length_nil, Nat.zero_add, Int.natCast_zero] at g4
  unfold zD CB
  have g4' : lp (fun s : List α × Int × Int => mV cmp ((d.length : Nat) : Int) 20 s.1 s.2.1 s.2.2) (d, (0 : Int), (20 : Int)) = some (G1 ++ G2, ((G1.length : Nat) : Int)) := g4
  rw [g4']
  simp only [Option.bind_some, BQ]
  rw [show G1 ++ G2 = G1 ++ G2 ++ [] by simp, d3]
  simp only [Option.bind_some, BO, List.append_nil]
  rw [hp.length_eq] at r3
  have r3' : lp (fun s : List α × Int => kD cmp ((d.length : Nat) : Int) s.1 s.2) (G1 ++ D, (20 : Int)) = some r := r3
  rw [r3']; rfl

end Go.Abs
namespace Go.Abs
open Go
def BX (n : Int) : Bool := decide (n ≤ 1048576) && decide (-1048576 ≤ n)

theorem XV (n : Int) : xR n = some (BX n) := rfl

def qO (last : Int) (j : aA) : Bool := decide (j.At ≤ last) || decide (1125899906842624 ≤ j.At) || decide (j.Net = 0) || !BX j.Net

def chk (last : Int) : List aA → Bool
  | [] => true
  | j :: r => !qO last j && chk j.At r

def dD (f : List aA) : Bool := decide (f.length ≤ 1024) && chk (-2) f

theorem SZ {f : List aA} {i : Nat} {a : aA} {last : Int} (ha : f[i]? = some a) (hl : f.length < 4611686018427387904) :
    mW f (f.length : Nat) last i = some (if qO last a then .inr (.inr false) else .inl (a.At, ((i + 1 : Nat) : Int))) := by
  obtain ⟨d1, d2, d3, d4⟩ := idx ha hl
  simp only [mW, d1, cond_true, aQ d2, d3, d4, XV]
  unfold qO
  cases h : (decide (a.At ≤ last) || decide (1125899906842624 ≤ a.At) || decide (a.Net = 0)) <;> cases h2 : BX a.Net <;> simp [cM]

theorem SW : ∀ (f : List aA) (last : Int), oX (fun last (j : aA) => some (if qO last j then .inr (.inr false) else .inl j.At)) (fun _ => (.inl () : Unit ⊕ Bool)) last f = some (if chk last f then .inl () else .inr false)
  | [], last => by simp [oX, chk]
  | j :: r, last => by
    cases h : qO last j
    · rw [HB (s' := j.At) (by simp [h])]
      rw [SW r j.At]
      simp [chk, h]
    · rw [ID (x := .inr false) (by simp [h])]
      simp [chk, h]

theorem CK (f : List aA) : kO f = some (dD f) := by
  unfold kO dD
  by_cases hl : f.length ≤ 1024
  · have h1 : decide ((1024 : Int) < ((f.length : Nat) : Int)) = false := by simp; omega
    rw [h1, cond_false]
    unfold BL
    have key := aB5 (l := f) (body := fun s : Int × Int => mW f (f.length : Nat) s.1 s.2) (fun last i => (last, i)) _ _
      (fun i a s ha => by
        constructor
        · intro s' hs
          show mW f (f.length : Nat) s i = _
          rw [SZ ha (by omega)]
          split at hs <;> simp_all
        · intro x hs
          show mW f (f.length : Nat) s i = _
          rw [SZ ha (by omega)]
          split at hs <;> simp_all)
      (fun s => by show mW f (f.length : Nat) s (f.length : Nat) = _; simp only [mW, cX, cond_false]) (SW f (-2))
    rw [key]
    cases h : chk (-2) f <;> simp [xY, hl]
  · have h1 : decide ((1024 : Int) < ((f.length : Nat) : Int)) = true := by simp; omega
    rw [h1, cond_true]
    simp [hl]

theorem mA {last : Int} {j : aA} : qO last j = false ↔ last < j.At ∧ j.At < 1125899906842624 ∧ j.Net ≠ 0 ∧ j.Net ≤ 1048576 ∧ -1048576 ≤ j.Net := by
  simp [qO, BX]
  omega

def iK (last : Int) : List aA → Prop
  | [] => True
  | j :: r => (last < j.At ∧ j.At < 1125899906842624 ∧ j.Net ≠ 0 ∧ j.Net ≤ 1048576 ∧ -1048576 ≤ j.Net) ∧ iK j.At r

theorem YA : ∀ {f : List aA} {last : Int}, chk last f = true ↔ iK last f
  | [], last => by simp [chk, iK]
  | j :: r, last => by simp [chk, iK, mA, YA]

theorem dA {f : List aA} : dD f = true ↔ f.length ≤ 1024 ∧ iK (-2) f := by simp [dD, YA]

theorem iK.above : ∀ {f : List aA} {last : Int}, iK last f → ∀ j ∈ f, last < j.At ∧ j.At < 1125899906842624 ∧ j.Net ≠ 0 ∧ j.Net ≤ 1048576 ∧ -1048576 ≤ j.Net
  | [], _, _, j, hj => by simp at hj
  | a :: r, last, h, j, hj => by
    rcases List.mem_cons.1 hj with rfl | hj
    · exact h.1
    · have := h.2.above j hj
      have h1 := h.1.1
      exact ⟨by omega, this.2⟩

def val (f : List aA) (t : Int) : Int := (f.map fun j => if j.At ≤ t then j.Net else 0).sum

theorem sH (t : Int) : val [] t = 0 := rfl

theorem bY (j : aA) (r : List aA) (t : Int) : val (j :: r) t = (if j.At ≤ t then j.Net else 0) + val r t := by simp [val]

theorem rI (f g : List aA) (t : Int) : val (f ++ g) t = val f t + val g t := by simp [val]

theorem KC : ∀ {f : List aA} {b : Int} (t : Int), 0 ≤ b → (∀ j ∈ f, j.Net ≤ b ∧ -b ≤ j.Net) → val f t ≤ b * f.length ∧ -(b * f.length) ≤ val f t
  | [], b, t, _, _ => by simp [val]
  | j :: r, b, t, hb, h => by
    obtain ⟨h1, h2⟩ := KC t hb (fun k hk => h k (List.mem_cons_of_mem _ hk))
    have h3 := h j (List.mem_cons_self ..)
    rw [bY]
    simp only [List.length_cons, Int.natCast_add, Int.natCast_one, Int.mul_add, Int.mul_one]
    split <;> omega

theorem wM {f : List aA} {t : Int} (h : ∀ j ∈ f, t < j.At) : val f t = 0 := by
  induction f with
  | nil => rfl
  | cons j r ih =>
    rw [bY, ih (fun k hk => h k (List.mem_cons_of_mem _ hk))]
    have := h j (List.mem_cons_self ..)
    rw [if_neg (by omega)]; rfl

theorem aCR (f : List aA) : oH f = some (if dD f then (f, 0) else ([], 7)) := by
  unfold oH
  rw [CK]
  cases h : dD f <;> simp

end Go.Abs
namespace Go.Abs
open Go
section both
variable {op : Int → Int → Option Int} {f g r : List aA} {out : List aA} {a b was t : Int} {j : aA}
theorem XB : iA op f [] out a b was t = lY op f [] out a b was t := by
  unfold iA
  rw [aQ (fun h => by rw [len_nil] at h; cases h), len_nil, Bool.false_and, cond_false]

theorem FP (h : j.At = t) : iA op f (j :: r) out a b was t = lY op f r out a (IntKind.i64.wrap (b + j.Net)) was t := by
  unfold iA
  rw [aQ (fun _ => HO), BA, DW, aBi, aQ HO, aQ aDv, Bool.true_and, decide_eq_true h, cond_true]

theorem TS (h : j.At ≠ t) : iA op f (j :: r) out a b was t = lY op f (j :: r) out a b was t := by
  unfold iA
  rw [aQ (fun _ => HO), BA, DW, Bool.true_and, decide_eq_false h, cond_false]

theorem WY : jB op [] g out a b was t = iA op [] g out a b was t := by
  unfold jB
  rw [aQ (fun h => by rw [len_nil] at h; cases h), len_nil, Bool.false_and, cond_false]

theorem FO (h : j.At = t) : jB op (j :: r) g out a b was t = iA op r g out (IntKind.i64.wrap (a + j.Net)) b was t := by
  unfold jB
  rw [aQ (fun _ => HO), BA, DW, aBi, aQ HO, aQ aDv, Bool.true_and, decide_eq_true h, cond_true]

theorem UH (h : j.At ≠ t) : jB op (j :: r) g out a b was t = iA op (j :: r) g out a b was t := by
  unfold jB
  rw [aQ (fun _ => HO), BA, DW, Bool.true_and, decide_eq_false h, cond_false]

theorem XI : lV op f [] out a b was t = jB op f [] out a b was t := by
  unfold lV
  rw [len_nil, cond_false]

theorem zU : lV op f (j :: r) out a b was t = jB op f (j :: r) out a b was (if j.At < t then j.At else t) := by
  unfold lV
  rw [BA, cond_true, aQ HO, DW]

theorem ER : eY op (j :: r) g out a b was = lV op (j :: r) g out a b was j.At := by
  unfold eY
  rw [BA, Bool.true_or, cond_true, cond_true, aQ HO, DW]

theorem aAX : eY op [] (j :: r) out a b was = lV op [] (j :: r) out a b was 1125899906842624 := by
  unfold eY
  rw [BA, len_nil, Bool.or_true, cond_true, cond_false]

theorem WO : eY op [] [] out a b was = some (.inr out) := by
  unfold eY
  rw [len_nil, Bool.or_false, cond_false]

end both
def emit (p v was : Int) : List aA := if v = was then [] else [⟨p, v - was⟩]

def kM (was : Int) : List (Int × Int) → List aA
  | [] => []
  | x :: r => emit x.1 x.2 was ++ kM x.2 r

theorem ZP {op : Int → Int → Option Int} {f g out : List aA} {a b was t v : Int} (hv : op a b = some v) (hb : -2305843009213693952 ≤ v ∧ v ≤ 2305843009213693952) (hw : -2305843009213693952 ≤ was ∧ was ≤ 2305843009213693952) (ho : out.length ≤ 1048576) :
    lY op f g out a b was t = some (.inl (f, g, out ++ emit t v was, a, b, v)) := by
  unfold lY
  rw [hv]
  simp only [Option.bind_some]
  have hwr : IntKind.i64.wrap (v - was) = v - was := dI (by omega) (by omega)
  unfold emit
  by_cases h : v = was
  · rw [decide_eq_true h, Bool.not_true, cond_false, if_pos h, List.append_nil, h]
  · rw [decide_eq_false h, Bool.not_false, cond_true, if_neg h, hwr]
    rw [aQ (by simp only [List.length_cons, List.length_nil]; omega)]

def merge (f g : List aA) (a b : Int) : List (Int × Int × Int) :=
  match f, g with
  | [], [] => []
  | j :: f, [] => (j.At, a + j.Net, b) :: merge f [] (a + j.Net) b
  | [], k :: g => (k.At, a, b + k.Net) :: merge [] g a (b + k.Net)
  | j :: f, k :: g =>
    if j.At < k.At then (j.At, a + j.Net, b) :: merge f (k :: g) (a + j.Net) b
    else if k.At < j.At then (k.At, a, b + k.Net) :: merge (j :: f) g a (b + k.Net)
    else (j.At, a + j.Net, b + k.Net) :: merge f g (a + j.Net) (b + k.Net)

termination_by f.length + g.length
theorem CE {a b : Int} : merge [] [] a b = [] := by rw [merge]

theorem OX {j : aA} {f : List aA} {a b : Int} : merge (j :: f) [] a b = (j.At, a + j.Net, b) :: merge f [] (a + j.Net) b := by rw [merge]

theorem OR {k : aA} {g : List aA} {a b : Int} : merge [] (k :: g) a b = (k.At, a, b + k.Net) :: merge [] g a (b + k.Net) := by rw [merge]

theorem merge_lt {j k : aA} {f g : List aA} {a b : Int} (h : j.At < k.At) : merge (j :: f) (k :: g) a b = (j.At, a + j.Net, b) :: merge f (k :: g) (a + j.Net) b := by rw [merge, if_pos h]

theorem MT {j k : aA} {f g : List aA} {a b : Int} (h : k.At < j.At) : merge (j :: f) (k :: g) a b = (k.At, a, b + k.Net) :: merge (j :: f) g a (b + k.Net) := by rw [merge, if_neg (by omega), if_pos h]

theorem MW {j k : aA} {f g : List aA} {a b : Int} (h : j.At = k.At) : merge (j :: f) (k :: g) a b = (j.At, a + j.Net, b + k.Net) :: merge f g (a + j.Net) (b + k.Net) := by rw [merge, if_neg (by omega), if_neg (by omega)]

theorem aCQ {op : Int → Int → Option Int} {OP : Int → Int → Int} (hop : ∀ a b, a ≤ 1073741824 → -1073741824 ≤ a → b ≤ 1073741824 → -1073741824 ≤ b → op a b = some (OP a b) ∧ -2305843009213693952 ≤ OP a b ∧ OP a b ≤ 2305843009213693952) :
    ∀ (n : Nat) (f g out : List aA) (a b was lf lg : Int), f.length + g.length ≤ n → iK lf f → iK lg g → a ≤ 1048576 * (1024 - f.length) → -(1048576 * (1024 - f.length)) ≤ a → b ≤ 1048576 * (1024 - g.length) → -(1048576 * (1024 - g.length)) ≤ b →
      -2305843009213693952 ≤ was ∧ was ≤ 2305843009213693952 → out.length + n ≤ 1048576 →
      lp (fun s : List aA × List aA × List aA × Int × Int × Int => eY op s.1 s.2.1 s.2.2.1 s.2.2.2.1 s.2.2.2.2.1 s.2.2.2.2.2) (f, g, out, a, b, was) = some (out ++ kM was ((merge f g a b).map fun x => (x.1, OP x.2.1 x.2.2))) := by
  have fin : ∀ (out : List aA) (a b was : Int), lp (fun s : List aA × List aA × List aA × Int × Int × Int => eY op s.1 s.2.1 s.2.2.1 s.2.2.2.1 s.2.2.2.2.1 s.2.2.2.2.2) ([], [], out, a, b, was) = some (out ++ kM was ((merge [] [] a b).map fun x => (x.1, OP x.2.1 x.2.2))) := by
    intro out a b was
    rw [CE]
    simp only [List.map_nil, kM, List.append_nil]
    exact cL WO
  intro n
  induction n with
  | zero =>
    intro f g out a b was lf lg hn _ _ _ _ _ _ _ _
    have h1 : f = [] := List.length_eq_zero_iff.1 (by omega)
    have h2 : g = [] := List.length_eq_zero_iff.1 (by omega)
    subst h1; subst h2
    exact fin out a b was
  | succ n ih =>
    intro f g out a b was lf lg hn hf hg a1 a2 b1 b2 hw ho
    have emitL : ∀ p v was, (emit p v was).length ≤ 1 := by intro p v was; unfold emit; split <;> simp
    have go : ∀ (f' g' : List aA) (a' b' p lf' lg' : Int), f'.length + g'.length ≤ n → iK lf' f' → iK lg' g' → a' ≤ 1048576 * (1024 - f'.length) → -(1048576 * (1024 - f'.length)) ≤ a' → b' ≤ 1048576 * (1024 - g'.length) → -(1048576 * (1024 - g'.length)) ≤ b' →
        eY op f g out a b was = lY op f' g' out a' b' was p → merge f g a b = (p, a', b') :: merge f' g' a' b' →
        lp (fun s : List aA × List aA × List aA × Int × Int × Int => eY op s.1 s.2.1 s.2.2.1 s.2.2.2.1 s.2.2.2.2.1 s.2.2.2.2.2) (f, g, out, a, b, was) = some (out ++ kM was ((merge f g a b).map fun x => (x.1, OP x.2.1 x.2.2))) := by
      intro f' g' a' b' p lf' lg' hlen hf' hg' a1' a2' b1' b2' hstep hm
      obtain ⟨hv, v1, v2⟩ := hop a' b' (by omega) (by omega) (by omega) (by omega)
      have hb : (fun s : List aA × List aA × List aA × Int × Int × Int => eY op s.1 s.2.1 s.2.2.1 s.2.2.2.1 s.2.2.2.2.1 s.2.2.2.2.2) (f, g, out, a, b, was) = some (.inl (f', g', out ++ emit p (OP a' b') was, a', b', OP a' b')) := by
        show eY op f g out a b was = _
        rw [hstep, ZP hv ⟨v1, v2⟩ hw (by omega)]
      rw [eB hb, ih f' g' _ a' b' _ lf' lg' hlen hf' hg' a1' a2' b1' b2' ⟨v1, v2⟩ (by have := emitL p (OP a' b') was; simp only [List.length_append]; omega), hm]
      simp only [List.map_cons, kM, List.append_assoc]
    rcases f with _ | ⟨j, f⟩ <;> rcases g with _ | ⟨k, g⟩
    · exact fin out a b was
    rotate_left
    · -- only the first
      simp only [List.length_cons, List.length_nil] at hn a1 a2 b1 b2
      have hw : IntKind.i64.wrap (a + j.Net) = a + j.Net := dI (by have := hf.1; omega) (by have := hf.1; omega)
      have := hf.1
      exact go f [] (a + j.Net) b j.At j.At lg (by simp only [List.length_nil]; omega) hf.2 trivial (by omega) (by omega) (by simp only [List.length_nil]; omega) (by simp only [List.length_nil]; omega)
        (by rw [ER, XI, FO rfl, XB, hw]) OX
    rotate_left
    · -- only the second
      simp only [List.length_cons, List.length_nil] at hn a1 a2 b1 b2
      have := hg.1
      have hw : IntKind.i64.wrap (b + k.Net) = b + k.Net := dI (by omega) (by omega)
      exact go [] g a (b + k.Net) k.At lf k.At (by simp only [List.length_nil]; omega) trivial hg.2 (by simp only [List.length_nil]; omega) (by simp only [List.length_nil]; omega) (by omega) (by omega)
        (by rw [aAX, zU, if_pos (by omega), WY, FP rfl, hw]) OR
    · -- both
      simp only [List.length_cons] at hn a1 a2 b1 b2
      have h1 := hf.1
      have h2 := hg.1
      have hwa : IntKind.i64.wrap (a + j.Net) = a + j.Net := dI (by omega) (by omega)
      have hwb : IntKind.i64.wrap (b + k.Net) = b + k.Net := dI (by omega) (by omega)
      by_cases h : j.At < k.At
      · exact go f (k :: g) (a + j.Net) b j.At j.At lg (by simp only [List.length_cons]; omega) hf.2 hg (by omega) (by omega) (by simp only [List.length_cons]; omega) (by simp only [List.length_cons]; omega)
          (by rw [ER, zU, if_neg (by omega), FO rfl, TS (by omega), hwa]) (merge_lt h)
      · by_cases h' : k.At < j.At
        · exact go (j :: f) g a (b + k.Net) k.At lf k.At (by simp only [List.length_cons]; omega) hf hg.2 (by simp only [List.length_cons]; omega) (by simp only [List.length_cons]; omega) (by omega) (by omega)
            (by rw [ER, zU, if_pos h', UH (by omega), FP rfl, hwb]) (MT h')
        · have he : j.At = k.At := by omega
          exact go f g (a + j.Net) (b + k.Net) j.At j.At k.At (by omega) hf.2 hg.2 (by omega) (by omega) (by omega) (by omega)
            (by rw [ER, zU, if_neg h', FO rfl, FP he.symm, hwa, hwb]) (MW he)

end Go.Abs
namespace Go.Abs
open Go
def comb (OP : Int → Int → Int) (f g : List aA) : List aA := kM 0 ((merge f g 0 0).map fun x => (x.1, OP x.2.1 x.2.2))

def told (f : List aA) : List aA × Int := if dD f then (f, 0) else ([], 7)

theorem HA (f : List aA) : oH f = some (told f) := aCR f

theorem aCu {op : Int → Int → Option Int} {OP : Int → Int → Int} (hop : ∀ a b, a ≤ 1073741824 → -1073741824 ≤ a → b ≤ 1073741824 → -1073741824 ≤ b → op a b = some (OP a b) ∧ -2305843009213693952 ≤ OP a b ∧ OP a b ≤ 2305843009213693952) (f g : List aA) :
    xN f g op = some (if dD f && dD g then told (comb OP f g) else ([], 2)) := by
  unfold xN
  rw [CK, CK]
  simp only [Option.bind_some]
  cases hf : dD f
  · simp [cM]
  · cases hg : dD g
    · simp [cM]
    · obtain ⟨f1, f2⟩ := dA.1 hf
      obtain ⟨g1, g2⟩ := dA.1 hg
      simp only [cM, Bool.not_true, Bool.not_false, cond_true, Option.bind_some, Bool.or_self, cond_false, Bool.and_self, if_true]
      unfold AQ
      rw [aCQ hop (f.length + g.length) f g [] 0 0 0 (-2) (-2) (Nat.le_refl _) f2 g2 (by omega) (by omega) (by omega) (by omega) (by omega) (by simp only [List.length_nil]; omega)]
      simp [wE, HA, comb]

theorem aDi (a b : Int) (h1 : a ≤ 1073741824) (h2 : -1073741824 ≤ a) (h3 : b ≤ 1073741824) (h4 : -1073741824 ≤ b) : sU a b = some (-a) ∧ -2305843009213693952 ≤ -a ∧ -a ≤ 2305843009213693952 := by
  refine ⟨?_, by omega, by omega⟩
  unfold sU
  rw [show (0 : Int) - a = -a by omega, dI (by omega) (by omega)]

def two (OP : Int → Int → Int) (f g : List aA) : List aA × Int := if dD f && dD g then told (comb OP f g) else ([], 2)

theorem neg_eq (f : List aA) : rJ f = some (two (fun a _ => -a) f []) := by
  unfold rJ
  rw [aCu (OP := fun a _ => -a) aDi]
  rfl

end Go.Abs
namespace Go.Abs
open Go
theorem SN (p v was t : Int) : val (emit p v was) t = if p ≤ t then v - was else 0 := by
  unfold emit
  by_cases h : v = was
  · rw [if_pos h, sH, h]; split <;> omega
  · rw [if_neg h, bY, sH]; simp

theorem iK.nR {l t : Int} {f : List aA} (h : iK l f) (ht : t ≤ l) : val f t = 0 := wM fun j hj => by have := (h.above j hj).1; omega

theorem aBM (OP : Int → Int → Int) (t : Int) : ∀ (n : Nat) (f g : List aA) (a b lf lg : Int), f.length + g.length ≤ n → iK lf f → iK lg g →
    val (kM (OP a b) ((merge f g a b).map fun x => (x.1, OP x.2.1 x.2.2))) t = OP (a + val f t) (b + val g t) - OP a b := by
  intro n
  induction n with
  | zero =>
    intro f g a b lf lg hn _ _
    have h1 : f = [] := List.length_eq_zero_iff.1 (by omega)
    have h2 : g = [] := List.length_eq_zero_iff.1 (by omega)
    subst h1; subst h2
    rw [CE]
    simp [kM, val]
  | succ n ih =>
    intro f g a b lf lg hn hf hg
    have go : ∀ (f' g' : List aA) (a' b' p lf' lg' : Int), f'.length + g'.length ≤ n → iK lf' f' → iK lg' g' → merge f g a b = (p, a', b') :: merge f' g' a' b' →
        (p ≤ t → a + val f t = a' + val f' t ∧ b + val g t = b' + val g' t) → (t < p → val f t = 0 ∧ val g t = 0 ∧ val f' t = 0 ∧ val g' t = 0) →
        val (kM (OP a b) ((merge f g a b).map fun x => (x.1, OP x.2.1 x.2.2))) t = OP (a + val f t) (b + val g t) - OP a b := by
      intro f' g' a' b' p lf' lg' hlen hf' hg' hm h1 h2
      rw [hm]
      simp only [List.map_cons, kM]
      rw [rI, SN, ih f' g' a' b' lf' lg' hlen hf' hg']
      by_cases hp : p ≤ t
      · obtain ⟨e1, e2⟩ := h1 hp
        rw [if_pos hp, e1, e2]; omega
      · obtain ⟨e1, e2, e3, e4⟩ := h2 (by omega)
        rw [if_neg hp, e1, e2, e3, e4]
        simp
    rcases f with _ | ⟨j, f⟩ <;> rcases g with _ | ⟨k, g⟩
    · rw [CE]; simp [kM, val]
    · simp only [List.length_cons, List.length_nil] at hn
      refine go [] g a (b + k.Net) k.At lf k.At (by simp only [List.length_nil]; omega) trivial hg.2 OR (fun hp => ⟨rfl, ?_⟩) (fun hp => ⟨rfl, ?_, rfl, ?_⟩)
      · rw [bY, if_pos hp]; omega
      · rw [bY, if_neg (by omega), hg.2.nR (by omega)]; rfl
      · exact hg.2.nR (by omega)
    · simp only [List.length_cons, List.length_nil] at hn
      refine go f [] (a + j.Net) b j.At j.At lg (by simp only [List.length_nil]; omega) hf.2 trivial OX (fun hp => ⟨?_, rfl⟩) (fun hp => ⟨?_, rfl, ?_, rfl⟩)
      · rw [bY, if_pos hp]; omega
      · rw [bY, if_neg (by omega), hf.2.nR (by omega)]; rfl
      · exact hf.2.nR (by omega)
    · simp only [List.length_cons] at hn
      by_cases h : j.At < k.At
      · refine go f (k :: g) (a + j.Net) b j.At j.At lg (by simp only [List.length_cons]; omega) hf.2 hg (merge_lt h) (fun hp => ⟨?_, rfl⟩) (fun hp => ⟨?_, ?_, ?_, ?_⟩)
        · rw [bY, if_pos hp]; omega
        · rw [bY, if_neg (by omega), hf.2.nR (by omega)]; rfl
        · rw [bY, if_neg (by omega), hg.2.nR (by omega)]; rfl
        · exact hf.2.nR (by omega)
        · rw [bY, if_neg (by omega), hg.2.nR (by omega)]; rfl
      · by_cases h' : k.At < j.At
        · refine go (j :: f) g a (b + k.Net) k.At lf k.At (by simp only [List.length_cons]; omega) hf hg.2 (MT h') (fun hp => ⟨rfl, ?_⟩) (fun hp => ⟨?_, ?_, ?_, ?_⟩)
          · rw [bY, if_pos hp]; omega
          · rw [bY, if_neg (by omega), hf.2.nR (by omega)]; rfl
          · rw [bY, if_neg (by omega), hg.2.nR (by omega)]; rfl
          · rw [bY, if_neg (by omega), hf.2.nR (by omega)]; rfl
          · exact hg.2.nR (by omega)
        · have he : j.At = k.At := by omega
          refine go f g (a + j.Net) (b + k.Net) j.At j.At k.At (by omega) hf.2 hg.2 (MW he) (fun hp => ⟨?_, ?_⟩) (fun hp => ⟨?_, ?_, ?_, ?_⟩)
          · rw [bY, if_pos hp]; omega
          · rw [bY, if_pos (by omega)]; omega
          · rw [bY, if_neg (by omega), hf.2.nR (by omega)]; rfl
          · rw [bY, if_neg (by omega), hg.2.nR (by omega)]; rfl
          · exact hf.2.nR (by omega)
          · exact hg.2.nR (by omega)

theorem aCb {OP : Int → Int → Int} (h0 : OP 0 0 = 0) {f g : List aA} (hf : dD f = true) (hg : dD g = true) (t : Int) : val (comb OP f g) t = OP (val f t) (val g t) := by
  have := aBM OP t _ f g 0 0 (-2) (-2) (Nat.le_refl _) (dA.1 hf).2 (dA.1 hg).2
  rw [h0] at this
  simpa [comb] using this

theorem CV {f : List aA} (hf : dD f = true) (t : Int) : val f t ≤ 1073741824 ∧ -1073741824 ≤ val f t := by
  obtain ⟨h1, h2⟩ := dA.1 hf
  have := KC t (b := 1048576) (by omega) (fun j hj => by have := h2.above j hj; omega) (f := f)
  omega

end Go.Abs
namespace Go.Abs
open Go
def xL (f : List aA) : Nat → Int
  | 0 => -2
  | k + 1 => (f.getD k default).At

theorem WN {f : List aA} {i : Nat} {a : aA} {last : Int} (ha : f[i]? = some a) (hl : f.length ≤ 1024) (hlast : last = xL f i) (hp : -2 ≤ last) (hp' : 0 < i → -1 ≤ last) :
    lW f i = some (if qO last a then .inr (.inr false) else .inl ((i + 1 : Nat) : Int)) := by
  obtain ⟨d1, d2, d3, d4⟩ := idx ha (by omega)
  have hlt : i < f.length := (List.getElem?_eq_some_iff.1 ha).1
  simp only [lW, d1, cond_true, d3, d4]
  rw [aQ d2, aQ (fun _ => d2), aQ (fun _ => d2), aQ (fun _ => d2), aQ (fun _ => d2), aQ (fun _ => d2)]
  cases i with
  | zero =>
    rw [aQ (fun h => by simp at h)]
    have hm2 : last = -2 := hlast
    subst hm2
    by_cases hb : qO (-2) a = true
    · rw [if_pos hb]
      have hx : (((((decide (a.At < -1)) || (decide (1125899906842624 ≤ a.At))) || (decide (a.Net = 0))) || (decide (1048576 < a.Net))) || (decide (a.Net < -1048576))) = true := by
        simp [qO, BX] at hb ⊢; omega
      rw [hx, cond_true]
    · have hb' : qO (-2) a = false := by simpa using hb
      rw [if_neg hb]
      rw [mA] at hb'
      have hx : (((((decide (a.At < -1)) || (decide (1125899906842624 ≤ a.At))) || (decide (a.Net = 0))) || (decide (1048576 < a.Net))) || (decide (a.Net < -1048576))) = false := by
        simp; omega
      rw [hx, cond_false]
      simp
  | succ k =>
    have hw : IntKind.i64.wrap (((k + 1 : Nat) : Int) - 1) = (k : Int) := by rw [dI (by omega) (by omega)]; omega
    have hg : List.getD f (Int.toNat (k : Int)) default = f.getD k default := by rw [Int.toNat_natCast]
    rw [hw, hg, aQ (fun _ => ⟨by omega, by omega⟩)]
    have hpos : decide ((0 : Int) < ((k + 1 : Nat) : Int)) = true := by simp
    have hp1 := hp' (by omega)
    have hl2 : (f.getD k default).At = last := hlast.symm
    rw [hpos, Bool.true_and, hl2]
    by_cases hb : qO last a = true
    · rw [if_pos hb]
      by_cases hx : (((((decide (a.At < -1)) || (decide (1125899906842624 ≤ a.At))) || (decide (a.Net = 0))) || (decide (1048576 < a.Net))) || (decide (a.Net < -1048576))) = true
      · rw [hx, cond_true]
      · have hx' : (((((decide (a.At < -1)) || (decide (1125899906842624 ≤ a.At))) || (decide (a.Net = 0))) || (decide (1048576 < a.Net))) || (decide (a.Net < -1048576))) = false := by simpa using hx
        have hy : decide (a.At ≤ last) = true := by
          simp [qO, BX] at hb hx' ⊢; omega
        rw [hx', cond_false, hy, cond_true]
    · have hb' : qO last a = false := by simpa using hb
      rw [if_neg hb]
      rw [mA] at hb'
      have hx : (((((decide (a.At < -1)) || (decide (1125899906842624 ≤ a.At))) || (decide (a.Net = 0))) || (decide (1048576 < a.Net))) || (decide (a.Net < -1048576))) = false := by
        simp; omega
      have hy : decide (a.At ≤ last) = false := by simp; omega
      rw [hx, cond_false, hy, cond_false]

theorem QS {f : List aA} (hl : f.length ≤ 1024) : ∀ (m k : Nat), f.length - k = m → k ≤ f.length → -2 ≤ xL f k → (0 < k → -1 ≤ xL f k) → lp (fun s => lW f s) (k : Int) = some (if chk (xL f k) (f.drop k) = true then .inl () else .inr false)
  | 0, k, hm, hk, _, _ => by
    have : k = f.length := by omega
    subst this
    rw [List.drop_length]
    refine cL ?_
    show lW f _ = _
    simp [lW, chk]
  | m + 1, k, hm, hk, hp, hp' => by
    have h1 : k < f.length := by omega
    have hb := WN (List.getElem?_eq_getElem h1) hl rfl hp hp'
    have e1 : f.drop k = f[k] :: f.drop (k + 1) := List.drop_eq_getElem_cons h1
    have hpa : xL f (k + 1) = f[k].At := by simp [xL, List.getD_eq_getElem?_getD, h1]
    rw [e1]
    by_cases h : qO (xL f k) f[k] = true
    · rw [if_pos h] at hb
      rw [cL (show (fun s => lW f s) (k : Int) = _ from hb)]
      simp [chk, h]
    · rw [if_neg h] at hb
      have h' : qO (xL f k) f[k] = false := by simpa using h
      have := mA.1 h'
      rw [eB (show (fun s => lW f s) (k : Int) = _ from hb), QS hl m (k + 1) (by omega) (by omega) (by rw [hpa]; omega) (fun _ => by rw [hpa]; omega), hpa]
      simp [chk, h']

theorem CH (f : List aA) : mT f = some (dD f) := by
  unfold mT dD
  by_cases hl : f.length ≤ 1024
  · have h1 : decide ((1024 : Int) < ((f.length : Nat) : Int)) = false := by simp; omega
    rw [h1, cond_false]
    unfold AO
    have := QS hl f.length 0 rfl (Nat.zero_le _) (by simp [xL]) (by omega)
    simp only [Int.natCast_zero, List.drop_zero, xL] at this
    rw [this]
    cases h : chk (-2) f <;> simp [wD, hl]
  · have h1 : decide ((1024 : Int) < ((f.length : Nat) : Int)) = true := by simp; omega
    rw [h1, cond_true]
    simp [hl]

end Go.Abs
namespace Go.Abs
open Go
def nY (f : List aA) : Int := (f.map aA.Net).sum

theorem JB (j : aA) (f : List aA) : nY (j :: f) = j.Net + nY f := by simp [nY]

def eN (t : Int) : List aA → List aA
  | [] => []
  | j :: r => if t ≤ j.At then [] else j :: eN t r

def aft (t : Int) : List aA → List aA
  | [] => []
  | j :: r => if t ≤ j.At then j :: r else aft t r

theorem EJ (t : Int) : ∀ f : List aA, eN t f ++ aft t f = f
  | [] => rfl
  | j :: r => by
    unfold eN aft
    split
    · rfl
    · simp [EJ t r]

theorem DL {t : Int} : ∀ {f : List aA}, ∀ j ∈ eN t f, j.At < t
  | [], j, h => by simp [eN] at h
  | k :: r, j, h => by
    unfold eN at h
    split at h
    · simp at h
    · rcases List.mem_cons.1 h with rfl | h
      · omega
      · exact DL j h

theorem UP {t l : Int} : ∀ {f : List aA}, iK l f → ∀ j ∈ aft t f, t ≤ j.At
  | [], _, j, h => by simp [aft] at h
  | k :: r, hr, j, h => by
    unfold aft at h
    split at h
    · rcases List.mem_cons.1 h with rfl | h
      · assumption
      · have := (hr.2.above j h).1; omega
    · exact UP hr.2 j h

theorem OW {f : List aA} {t : Int} (h : ∀ j ∈ f, j.At ≤ t) : val f t = nY f := by
  induction f with
  | nil => rfl
  | cons j r ih => rw [bY, JB, if_pos (h j (List.mem_cons_self ..)), ih fun k hk => h k (List.mem_cons_of_mem _ hk)]

theorem MJ (t : Int) : ∀ f : List aA, (eN t f).length ≤ f.length
  | [] => by simp [eN]
  | j :: r => by
    unfold eN
    split
    · simp
    · simpa using MJ t r

theorem VJ {l t p : Int} {f : List aA} (hf : iK l f) (hp : p < t) : val f p = val (eN t f) p := by
  conv => lhs; rw [← EJ t f]
  rw [rI, wM (f := aft t f) (fun j hj => by have := UP hf j hj; omega)]
  omega

theorem aCw {l t p : Int} {f : List aA} (hf : iK l f) (hp : t ≤ p) : val f p = nY (eN t f) + val (aft t f) p := by
  conv => lhs; rw [← EJ t f]
  rw [rI, OW (fun j hj => by have := DL j hj; omega)]

theorem QZ {l t : Int} {f : List aA} (hf : iK l f) : nY (eN t f) = val f (t - 1) := by
  rw [VJ hf (p := t - 1) (t := t) (by omega), OW (fun j hj => by have := DL j hj; omega)]

theorem aAq {t : Int} (f : List aA) : ∀ (l v : Int) (out : List aA), iK l f → v ≤ 1048576 * (2048 - f.length) → -(1048576 * (2048 - f.length)) ≤ v → f.length ≤ 1024 →
    oX (fun (s : List aA × Int) (j : aA) => some (if t ≤ j.At then .inr s else .inl (s.1 ++ [j], IntKind.i64.wrap (s.2 + j.Net)))) (fun s => s) (out, v) f = some (out ++ eN t f, v + nY (eN t f)) := by
  induction f with
  | nil => intro l v out _ _ _ _; simp [oX, eN, nY]
  | cons j r ih =>
    intro l v out h h1 h2 hl
    simp only [List.length_cons] at h1 h2 hl
    have hj1 := h.1
    by_cases hj : t ≤ j.At
    · rw [ID (x := (out, v)) (by simp [hj])]
      simp [eN, hj, nY]
    · have hw : IntKind.i64.wrap (v + j.Net) = v + j.Net := dI (by omega) (by omega)
      rw [HB (s' := (out ++ [j], v + j.Net)) (by simp [hj, hw])]
      rw [ih j.At (v + j.Net) (out ++ [j]) h.2 (by omega) (by omega) (by omega)]
      have : eN t (j :: r) = j :: eN t r := by simp [eN, hj]
      rw [this, JB]
      simp [Int.add_assoc]

def CF (t : Int) (f : List aA) : List aA := eN t f ++ (if nY (eN t f) = 0 then [] else [⟨t, -nY (eN t f)⟩])

def ahead (f : List aA) (t : Int) : List aA × Int :=
  if dD f then (if 1125899906842624 ≤ t then (f, 0) else told (CF t f)) else ([], 2)

theorem VL {f : List aA} (hl : f.length ≤ 1024) : cN f = some f := by
  unfold cN
  exact aQ ⟨by omega, by omega⟩

theorem YT {f : List aA} (hf : dD f = true) (t : Int) : nY (eN t f) ≤ 1073741824 ∧ -1073741824 ≤ nY (eN t f) := by
  rw [QZ (dA.1 hf).2]
  exact CV hf _

theorem aB8 (f : List aA) (t : Int) : wG f t = some (ahead f t) := by
  unfold wG ahead
  rw [CK]
  simp only [Option.bind_some]
  cases h : dD f
  · simp
  · obtain ⟨hl, hr⟩ := dA.1 h
    simp only [Bool.not_true, cond_false, if_true]
    by_cases ht : 1125899906842624 ≤ t
    · simp [ht, VL hl]
    · rw [decide_eq_false ht, cond_false, if_neg ht]
      unfold yC
      have key := RB (l := f) (body := fun s : List aA × Int × Int => kC t f (f.length : Nat) s.1 s.2.1 s.2.2) (fun (s : List aA × Int) i => (s.1, s.2, i)) _ _ (fun i s => s.1.length = i)
        (fun i a s hi ha => by
          obtain ⟨d1, d2, d3, d4⟩ := idx ha (by omega)
          have hlt : i < f.length := (List.getElem?_eq_some_iff.1 ha).1
          have hb : kC t f (f.length : Nat) s.1 s.2 i = some (if t ≤ a.At then .inr s else .inl (s.1 ++ [a], IntKind.i64.wrap (s.2 + a.Net), ((i + 1 : Nat) : Int))) := by
            simp only [kC, d1, cond_true, aQ d2, d3, d4]
            rw [aQ (by simp only [List.length_cons, List.length_nil]; omega)]
            by_cases h : t ≤ a.At <;> simp [h]
          by_cases hh : t ≤ a.At
          · refine ⟨fun s' hs => by simp [hh] at hs, fun x hs => ?_⟩
            simp [hh] at hs; subst hs
            show kC t f (f.length : Nat) s.1 s.2 i = _
            rw [hb, if_pos hh]
          · refine ⟨fun s' hs => ?_, fun x hs => by simp [hh] at hs⟩
            simp [hh] at hs; subst hs
            refine ⟨by simp [hi], ?_⟩
            show kC t f (f.length : Nat) s.1 s.2 i = _
            rw [hb, if_neg hh])
        (fun s _ => by show kC t f (f.length : Nat) s.1 s.2 (f.length : Nat) = _; simp only [kC, cX, cond_false]) (s := ([], 0)) rfl (aAq (t := t) f (-2) 0 [] hr (by omega) (by omega) hl)
      rw [key]
      have hb := YT h t
      have hlen := MJ t f
      have hw : IntKind.i64.wrap (0 - nY (eN t f)) = -nY (eN t f) := by rw [dI (by omega) (by omega)]; omega
      simp only [Option.bind_some, List.nil_append, Int.zero_add, qX, tU, CF, hw, HA]
      by_cases hv : nY (eN t f) = 0
      · simp [hv]
      · rw [aQ (by simp only [List.length_cons, List.length_nil]; omega)]
        simp [hv]

end Go.Abs
namespace Go.Abs
open Go
theorem aAE {t : Int} (f : List aA) : ∀ (l v : Int) (k : Nat), iK l f → v ≤ 1048576 * (2048 - f.length) → -(1048576 * (2048 - f.length)) ≤ v → f.length ≤ 1024 →
    oX (fun (s : Int × Nat) (j : aA) => some (if t ≤ j.At then .inr (s.1, ((s.2 : Nat) : Int)) else .inl (IntKind.i64.wrap (s.1 + j.Net), s.2 + 1))) (fun s => (s.1, ((s.2 : Nat) : Int))) (v, k) f = some (v + nY (eN t f), ((k + (eN t f).length : Nat) : Int)) := by
  induction f with
  | nil => intro l v k _ _ _ _; simp [oX, eN, nY]
  | cons j r ih =>
    intro l v k h h1 h2 hl
    simp only [List.length_cons] at h1 h2 hl
    have hj1 := h.1
    by_cases hj : t ≤ j.At
    · rw [ID (x := (v, ((k : Nat) : Int))) (by simp [hj])]
      simp [eN, hj, nY]
    · have hw : IntKind.i64.wrap (v + j.Net) = v + j.Net := dI (by omega) (by omega)
      rw [HB (s' := (v + j.Net, k + 1)) (by simp [hj, hw])]
      rw [ih j.At (v + j.Net) (k + 1) h.2 (by omega) (by omega) (by omega)]
      have : eN t (j :: r) = j :: eN t r := by simp [eN, hj]
      rw [this, JB, List.length_cons]
      congr 2
      · omega
      · congr 1; omega

def HW (t : Int) (f : List aA) : List aA := (if nY (eN t f) = 0 then [] else [⟨-1, nY (eN t f)⟩]) ++ aft t f

def rest (f : List aA) (t : Int) : List aA × Int :=
  if dD f then (if 1125899906842624 ≤ t then ([], 0) else if t ≤ -1 then (f, 0) else told (HW t f)) else ([], 2)

theorem aAV (t : Int) (f : List aA) : List.drop (eN t f).length f = aft t f := by
  rw [show List.drop (eN t f).length f = List.drop (eN t f).length (eN t f ++ aft t f) by rw [EJ]]
  exact List.drop_left

theorem aCy (f : List aA) (t : Int) : xV f t = some (rest f t) := by
  unfold xV rest
  rw [CK]
  simp only [Option.bind_some]
  cases h : dD f
  · simp
  · obtain ⟨hl, hr⟩ := dA.1 h
    simp only [Bool.not_true, cond_false, if_true]
    by_cases ht : 1125899906842624 ≤ t
    · simp [ht]
    · rw [decide_eq_false ht, cond_false, if_neg ht]
      by_cases ht' : t ≤ -1
      · simp [ht', VL hl]
      · rw [decide_eq_false ht', cond_false, if_neg ht']
        unfold AU
        have key := RB (l := f) (body := fun s : Int × Int => lX f t s.1 s.2) (fun (s : Int × Nat) i => (s.1, i)) _ _ (fun i s => s.2 = i)
          (fun i a s hi ha => by
            obtain ⟨d1, d2, d3, d4⟩ := idx ha (by omega)
            have hb : lX f t s.1 i = some (if t ≤ a.At then .inr (s.1, ((s.2 : Nat) : Int)) else .inl (IntKind.i64.wrap (s.1 + a.Net), ((i + 1 : Nat) : Int))) := by
              simp only [lX, d1, Bool.true_and, d3, d4]
              rw [aQ (fun _ => d2), aQ d2, hi]
              by_cases h : t ≤ a.At
              · have : decide (a.At < t) = false := by simp; omega
                simp [h, this]
              · have : decide (a.At < t) = true := by simp; omega
                simp [h, this]
            by_cases hh : t ≤ a.At
            · refine ⟨fun s' hs => by simp [hh] at hs, fun x hs => ?_⟩
              simp [hh] at hs; subst hs
              show lX f t s.1 i = _
              rw [hb, if_pos hh]
            · refine ⟨fun s' hs => ?_, fun x hs => by simp [hh] at hs⟩
              simp [hh] at hs; subst hs
              refine ⟨by simp [hi], ?_⟩
              show lX f t s.1 i = _
              rw [hb, if_neg hh])
          (fun s hi => by
            show lX f t s.1 (f.length : Nat) = _
            simp only [lX, cX, Bool.false_and, cond_false]
            rw [aQ (fun h => by cases h), hi]) (s := (0, 0)) rfl (aAE (t := t) f (-2) 0 0 hr (by omega) (by omega) hl)
        rw [key]
        have hlen := MJ t f
        have hal : (aft t f).length ≤ f.length := by
          have := congrArg List.length (EJ t f)
          simp only [List.length_append] at this
          omega
        have hto : ∀ n : Nat, Int.toNat (n : Int) = n := fun n => Int.toNat_natCast n
        simp only [Option.bind_some, Nat.zero_add, Int.zero_add, vT, wH, HW, hto, aAV, HA]
        by_cases hv : nY (eN t f) = 0
        · simp only [hv, decide_true, Bool.not_true, cond_false, if_true, List.nil_append]
          rw [aQ ⟨by omega, by omega⟩, aQ (by simp only [List.length_nil]; omega)]
        · simp only [hv, decide_false, Bool.not_false, cond_true, if_false]
          rw [aQ (by simp), aQ ⟨by omega, by omega⟩, aQ (by simp only [List.length_cons, List.length_nil]; omega)]

end Go.Abs
namespace Go.Abs
open Go
def Up (last : Int) : List aA → Prop
  | [] => True
  | j :: r => (last < j.At ∧ j.At < 1125899906842624 ∧ j.Net ≠ 0) ∧ Up j.At r

theorem Up.above : ∀ {f : List aA} {last : Int}, Up last f → ∀ j ∈ f, last < j.At ∧ j.At < 1125899906842624 ∧ j.Net ≠ 0
  | [], _, _, j, hj => by simp at hj
  | a :: r, last, h, j, hj => by
    rcases List.mem_cons.1 hj with rfl | hj
    · exact h.1
    · have := h.2.above j hj
      have h1 := h.1.1
      exact ⟨by omega, this.2⟩

theorem Up.nR {l t : Int} {f : List aA} (h : Up l f) (ht : t ≤ l) : val f t = 0 := wM fun j hj => by have := (h.above j hj).1; omega

theorem Up.weaken {a b : Int} {f : List aA} (h : Up b f) (hab : a ≤ b) : Up a f := by
  cases f with
  | nil => trivial
  | cons j r => exact ⟨⟨by have := h.1.1; omega, h.1.2⟩, h.2⟩

theorem iK.up : ∀ {f : List aA} {last : Int}, iK last f → Up last f
  | [], _, _ => trivial
  | _ :: _, _, h => ⟨⟨h.1.1, h.1.2.1, h.1.2.2.1⟩, h.2.up⟩

theorem Up.ext : ∀ {f g : List aA} {last : Int}, Up last f → Up last g → (∀ t, last < t → t < 1125899906842624 → val f t = val g t) → f = g
  | [], [], _, _, _, _ => rfl
  | j :: r, [], last, hf, _, h => by
    have := h j.At hf.1.1 hf.1.2.1
    rw [bY, if_pos (Int.le_refl _), hf.2.nR (Int.le_refl _), sH] at this
    exact absurd (by omega) hf.1.2.2
  | [], k :: s, last, _, hg, h => by
    have := h k.At hg.1.1 hg.1.2.1
    rw [bY, if_pos (Int.le_refl _), hg.2.nR (Int.le_refl _), sH] at this
    exact absurd (by omega) hg.1.2.2
  | j :: r, k :: s, last, hf, hg, h => by
    have h1 := h j.At hf.1.1 hf.1.2.1
    have h2 := h k.At hg.1.1 hg.1.2.1
    rw [bY, if_pos (Int.le_refl _), hf.2.nR (Int.le_refl _), bY] at h1
    rw [bY, bY k, if_pos (Int.le_refl _), hg.2.nR (Int.le_refl _)] at h2
    have n1 := hf.1.2.2
    have n2 := hg.1.2.2
    have he : j.At = k.At := by
      rcases Int.lt_trichotomy j.At k.At with h3 | h3 | h3
      · rw [if_neg (by omega), hg.2.nR (by omega)] at h1; omega
      · exact h3
      · rw [if_neg (by omega), hf.2.nR (by omega)] at h2; omega
    rw [if_pos (by omega), hg.2.nR (by omega)] at h1
    have hj : j = k := by
      obtain ⟨a, b⟩ := j; obtain ⟨c, d⟩ := k
      simp only at he h1
      simp only [Int.add_zero] at h1
      rw [he, h1]
    subst hj
    rw [hf.2.ext hg.2 (fun t ht ht' => by
      have := h t (by have := hf.1.1; omega) ht'
      rw [bY, bY] at this; omega)]

def Inc (last : Int) : List Int → Prop
  | [] => True
  | p :: r => (last < p ∧ p < 1125899906842624) ∧ Inc p r

theorem Inc.above : ∀ {ps : List Int} {last : Int}, Inc last ps → ∀ p ∈ ps, last < p ∧ p < 1125899906842624
  | [], _, _, j, hj => by simp at hj
  | a :: r, last, h, j, hj => by
    rcases List.mem_cons.1 hj with rfl | hj
    · exact h.1
    · have := h.2.above j hj
      have h1 := h.1.1
      exact ⟨by omega, this.2⟩

theorem DX : ∀ {l : List (Int × Int)} {last was : Int}, Inc last (l.map Prod.fst) → Up last (kM was l)
  | [], _, _, _ => trivial
  | x :: r, last, was, h => by
    simp only [kM]
    have ih : Up x.1 (kM x.2 r) := DX h.2
    have h1 : last < x.1 ∧ x.1 < 1125899906842624 := h.1
    unfold emit
    split
    · exact ih.weaken (by omega)
    · exact ⟨⟨h1.1, h1.2, by simp only; omega⟩, ih⟩

theorem JQ {F : Int → Int} : ∀ {ps : List Int} {last : Int}, Inc last ps → (∀ s t, last ≤ s → s ≤ t → t < 1125899906842624 → (∀ p ∈ ps, ¬ (s < p ∧ p ≤ t)) → F s = F t) →
    ∀ t, last ≤ t → t < 1125899906842624 → val (kM (F last) (ps.map fun p => (p, F p))) t = F t - F last
  | [], last, _, hF, t, h1, h2 => by
    have := hF last t (Int.le_refl _) h1 h2 (by simp)
    simp [kM, val, this]
  | p :: r, last, hi, hF, t, h1, h2 => by
    simp only [List.map_cons, kM]
    rw [rI, SN]
    by_cases hp : p ≤ t
    · rw [if_pos hp, JQ (F := F) hi.2 (fun s t' hs hst ht' hn => hF s t' (by have := hi.1.1; omega) hst ht' (fun q hq => by
        rcases List.mem_cons.1 hq with rfl | hq
        · omega
        · exact hn q hq)) t hp h2]
      omega
    · have := hF last t (Int.le_refl _) h1 h2 (fun q hq => by
        rcases List.mem_cons.1 hq with rfl | hq
        · omega
        · have := (hi.2.above q hq).1; omega)
      rw [if_neg hp, Up.nR (DX (last := p) (by rw [List.map_map]; simpa [Function.comp_def] using hi.2)) (by omega)]
      omega

theorem iK.restrict {l m : Int} {k : aA} {g : List aA} (h : iK l (k :: g)) (hm : m < k.At) : iK m (k :: g) := ⟨⟨hm, h.1.2⟩, h.2⟩

theorem aBw : ∀ (n : Nat) (f g : List aA) (a b last : Int), f.length + g.length ≤ n → iK last f → iK last g → Inc last ((merge f g a b).map Prod.fst) := by
  intro n
  induction n with
  | zero =>
    intro f g a b last hn _ _
    have h1 : f = [] := List.length_eq_zero_iff.1 (by omega)
    have h2 : g = [] := List.length_eq_zero_iff.1 (by omega)
    subst h1; subst h2
    rw [CE]; trivial
  | succ n ih =>
    intro f g a b last hn hf hg
    rcases f with _ | ⟨j, f⟩ <;> rcases g with _ | ⟨k, g⟩
    · rw [CE]; trivial
    · rw [OR]
      simp only [List.length_cons, List.length_nil] at hn
      exact ⟨⟨hg.1.1, hg.1.2.1⟩, ih _ _ _ _ _ (by simp only [List.length_nil]; omega) trivial hg.2⟩
    · rw [OX]
      simp only [List.length_cons, List.length_nil] at hn
      exact ⟨⟨hf.1.1, hf.1.2.1⟩, ih _ _ _ _ _ (by simp only [List.length_nil]; omega) hf.2 trivial⟩
    · simp only [List.length_cons] at hn
      by_cases h : j.At < k.At
      · rw [merge_lt h]
        exact ⟨⟨hf.1.1, hf.1.2.1⟩, ih _ _ _ _ _ (by simp only [List.length_cons]; omega) hf.2 (hg.restrict h)⟩
      · by_cases h' : k.At < j.At
        · rw [MT h']
          exact ⟨⟨hg.1.1, hg.1.2.1⟩, ih _ _ _ _ _ (by simp only [List.length_cons]; omega) (hf.restrict h') hg.2⟩
        · have he : j.At = k.At := by omega
          rw [MW he]
          exact ⟨⟨hf.1.1, hf.1.2.1⟩, ih _ _ _ _ _ (by omega) hf.2 (by rw [he]; exact hg.2)⟩

theorem aCE {OP : Int → Int → Int} {f g : List aA} (hf : dD f = true) (hg : dD g = true) : Up (-2) (comb OP f g) := by
  refine DX ?_
  rw [List.map_map]
  exact aBw _ f g 0 0 (-2) (Nat.le_refl _) (dA.1 hf).2 (dA.1 hg).2

theorem aCP {OP : Int → Int → Int} (h0 : OP 0 0 = 0) {f g h : List aA} (hf : dD f = true) (hg : dD g = true) (hh : Up (-2) h) (hv : ∀ t, -2 < t → t < 1125899906842624 → val h t = OP (val f t) (val g t)) : comb OP f g = h :=
  (aCE hf hg).ext hh fun t h1 h2 => by rw [aCb h0 hf hg, hv t h1 h2]

theorem VH {f : List aA} (h : dD f = true) : Up (-2) f := (dA.1 h).2.up

theorem MS {F : Int → Int} (h2 : F (-2) = 0) {ps : List Int} (hi : Inc (-2) ps) (hF : ∀ s t, -2 ≤ s → s ≤ t → t < 1125899906842624 → (∀ p ∈ ps, ¬ (s < p ∧ p ≤ t)) → F s = F t) {h : List aA} (hh : Up (-2) h) (hv : ∀ t, -2 < t → t < 1125899906842624 → val h t = F t) :
    kM 0 (ps.map fun p => (p, F p)) = h := by
  refine (DX (by rw [List.map_map]; simpa [Function.comp_def] using hi)).ext hh fun t h3 h4 => ?_
  have := JQ hi hF t (by omega) h4
  rw [h2] at this
  rw [this, hv t h3 h4]; omega

end Go.Abs
namespace Go.Abs
open Go
theorem LA {f : List aA} (t : Int) (hb : ∀ j ∈ f, j.Net ≤ 1048576 ∧ -1048576 ≤ j.Net) (hl : f.length ≤ 1099511627776) : nQ f t = some (val f t) := by
  unfold nQ wY
  rw [nC (l := f) (body := fun s : Int × Int => jO f t s.1 s.2) (fun v i => (v, i)) (fun v r => v + val r t)
    (fun v r => (∀ j ∈ r, j.Net ≤ 1048576 ∧ -1048576 ≤ j.Net) ∧ r.length ≤ 1099511627776 ∧ v ≤ 1048576 * (1099511627776 - r.length) ∧ -(1048576 * (1099511627776 - r.length)) ≤ v) 0 ?_ ?_ ?_]
  · simp [sI]
  · intro i a r v ha ⟨h1, h2, h3, h4⟩
    obtain ⟨d1, d2, d3, d4⟩ := idx ha (by omega)
    have hj := h1 a (List.mem_cons_self ..)
    simp only [List.length_cons] at h2 h3 h4
    left
    by_cases h : a.At ≤ t
    · refine ⟨v + a.Net, ?_, ⟨fun j hj => h1 j (List.mem_cons_of_mem _ hj), by omega, by omega, by omega⟩, ?_⟩
      · show jO f t v i = _
        have hw : IntKind.i64.wrap (v + a.Net) = v + a.Net := dI (by omega) (by omega)
        simp only [jO, qB, d1, cond_true, aQ d2, d3, d4, h, decide_true, hw]
      · show v + a.Net + val r t = v + val (a :: r) t
        rw [bY, if_pos h]; omega
    · refine ⟨v, ?_, ⟨fun j hj => h1 j (List.mem_cons_of_mem _ hj), by omega, by omega, by omega⟩, ?_⟩
      · show jO f t v i = _
        simp only [jO, qB, d1, cond_true, aQ d2, d3, d4, h, decide_false, cond_false]
      · show v + val r t = v + val (a :: r) t
        rw [bY, if_neg h]; omega
  · intro s _
    show jO f t s (f.length : Nat) = _
    simp only [jO, cX, cond_false]
    simp [val]
  · exact ⟨hb, hl, by omega, by omega⟩

theorem MR {f : List aA} (h : dD f = true) : ∀ j ∈ f, j.Net ≤ 1048576 ∧ -1048576 ≤ j.Net := fun j hj => by have := (dA.1 h).2.above j hj; omega

theorem JO {f : List aA} (h : dD f = true) (t : Int) : nQ f t = some (val f t) :=
  LA t (MR h) (by have := (dA.1 h).1; omega)

def lA (t : Int) : List Int → List Int
  | [] => [t]
  | p :: r => if p = t then p :: r else if t < p then t :: p :: r else p :: lA t r

theorem zG {t x : Int} : ∀ {ps : List Int}, x ∈ lA t ps ↔ x = t ∨ x ∈ ps
  | [] => by simp [lA]
  | p :: r => by
    unfold lA
    split
    · rename_i h; subst h; simp
    · split
      · simp
      · simp only [List.mem_cons, zG (ps := r)]; constructor <;> (intro h; rcases h with h | h | h <;> simp [h])

theorem zK {t : Int} : ∀ {ps : List Int} {last : Int}, Inc last ps → last < t → t < 1125899906842624 → Inc last (lA t ps)
  | [], last, _, h1, h2 => ⟨⟨h1, h2⟩, trivial⟩
  | p :: r, last, h, h1, h2 => by
    unfold lA
    split
    · exact h
    · split
      · rename_i h3 h4
        exact ⟨⟨h1, h2⟩, ⟨h4, h.1.2⟩, h.2⟩
      · exact ⟨h.1, zK h.2 (by omega) h2⟩

theorem zI {t : Int} : ∀ {ps : List Int}, (lA t ps).length ≤ ps.length + 1
  | [] => by simp [lA]
  | p :: r => by
    unfold lA
    split
    · simp
    · split
      · simp
      · simp only [List.length_cons]; have := zI (t := t) (ps := r); omega

theorem JP {t : Int} : ∀ {ps : List Int}, (∀ x ∈ ps, x < t) → lA t ps = ps ++ [t]
  | [], _ => rfl
  | p :: r, h => by
    have := h p (List.mem_cons_self ..)
    unfold lA
    rw [if_neg (by omega), if_neg (by omega), JP (fun x hx => h x (List.mem_cons_of_mem _ hx))]; rfl

theorem NB {t : Int} : ∀ {ps : List Int} {last : Int}, Inc last ps → t ∈ ps → lA t ps = ps
  | [], _, _, h => by simp at h
  | p :: r, last, hi, h => by
    unfold lA
    split
    · rfl
    · rename_i hp
      rcases List.mem_cons.1 h with h | h
      · exact absurd h.symm hp
      · have := (hi.2.above t h).1
        rw [if_neg (by omega), NB hi.2 h]

theorem aAw {l out : List Int} {t a : Int} {put : Bool} {i : Nat} (ha : l[i]? = some a) (hl : l.length ≤ 1099511627776) (ho : out.length ≤ 2199023255552) :
    gZ l t out put i = some (if a = t then .inr (.inr l) else if t < a ∧ put = false then .inl (out ++ [t] ++ [a], true, ((i + 1 : Nat) : Int)) else .inl (out ++ [a], put, ((i + 1 : Nat) : Int))) := by
  obtain ⟨d1, d2, d3, d4⟩ := idx ha (by omega)
  simp only [gZ, uL, d1, cond_true, aQ d2, d3, d4]
  by_cases h1 : a = t
  · simp [h1]
  · rw [decide_eq_false h1, cond_false, if_neg h1]
    by_cases h2 : t < a
    · cases put
      · simp only [h2, decide_true, Bool.not_false, Bool.and_self, cond_true, and_self, if_true]
        rw [aQ (by simp only [List.length_cons, List.length_nil]; omega), aQ (by simp only [List.length_append, List.length_cons, List.length_nil]; omega)]
      · simp only [h2, decide_true, Bool.not_true, Bool.and_false, cond_false, and_false, if_false, reduceCtorEq]
        rw [aQ (by simp only [List.length_cons, List.length_nil]; omega)]
    · simp only [h2, decide_false, Bool.false_and, cond_false, false_and, if_false]
      rw [aQ (by simp only [List.length_cons, List.length_nil]; omega)]

theorem KO {l : List Int} {last t : Int} (hi : Inc last l) (hl : l.length ≤ 1099511627776) : hU l t = some (lA t l) := by
  unfold hU yN
  rw [nC (l := l) (body := fun s : List Int × Bool × Int => gZ l t s.1 s.2.1 s.2.2) (fun (s : List Int × Bool) i => (s.1, s.2, i))
    (fun s r => if s.2 then .inl (s.1 ++ r, true) else if t ∈ r then .inr l else if (∃ x ∈ r, t < x) then .inl (s.1 ++ lA t r, true) else .inl (s.1 ++ r, false))
    (fun s r => (∃ m, Inc m r) ∧ (s.2 = true → ∀ x ∈ r, t < x) ∧ r.length ≤ 1099511627776 ∧ s.1.length + r.length ≤ 1099511627777 + (if s.2 then 1 else 0)) ([], false) ?_ ?_ ?_]
  · simp only [Bool.false_eq_true, if_false, List.nil_append, Option.bind_some]
    by_cases h1 : t ∈ l
    · simp [h1, NB hi h1]
    · simp only [h1, if_false]
      by_cases h2 : ∃ x ∈ l, t < x
      · simp only [h2, if_true]
        simp [rF, rE]
      · simp only [h2, if_false]
        have : ∀ x ∈ l, x < t := fun x hx => by
          have h3 : ¬ t < x := fun h => h2 ⟨x, hx, h⟩
          have h4 : x ≠ t := fun h => h1 (h ▸ hx)
          omega
        rw [JP this]
        simp only [Sum.elim_inl, rF, rE, Bool.not_false, cond_true]
        rw [aQ (by simp only [List.length_cons, List.length_nil]; omega)]
  · rintro i a r ⟨out, put⟩ ha ⟨⟨m, hm⟩, h1, h2, h3⟩
    simp only [List.length_cons] at h2 h3
    have hb := aAw (t := t) (put := put) (out := out) ha hl (by split at h3 <;> omega)
    have hab : ∀ x ∈ r, a < x := fun x hx => (hm.2.above x hx).1
    cases put
    · by_cases e : a = t
      · right
        show gZ l t out false i = _
        rw [hb]; simp [e]
      · left
        by_cases e2 : t < a
        · have hnt : t ∉ a :: r := fun h => by
            rcases List.mem_cons.1 h with h | h
            · exact e h.symm
            · have := hab t h; omega
          refine ⟨(out ++ [t] ++ [a], true), ?_, ⟨⟨a, hm.2⟩, fun _ x hx => by have := hab x hx; omega, by omega, by simp only [List.length_append, List.length_cons, List.length_nil, Bool.false_eq_true, if_false, if_true] at h3 ⊢; omega⟩, ?_⟩
          · show gZ l t out false i = _
            rw [hb]; simp [e, e2]
          · have hex : ∃ x ∈ a :: r, t < x := ⟨a, List.mem_cons_self .., e2⟩
            simp only [if_true, Bool.false_eq_true, if_false, hnt, hex]
            simp [lA, e, e2]
        · refine ⟨(out ++ [a], false), ?_, ⟨⟨a, hm.2⟩, fun h => absurd h (by simp), by omega, by simp only [List.length_append, List.length_cons, List.length_nil, Bool.false_eq_true, if_false] at h3 ⊢; omega⟩, ?_⟩
          · show gZ l t out false i = _
            rw [hb]; simp [e, e2]
          · have i1 : (t ∈ a :: r) ↔ t ∈ r := by simp only [List.mem_cons]; constructor; (intro h; rcases h with h | h; exact absurd h.symm e; exact h); exact Or.inr
            have i2 : (∃ x ∈ a :: r, t < x) ↔ (∃ x ∈ r, t < x) := by
              constructor
              · rintro ⟨x, hx, hx'⟩
                rcases List.mem_cons.1 hx with rfl | hx
                · exact absurd hx' e2
                · exact ⟨x, hx, hx'⟩
              · rintro ⟨x, hx, hx'⟩; exact ⟨x, List.mem_cons_of_mem _ hx, hx'⟩
            simp only [Bool.false_eq_true, if_false, i1, i2]
            simp [lA, e, e2]
    · left
      have ht := h1 rfl a (List.mem_cons_self ..)
      refine ⟨(out ++ [a], true), ?_, ⟨⟨a, hm.2⟩, fun _ x hx => h1 rfl x (List.mem_cons_of_mem _ hx), by omega, by simp only [List.length_append, List.length_cons, List.length_nil, if_true] at h3 ⊢; omega⟩, ?_⟩
      · show gZ l t out true i = _
        have : a ≠ t := by omega
        rw [hb]; simp [this]
      · simp
  · rintro ⟨out, put⟩ _
    show gZ l t out put (l.length : Nat) = _
    simp only [gZ, cX, cond_false]
    cases put <;> simp
  · exact ⟨⟨last, hi⟩, fun h => absurd h (by simp), hl, by simp only [List.length_nil]; simp; omega⟩

def nT (ps : List Int) (f : List aA) : List Int := f.foldl (fun ps j => lA j.At ps) ps

theorem BG {x : Int} : ∀ {f : List aA} {ps : List Int}, x ∈ nT ps f ↔ x ∈ ps ∨ ∃ j ∈ f, j.At = x
  | [], ps => by simp [nT]
  | k :: r, ps => by
    have := BG (x := x) (f := r) (ps := lA k.At ps)
    unfold nT at this ⊢
    rw [List.foldl_cons, this, zG]
    constructor
    · rintro ((h | h) | ⟨j, h, h'⟩)
      · exact Or.inr ⟨k, List.mem_cons_self .., h.symm⟩
      · exact Or.inl h
      · exact Or.inr ⟨j, List.mem_cons_of_mem _ h, h'⟩
    · rintro (h | ⟨j, h, h'⟩)
      · exact Or.inl (Or.inr h)
      · rcases List.mem_cons.1 h with rfl | h
        · exact Or.inl (Or.inl h'.symm)
        · exact Or.inr ⟨j, h, h'⟩

theorem DR : ∀ {f : List aA} {ps : List Int} {last : Int}, Inc last ps → (∀ j ∈ f, last < j.At ∧ j.At < 1125899906842624) → Inc last (nT ps f)
  | [], _, _, h, _ => h
  | k :: r, ps, last, h, hf => by
    have hk := hf k (List.mem_cons_self ..)
    exact DR (f := r) (zK h hk.1 hk.2) fun j hj => hf j (List.mem_cons_of_mem _ hj)

theorem DV : ∀ {f : List aA} {ps : List Int}, (nT ps f).length ≤ ps.length + f.length
  | [], ps => by simp [nT]
  | k :: r, ps => by
    have := DV (f := r) (ps := lA k.At ps)
    have h2 := zI (t := k.At) (ps := ps)
    unfold nT at this ⊢
    rw [List.foldl_cons]; simp only [List.length_cons]; omega

theorem LH {β : Type} {f : List aA} {body : List Int × Int → Option ((List Int × Int) ⊕ List Int)} {ps : List Int} (hb : ∀ (i : Nat) a ps, f[i]? = some a → body (ps, (i : Int)) = (hU ps a.At).bind fun x => some (.inl (x, ((i + 1 : Nat) : Int))))
    (he : ∀ ps, body (ps, (f.length : Nat)) = some (.inr ps)) (hi : Inc (-2) ps) (hf : ∀ j ∈ f, -2 < j.At ∧ j.At < 1125899906842624) (hl : ps.length + f.length ≤ 1099511627776) : lp body (ps, 0) = some (nT ps f) := by
  refine nC (l := f) (fun ps i => (ps, i)) (fun ps r => nT ps r) (fun ps r => Inc (-2) ps ∧ (∀ j ∈ r, -2 < j.At ∧ j.At < 1125899906842624) ∧ ps.length + r.length ≤ 1099511627776) ps ?_ ?_ ⟨hi, hf, hl⟩
  · rintro i a r ps ha ⟨h1, h2, h3⟩
    have hk := h2 a (List.mem_cons_self ..)
    have hlen := zI (t := a.At) (ps := ps)
    simp only [List.length_cons] at h3
    left
    refine ⟨lA a.At ps, ?_, ⟨zK h1 hk.1 hk.2, fun j hj => h2 j (List.mem_cons_of_mem _ hj), by omega⟩, rfl⟩
    rw [hb i a ps ha, KO h1 (by omega)]; rfl
  · intro ps _; exact he ps

theorem QD {f g : List aA} (hf : ∀ j ∈ f, -2 < j.At ∧ j.At < 1125899906842624) (hg : ∀ j ∈ g, -2 < j.At ∧ j.At < 1125899906842624) (hl : f.length + g.length ≤ 1099511627776) : pY f g = some (nT (nT [] f) g) := by
  unfold pY vD
  rw [LH (β := Unit) (f := f) (body := fun s : List Int × Int => lT f g s.1 s.2) ?_ ?_ (ps := []) (show Inc (-2) [] from trivial) hf (by simp only [List.length_nil]; omega)]
  · simp only [Option.bind_some, rK, uZ]
    rw [LH (β := Unit) (f := g) (body := fun s : List Int × Int => lR g s.1 s.2) ?_ ?_ (DR (ps := []) (show Inc (-2) [] from trivial) hf) hg (by have := DV (f := f) (ps := []); simp only [List.length_nil] at this; omega)]
    · rfl
    · intro i a ps ha
      obtain ⟨d1, d2, d3, d4⟩ := idx ha (by omega)
      show lR g ps i = _
      simp only [lR, d1, cond_true, aQ d2, d3, d4]
    · intro ps
      show lR g ps _ = _
      simp only [lR, cX, cond_false]
  · intro i a ps ha
    obtain ⟨d1, d2, d3, d4⟩ := idx ha (by omega)
    show lT f g ps i = _
    simp only [lT, d1, cond_true, aQ d2, d3, d4]
  · intro ps
    show lT f g ps _ = _
    simp only [lT, cX, cond_false]

theorem HE {ps : List Int} {F : Int → Int} (hl : ps.length ≤ 1099511627776) (hb : ∀ p ∈ ps, -2305843009213693952 ≤ F p ∧ F p ≤ 2305843009213693952) :
    qI ps (ps.map F) = some (told (kM 0 (ps.map fun p => (p, F p)))) := by
  unfold qI yV
  rw [nC (l := ps) (body := fun s : List aA × Int × Int => nL ps (ps.map F) s.1 s.2.1 s.2.2) (fun (s : List aA × Int) i => (s.1, s.2, i))
    (fun s r => s.1 ++ kM s.2 (r.map fun p => (p, F p))) (fun s r => (∀ p ∈ r, -2305843009213693952 ≤ F p ∧ F p ≤ 2305843009213693952) ∧ (-2305843009213693952 ≤ s.2 ∧ s.2 ≤ 2305843009213693952) ∧ s.1.length + r.length ≤ 1099511627776) ([], 0) ?_ ?_ ?_]
  · simp only [List.nil_append, Option.bind_some, tP, CH, told]
    cases h : dD (kM 0 (ps.map fun p => (p, F p))) <;> simp
  · rintro i a r ⟨out, was⟩ ha ⟨h1, h2, h3⟩
    simp only [List.length_cons] at h2 h3
    obtain ⟨d1, d2, d3, d4⟩ := idx ha (by omega)
    have ha' : (ps.map F)[i]? = some (F a) := by rw [List.getElem?_map, ha]; rfl
    obtain ⟨_, e2, e3, _⟩ := idx ha' (by rw [List.length_map]; omega)
    have hF := h1 a (List.mem_cons_self ..)
    left
    refine ⟨(out ++ emit a (F a) was, F a), ?_, ⟨fun p hp => h1 p (List.mem_cons_of_mem _ hp), hF, ?_⟩, ?_⟩
    · show nL ps (ps.map F) out was i = _
      have hw : IntKind.i64.wrap (F a - was) = F a - was := dI (by omega) (by omega)
      simp only [nL, uD, d1, cond_true, aQ d2, aQ e2, e3, d3, d4, hw]
      unfold emit
      by_cases h : F a = was
      · simp [h]
      · simp only [h, decide_false, Bool.not_false, cond_true, if_false]
        rw [aQ (by simp only [List.length_cons, List.length_nil]; omega)]
    · have : (emit a (F a) was).length ≤ 1 := by unfold emit; split <;> simp
      simp only [List.length_append]; omega
    · simp [kM]
  · rintro ⟨out, was⟩ _
    show nL ps (ps.map F) out was (ps.length : Nat) = _
    simp only [nL, cX, cond_false]
    simp [kM]
  · exact ⟨hb, ⟨by omega, by omega⟩, by simp only [List.length_nil]; omega⟩

theorem FV {ps : List Int} {F : Int → Int} {body : List Int × Int → Option ((List Int × Int) ⊕ List Int)} (hb : ∀ (i : Nat) a vs, ps[i]? = some a → a ∈ ps → vs.length ≤ 1099511627776 → body (vs, (i : Int)) = some (.inl (vs ++ [F a], ((i + 1 : Nat) : Int))))
    (he : ∀ vs, body (vs, (ps.length : Nat)) = some (.inr vs)) (hl : ps.length ≤ 1099511627776) : lp body ([], 0) = some (ps.map F) := by
  rw [nC (l := ps) (fun vs i => (vs, i)) (fun vs r => vs ++ r.map F) (fun vs r => vs.length + r.length ≤ 1099511627776) [] ?_ ?_ (by simpa using hl)]
  · simp
  · rintro i a r vs ha h1
    simp only [List.length_cons] at h1
    left
    refine ⟨vs ++ [F a], hb i a vs ha (List.mem_of_getElem? ha) (by omega), by simp only [List.length_append, List.length_cons, List.length_nil]; omega, by simp⟩
  · intro vs _; simpa using he vs

end Go.Abs
namespace Go.Abs
open Go
def mn (a b : Int) : Int := if b < a then b else a

def parts (v : Int) : List aA → List Int
  | [] => []
  | j :: r => (v + j.Net) :: parts (v + j.Net) r

def ND (f : List aA) : Int := (f.map fun j => val f j.At).foldl mn (val f (-1))

theorem parts_eq : ∀ {f : List aA} {l v : Int}, iK l f → parts v f = f.map fun j => v + val f j.At
  | [], _, _, _ => rfl
  | j :: r, l, v, h => by
    simp only [parts, List.map_cons]
    rw [parts_eq h.2, bY, if_pos (Int.le_refl _), h.2.nR (Int.le_refl _), Int.add_zero]
    congr 1
    apply List.map_congr_left
    intro k hk
    have := (h.2.above k hk).1
    rw [bY, if_pos (by omega)]; omega

theorem aA1 {j : aA} {r : List aA} (h : iK (-2) (j :: r)) : val (j :: r) (-1) = if j.At = -1 then j.Net else 0 := by
  have := h.1.1
  by_cases e : j.At = -1
  · rw [if_pos e, bY, if_pos (by omega), h.2.nR (by omega)]; omega
  · rw [if_neg e, wM]
    intro k hk
    rcases List.mem_cons.1 hk with rfl | hk
    · omega
    · have := (h.2.above k hk).1; omega

theorem OQ {f : List aA} (hf : dD f = true) (m : Int) (hm : -1125899906842624 ≤ m ∧ m ≤ 1125899906842624) : uE 0 m f (f.length : Nat) 0 = some ((f.map fun j => val f j.At).foldl mn m) := by
  obtain ⟨hl, hr⟩ := dA.1 hf
  unfold uE
  rw [nC (l := f) (body := fun s : Int × Int × Int => nF f (f.length : Nat) s.1 s.2.1 s.2.2) (fun (s : Int × Int) i => (s.1, s.2, i)) (fun s r => (parts s.1 r).foldl mn s.2)
    (fun s r => (∀ j ∈ r, j.Net ≤ 1048576 ∧ -1048576 ≤ j.Net) ∧ r.length ≤ 1024 ∧ s.1 ≤ 1048576 * (1024 - r.length) ∧ -(1048576 * (1024 - r.length)) ≤ s.1) (0, m) ?_ ?_ ?_]
  · simp only [Option.bind_some, tQ, parts_eq hr, Int.zero_add]
  · rintro i a r ⟨v, m⟩ ha ⟨h1, h2, h3, h4⟩
    obtain ⟨d1, d2, d3, d4⟩ := idx ha (by omega)
    have hj := h1 a (List.mem_cons_self ..)
    simp only [List.length_cons] at h2 h3 h4
    have hw : IntKind.i64.wrap (v + a.Net) = v + a.Net := dI (by omega) (by omega)
    left
    refine ⟨(v + a.Net, mn m (v + a.Net)), ?_, ⟨fun j hj => h1 j (List.mem_cons_of_mem _ hj), by omega, by simp only; omega, by simp only; omega⟩, rfl⟩
    show nF f (f.length : Nat) v m i = _
    simp only [nF, d1, cond_true, aQ d2, d3, d4, hw, mn]
  · rintro ⟨v, m⟩ _
    show nF f (f.length : Nat) v m (f.length : Nat) = _
    simp only [nF, cX, cond_false, parts, List.foldl_nil]
  · exact ⟨MR hf, hl, by simp only; omega, by simp only; omega⟩

theorem aBV (f : List aA) : vY f = some (if dD f then ND f else 0) := by
  unfold vY
  rw [CK]
  cases h : dD f
  · simp
  · cases f with
    | nil => simp [ND, val]
    | cons j r =>
      obtain ⟨hl, hr⟩ := dA.1 h
      have hne : decide (((List.length (j :: r) : Nat) : Int) = 0) = false := by simp; omega
      simp only [Option.bind_some, Bool.not_true, Bool.false_or, hne, cond_false, aQ HO, DW, if_true]
      have hj := hr.1
      unfold ND
      rw [aA1 hr]
      by_cases e : j.At = -1
      · simp only [e, decide_true, cond_true, if_true, qV]
        exact OQ h j.Net (by omega)
      · simp only [e, decide_false, cond_false, if_false, qV]
        exact OQ h 0 (by omega)

theorem vN {s t : Int} (hst : s ≤ t) : ∀ {f : List aA}, (∀ j ∈ f, ¬ (s < j.At ∧ j.At ≤ t)) → val f s = val f t
  | [], _ => rfl
  | j :: r, h => by
    have hj := h j (List.mem_cons_self ..)
    rw [bY, bY, vN hst (fun k hk => h k (List.mem_cons_of_mem _ hk))]
    by_cases e : j.At ≤ s
    · rw [if_pos e, if_pos (by omega)]
    · rw [if_neg e, if_neg (by omega)]

theorem DB {f : List aA} (h : dD f = true) : ∀ j ∈ f, -2 < j.At ∧ j.At < 1125899906842624 := fun j hj => by have := (dA.1 h).2.above j hj; omega

theorem aDt {f : List aA} (h : dD f = true) : val f (-2) = 0 := (dA.1 h).2.nR (Int.le_refl _)

def zR (f : List aA) : List aA := f.map fun j => ⟨j.At, -j.Net⟩

theorem QJ : ∀ {f : List aA} {l : Int}, iK l f → iK l (zR f)
  | [], _, _ => trivial
  | j :: r, l, h => ⟨⟨h.1.1, h.1.2.1, by simp only; have := h.1; omega, by simp only; have := h.1; omega, by simp only; have := h.1; omega⟩, QJ h.2⟩

theorem TM : ∀ {f : List aA} {t : Int}, val (zR f) t = -val f t
  | [], _ => rfl
  | j :: r, t => by
    have := TM (f := r) (t := t)
    unfold zR at this ⊢
    rw [List.map_cons, bY, this, bY]
    simp only
    split <;> omega

theorem VM {f : List aA} (h : dD f = true) : dD (zR f) = true := dA.2 ⟨by rw [zR, List.length_map]; exact (dA.1 h).1, QJ (dA.1 h).2⟩

theorem OV : dD [] = true := by decide

theorem aDq (f : List aA) : two (fun a _ => -a) f [] = if dD f then (zR f, 0) else ([], 2) := by
  unfold two
  cases h : dD f
  · simp
  · rw [OV, aCP (h := zR f) (by rfl) h OV (VH (VM h)) (fun t _ _ => TM)]
    simp [told, VM h]

theorem aAA (f : List aA) : xK f = some (if dD f then (zR f, 0) else ([], 2)) := by
  unfold xK
  rw [CH]
  cases h : dD f
  · simp
  · obtain ⟨hl, hr⟩ := dA.1 h
    simp only [Option.bind_some, Bool.not_true, cond_false, if_true, AA]
    rw [nC (l := f) (body := fun s : List aA × Int => oT f s.1 s.2) (fun out i => (out, i)) (fun out r => out ++ zR r) (fun out r => (∀ j ∈ r, j.Net ≤ 1048576 ∧ -1048576 ≤ j.Net) ∧ out.length + r.length ≤ 1024) [] ?_ ?_ ⟨MR h, by simpa using hl⟩]
    · simp [wJ]
    · rintro i a r out ha ⟨h1, h2⟩
      obtain ⟨d1, d2, d3, d4⟩ := idx ha (by omega)
      have hj := h1 a (List.mem_cons_self ..)
      simp only [List.length_cons] at h2
      left
      refine ⟨out ++ [⟨a.At, -a.Net⟩], ?_, ⟨fun j hj => h1 j (List.mem_cons_of_mem _ hj), by simp only [List.length_append, List.length_cons, List.length_nil]; omega⟩, by simp [zR]⟩
      show oT f out i = _
      have hw : IntKind.i64.wrap (0 - a.Net) = -a.Net := by rw [dI (by omega) (by omega)]; omega
      simp only [oT, d1, cond_true, aQ d2, d3, d4, hw]
      exact aQ (by simp only [List.length_cons, List.length_nil]; omega)
    · intro out _
      show oT f out _ = _
      simp only [oT, cX, cond_false]
      simp [zR]

theorem YO {t n : Int} (hn : n ≠ 0) (ht : t < 1125899906842624) : ∀ {a : List aA} {l : Int}, Up l a → (∀ j ∈ a, j.At < t) → l < t → Up l (a ++ [⟨t, n⟩])
  | [], _, _, _, h => ⟨⟨h, ht, hn⟩, trivial⟩
  | j :: r, l, h, hb, hl => ⟨h.1, YO hn ht h.2 (fun k hk => hb k (List.mem_cons_of_mem _ hk)) (hb j (List.mem_cons_self ..))⟩

theorem KV {t : Int} : ∀ {f : List aA} {l : Int}, iK l f → Up l (eN t f)
  | [], _, _ => trivial
  | j :: r, l, h => by
    unfold eN
    split
    · trivial
    · exact ⟨⟨h.1.1, h.1.2.1, h.1.2.2.1⟩, KV h.2⟩

theorem SO {t l' : Int} (hl : l' < t) : ∀ {f : List aA} {l : Int}, iK l f → Up l' (aft t f)
  | [], _, _ => trivial
  | j :: r, l, h => by
    unfold aft
    split
    · exact (h.restrict (m := l') (by omega)).up
    · exact SO hl h.2

theorem aBa {f : List aA} {t : Int} (hf : dD f = true) (ht : t < 1125899906842624) : Up (-2) (CF t f) := by
  have hr := (dA.1 hf).2
  unfold CF
  split
  · simpa using KV hr
  · rename_i hn
    refine YO (by omega) ht (KV hr) DL ?_
    cases hfo : eN t f with
    | nil => rw [hfo] at hn; exact absurd rfl hn
    | cons j r =>
      have h1 := DL (t := t) (f := f) j (by rw [hfo]; exact List.mem_cons_self ..)
      have h2 := KV (t := t) hr
      rw [hfo] at h2
      have := h2.1.1
      omega

theorem aAk {f : List aA} {t : Int} (hf : dD f = true) (p : Int) : val (CF t f) p = if p < t then val f p else 0 := by
  unfold CF
  by_cases hp : p < t
  · rw [if_pos hp, VJ (dA.1 hf).2 hp, rI]
    split
    · simp [val]
    · rw [bY, sH]; simp; omega
  · rw [if_neg hp, rI, OW (fun j hj => by have := DL j hj; omega)]
    split
    · rename_i h0; rw [h0]; simp [val]
    · rw [bY, sH, if_pos (show (⟨t, -nY (eN t f)⟩ : aA).At ≤ p by show t ≤ p; omega)]; simp; omega

theorem aB9 {f : List aA} {t : Int} (hf : dD f = true) (ht : -1 < t) : Up (-2) (HW t f) := by
  have hr := (dA.1 hf).2
  unfold HW
  split
  · simpa using SO (l' := -2) (by omega) hr
  · rename_i hn
    exact ⟨⟨by show (-2 : Int) < -1; omega, by show (-1 : Int) < _; omega, hn⟩, SO (l' := -1) ht hr⟩

theorem aAK {f : List aA} {t : Int} (hf : dD f = true) (p : Int) (hp : -1 ≤ p) : val (HW t f) p = val f (if p < t then t - 1 else p) := by
  have hr := (dA.1 hf).2
  unfold HW
  rw [rI]
  have e1 : val (if nY (eN t f) = 0 then [] else [⟨-1, nY (eN t f)⟩]) p = nY (eN t f) := by
    split
    · rename_i h0; rw [h0]; rfl
    · rw [bY, sH, if_pos (show (⟨-1, nY (eN t f)⟩ : aA).At ≤ p from hp)]; simp
  rw [e1]
  by_cases h : p < t
  · rw [if_pos h, wM (f := aft t f) (fun j hj => by have := UP hr j hj; omega), ← QZ hr]; omega
  · rw [if_neg h, aCw hr (t := t) (by omega)]

theorem QE {f : List aA} (h : dD f = true) : told f = (f, 0) := by simp [told, h]

theorem XA (f : List aA) (t : Int) : uJ f t = some (ahead f t) := by
  unfold uJ ahead
  rw [CH]
  cases h : dD f
  · simp
  · obtain ⟨hl, hr⟩ := dA.1 h
    simp only [Option.bind_some, Bool.not_true, cond_false, if_true]
    have hP := DR (ps := []) (show Inc (-2) [] from trivial) (DB h)
    have hlen := DV (f := f) (ps := [])
    simp only [List.length_nil] at hlen
    rw [QD (DB h) (by simp) (by simp only [List.length_nil]; omega)]
    -- the values at places
    have key : ∀ ps : List Int, Inc (-2) ps → (∀ j ∈ f, j.At ∈ ps) → (-1 ≤ t → t < 1125899906842624 → t ∈ ps) → ps.length ≤ 2048 → pX f t ps = some (if 1125899906842624 ≤ t then (f, 0) else told (CF t f)) := by
      intro ps hi hm ht hlp
      unfold pX xA
      rw [FV (ps := ps) (F := fun p => if p < t then val f p else 0) (body := fun s : List Int × Int => mL f t ps s.1 s.2) ?_ ?_ (by omega)]
      · simp only [Option.bind_some, sP]
        rw [HE (ps := ps) (F := fun p => if p < t then val f p else 0) (by omega) (fun p _ => by have := CV h p; split <;> omega)]
        have e : kM 0 (ps.map fun p => (p, if p < t then val f p else 0)) = if 1125899906842624 ≤ t then f else CF t f := by
          refine MS (F := fun p => if p < t then val f p else 0) ?_ hi ?_ ?_ ?_
          · simp only [aDt h]; split <;> rfl
          · intro s s' h1 hst h2 hn
            have e1 : val f s = val f s' := vN hst fun j hj hc => hn j.At (hm j hj) hc
            simp only [e1]
            by_cases c1 : s < t
            · by_cases c2 : s' < t
              · rw [if_pos c1, if_pos c2]
              · exact absurd ⟨c1, by omega⟩ (hn t (ht (by omega) (by omega)))
            · rw [if_neg c1, if_neg (by omega)]
          · split
            · exact VH h
            · exact aBa h (by omega)
          · intro s h1 h2
            split
            · rw [if_pos (by omega)]
            · exact aAk h s
        rw [e]
        by_cases c : 1125899906842624 ≤ t
        · simp [c, QE h]
        · simp [c]
      · intro i a vs ha _ hv
        obtain ⟨d1, d2, d3, d4⟩ := idx ha (by omega)
        show mL f t ps vs i = _
        simp only [mL, sL, d1, cond_true, aQ d2, d3, d4, JO h]
        have ho : (vs.length + List.length [val f a]) * 8 ≤ 140737488355328 ∧ vs.length + List.length [val f a] ≤ 9223372036854775807 := by simp only [List.length_cons, List.length_nil]; omega
        have ho' : (vs.length + List.length [(0 : Int)]) * 8 ≤ 140737488355328 ∧ vs.length + List.length [(0 : Int)] ≤ 9223372036854775807 := by simp only [List.length_cons, List.length_nil]; omega
        by_cases c : a < t
        · simp only [c, decide_true, cond_true, if_true, Option.bind_some]; exact aQ ho
        · simp only [c, decide_false, cond_false, if_false]; exact aQ ho'
      · intro vs
        show mL f t ps vs _ = _
        simp only [mL, cX, cond_false]
    simp only [Option.bind_some]
    by_cases c : -1 ≤ t ∧ t < 1125899906842624
    · have hc : (decide ((-1 : Int) ≤ t) && decide (t < 1125899906842624)) = true := by simp [c]
      rw [hc, cond_true]
      have aCg := zI (t := t) (ps := nT [] f)
      show (hU (nT [] f) t).bind _ = _
      rw [KO hP (by omega)]
      exact key (lA t (nT [] f)) (zK hP (by omega) c.2) (fun j hj => zG.2 (Or.inr (BG.2 (Or.inr ⟨j, hj, rfl⟩)))) (fun _ _ => zG.2 (Or.inl rfl)) (by omega)
    · have hc : (decide ((-1 : Int) ≤ t) && decide (t < 1125899906842624)) = false := by
        rw [Bool.eq_false_iff]; intro hc; exact c (by simpa using hc)
      rw [hc, cond_false]
      exact key (nT [] f) hP (fun j hj => BG.2 (Or.inr ⟨j, hj, rfl⟩)) (fun h1 h2 => absurd ⟨h1, h2⟩ c) (by show (nT [] f).length ≤ _; omega)

theorem ZT (f : List aA) (t : Int) (ht : AM t) : vQ f t = some (rest f t) := by
  unfold vQ rest
  rw [CH]
  cases h : dD f
  · simp
  · obtain ⟨hl, hr⟩ := dA.1 h
    simp only [Option.bind_some, Bool.not_true, cond_false, if_true]
    by_cases c : 1125899906842624 ≤ t
    · simp [c]
    · simp only [c, decide_false, cond_false, if_false]
      have hP := DR (ps := []) (show Inc (-2) [] from trivial) (DB h)
      have hlen := DV (f := f) (ps := [])
      simp only [List.length_nil] at hlen
      rw [QD (DB h) (by simp) (by simp only [List.length_nil]; omega)]
      have aCg := zI (t := -1) (ps := nT [] f)
      simp only [Option.bind_some]
      show (hU (nT [] f) (-1)).bind _ = _
      rw [KO hP (by omega)]
      simp only [Option.bind_some, yQ]
      have hi : Inc (-2) (lA (-1) (nT [] f)) := zK hP (by omega) (by omega)
      have hm : ∀ j ∈ f, j.At ∈ lA (-1) (nT [] f) := fun j hj => zG.2 (Or.inr (BG.2 (Or.inr ⟨j, hj, rfl⟩)))
      have hm1 : (-1 : Int) ∈ lA (-1) (nT [] f) := zG.2 (Or.inl rfl)
      generalize lA (-1) (nT [] f) = ps at hi hm hm1 aCg
      rw [FV (ps := ps) (F := fun p => if p < -1 then 0 else val f (if -1 < t ∧ p < t then t - 1 else p)) (body := fun s : List Int × Int => nN f t ps s.1 s.2) ?_ ?_ (by omega)]
      · simp only [Option.bind_some, tT]
        rw [HE (ps := ps) (F := fun p => if p < -1 then 0 else val f (if -1 < t ∧ p < t then t - 1 else p)) (by omega) (fun p _ => by have := CV h (if -1 < t ∧ p < t then t - 1 else p); split <;> omega)]
        have e : kM 0 (ps.map fun p => (p, if p < -1 then 0 else val f (if -1 < t ∧ p < t then t - 1 else p))) = if t ≤ -1 then f else HW t f := by
          refine MS (F := fun p => if p < -1 then 0 else val f (if -1 < t ∧ p < t then t - 1 else p)) ?_ hi ?_ ?_ ?_
          · simp
          · intro s s' h1 hst h2 hn
            by_cases c0 : s < -1
            · by_cases c1 : s' < -1
              · simp only [c0, c1, if_true]
              · exact absurd ⟨c0, by omega⟩ (hn (-1) hm1)
            · have c1 : ¬ s' < -1 := by omega
              simp only [c0, c1, if_false]
              by_cases c2 : -1 < t ∧ s < t
              · by_cases c3 : s' < t
                · rw [if_pos c2, if_pos ⟨c2.1, c3⟩]
                · rw [if_pos c2, if_neg (fun hc => c3 hc.2)]
                  by_cases c4 : t - 1 = s
                  · rw [c4]; exact vN hst fun j hj hc => hn j.At (hm j hj) hc
                  · exact vN (by omega) fun j hj hc => hn j.At (hm j hj) ⟨by omega, hc.2⟩
              · rw [if_neg c2, if_neg (by omega)]
                exact vN hst fun j hj hc => hn j.At (hm j hj) hc
          · split
            · exact VH h
            · exact aB9 h (by omega)
          · intro s h1 h2
            rw [if_neg (show ¬ s < -1 by omega)]
            by_cases c1 : t ≤ -1
            · rw [if_pos c1, if_neg (by omega)]
            · rw [if_neg c1, aAK h s (by omega)]
              by_cases c2 : s < t
              · rw [if_pos c2, if_pos ⟨by omega, c2⟩]
              · rw [if_neg c2, if_neg (fun hc => c2 hc.2)]
        rw [e]
        by_cases c : t ≤ -1
        · simp [c, QE h]
        · simp [c]
      · intro i a vs ha hmem hv
        obtain ⟨d1, d2, d3, d4⟩ := idx ha (by omega)
        have hge := (hi.above a hmem).1
        show nN f t ps vs i = _
        have hw : IntKind.i64.wrap (t - 1) = if t = -9223372036854775808 then 9223372036854775807 else t - 1 := by
          have := ht.1; have := ht.2
          split
          · rename_i e; rw [e]; decide
          · exact dI (by omega) (by omega)
        have ho : ∀ x : Int, (vs.length + List.length [x]) * 8 ≤ 140737488355328 ∧ vs.length + List.length [x] ≤ 9223372036854775807 := by intro x; simp only [List.length_cons, List.length_nil]; omega
        simp only [nN, tL, d1, cond_true, aQ d2, d3, d4, JO h, Option.bind_some, aQ (ho _)]
        rw [if_neg (show ¬ a < -1 by omega)]
        by_cases c1 : -1 < t <;> by_cases c2 : a < t
        · simp only [c1, c2, decide_true, Bool.and_self, cond_true, and_self, if_true, hw]
          rw [if_neg (by omega)]
        · simp [c1, c2]
        · simp [c1, c2]
        · simp [c1, c2]
      · intro vs
        show nN f t ps vs _ = _
        simp only [nN, cX, cond_false]

end Go.Abs
namespace Go.Abs
open Go
theorem w1 : IntKind.i64.wrap (0 + 1) = 1 := by rw [dI] <;> omega

theorem w2 : IntKind.i64.wrap (1 + 1) = 2 := by rw [dI] <;> omega

theorem w3 : IntKind.i64.wrap (1 - 1) = 0 := by rw [dI] <;> omega

theorem v0 : IntKind.i64.wrap 0 = 0 := by rw [dI] <;> omega

theorem v1 : IntKind.i64.wrap 1 = 1 := by rw [dI] <;> omega

theorem v2 : IntKind.i64.wrap 2 = 2 := by rw [dI] <;> omega

theorem v3 : IntKind.i64.wrap (-1) = -1 := by rw [dI] <;> omega

end Go.Abs
namespace Go.Abs
open Go
theorem LZ (f : List aA) : (told f).1.length ≤ 1024 := by
  unfold told
  cases h : dD f
  · simp
  · simpa using (dA.1 h).1

theorem PZ (f : List aA) (t : Int) : (ahead f t).1.length ≤ 1024 := by
  unfold ahead
  split
  · split
    · exact (dA.1 (by assumption)).1
    · exact LZ _
  · simp

theorem SH (f : List aA) (t : Int) : (rest f t).1.length ≤ 1024 := by
  unfold rest
  split
  · split
    · simp
    · split
      · exact (dA.1 (by assumption)).1
      · exact LZ _
  · simp

end Go.Abs
namespace Go.Abs
theorem aB1 : @dR = @oG aA _ := rfl

theorem aAy : @dY = @eD aA _ := rfl

theorem XX (cmp) : ∀ k, @gS cmp k = @eF aA _ cmp k
  | 0 => rfl
  | k + 1 => by
    show dY cmp _ = eD cmp _
    rw [XX cmp k, aAy]

theorem aBQ : @eS = @pS aA _ := by
  funext d a m b cmp
  unfold eS pS
  simp only [XX]

theorem XF : @fJ = @zD aA _ := by
  funext d n cmp
  unfold fJ zD iT CB
  unfold iH mV fB BQ
  unfold iQ BO iD kD
  unfold iG xX iO mU
  unfold eZ xW
  rw [aBQ, aB1]
  rfl

end Go.Abs
namespace Go.Abs
open Go
variable {α : Type} [Inhabited α]
noncomputable def pZ (f1 : α → Option Bool) (s0 : (List α)) (t7 : Int) (t8 : Int) : Option ((Int) ⊕ (Unit ⊕ Int)) :=
  cond (decide (t8 < t7))
  (bC (0 ≤ t8 ∧ t8 < ((List.length s0 : Nat) : Int)) <|
  (f1 (List.getD s0 (Int.toNat t8) default)).bind fun x2 =>
  cond x2
  (some (.inr (.inr t8)))
  (some (.inl (IntKind.i64.wrap (t8 + (1 : Int))))))
  (some (.inr (.inl ())))

theorem HK {l : List α} {f : α → Option Bool} {g : α → Bool} (hl : l.length ≤ 1099511627776) (hf : ∀ x ∈ l, f x = some (g x)) : ∀ (r : List α) (k : Nat), l.drop k = r → k ≤ l.length →
    ∃ x, lp (fun s => pZ f l (l.length : Nat) s) (k : Int) = some x ∧ ((x = .inl () ∧ r.any g = false) ∨ (∃ i : Nat, x = .inr (i : Int) ∧ k ≤ i ∧ i < l.length ∧ r.any g = true ∧ g (l.getD i default) = true ∧ ∀ j, k ≤ j → j < i → g (l.getD j default) = false))
  | [], k, hd, hk => by
    have : k = l.length := by
      have := congrArg List.length hd
      simp only [List.length_drop, List.length_nil] at this; omega
    subst this
    refine ⟨.inl (), cL ?_, Or.inl ⟨rfl, rfl⟩⟩
    show pZ f l _ _ = _
    simp only [pZ, cX, cond_false]
  | a :: r, k, hd, hk => by
    obtain ⟨h1, h2⟩ := drop_cons hd
    have hlt : k < l.length := (List.getElem?_eq_some_iff.1 h1).1
    obtain ⟨d1, d2, d3, d4⟩ := idx h1 (by omega)
    have hga : l.getD k default = a := by rw [Int.toNat_natCast] at d3; exact d3
    have hb : (fun s => pZ f l (l.length : Nat) s) (k : Int) = some (if g a then .inr (.inr (k : Int)) else .inl ((k + 1 : Nat) : Int)) := by
      show pZ f l _ _ = _
      simp only [pZ, d1, cond_true, aQ d2, d3, d4, hf a (List.mem_of_getElem? h1), Option.bind_some]
      cases g a <;> simp
    cases hg : g a
    · rw [hg] at hb
      obtain ⟨x, e, hx⟩ := HK hl hf r (k + 1) h2 (by omega)
      refine ⟨x, by rw [eB hb]; exact e, ?_⟩
      rcases hx with ⟨rfl, h⟩ | ⟨i, rfl, h3, h4, h5, h6, h7⟩
      · exact Or.inl ⟨rfl, by simp [hg, h]⟩
      · refine Or.inr ⟨i, rfl, by omega, h4, by simp [h5], h6, fun j hj hj' => ?_⟩
        by_cases e : j = k
        · subst e; rw [hga, hg]
        · exact h7 j (by omega) hj'
    · rw [hg] at hb
      exact ⟨.inr (k : Int), cL hb, Or.inr ⟨k, rfl, Nat.le_refl _, hlt, by simp [hg], by rw [hga, hg], fun j h h' => by omega⟩⟩

end Go.Abs
namespace Go.Abs
open Go
theorem KK {l : List aA} {f : aA → Option Bool} {g : aA → Bool} (hl : l.length ≤ 1099511627776) (hf : ∀ x ∈ l, f x = some (g x)) : cV l f = some (l.any g) := by
  unfold cV fW fN
  obtain ⟨x, e, hx⟩ := HK hl hf l 0 rfl (Nat.zero_le _)
  have e' : lp (fun s => fL f l (l.length : Nat) s) 0 = some x := e
  rw [e']
  rcases hx with ⟨rfl, h⟩ | ⟨i, rfl, _, _, h, _⟩
  · simp [dV, h]
  · simp [h]

def sG (j : aA) : Bool := !BX j.Net

def vI (j : aA) : Bool := decide (j.At < -1) || decide (1125899906842624 < j.At)

def HS (l : List aA) : List aA := kM 0 ((nT [] (l.filter fun j => decide (j.At < 1125899906842624))).map fun p => (p, val l p))

def mO (l : List aA) : List aA × Int := if l.any sG then ([], 2) else if l.any vI then ([], 13) else told (HS l)

def CO (p n : Int) : List aA := if n ≠ 0 ∧ p < 1125899906842624 then [⟨p, n⟩] else []

def xB (p n : Int) : List aA → List aA
  | [] => CO p n
  | j :: r => if j.At = p then xB p (n + j.Net) r else CO p n ++ xB j.At j.Net r

def grp : List aA → List aA
  | [] => []
  | j :: r => xB j.At j.Net r

abbrev UC (a b : aA) : Prop := a.At ≤ b.At

theorem LY {t : Int} (ht : t < 1125899906842624) : ∀ {r : List aA} {p n : Int}, val (xB p n r) t = (if p ≤ t then n else 0) + val r t
  | [], p, n => by
    unfold xB CO
    split
    · rw [bY, sH]
    · rw [sH]; split <;> omega
  | j :: r, p, n => by
    unfold xB
    split
    · rename_i h
      rw [LY ht, bY, h]; split <;> omega
    · rw [rI, LY ht, bY]
      have : val (CO p n) t = if p ≤ t then n else 0 := by
        unfold CO
        split
        · rw [bY, sH]; simp
        · rw [sH]; split <;> omega
      rw [this]

theorem aC0 {t : Int} (ht : t < 1125899906842624) : ∀ {r : List aA}, val (grp r) t = val r t
  | [] => rfl
  | j :: r => by unfold grp; rw [LY ht, bY]

theorem PG : ∀ {r : List aA} {p n last : Int}, last < p → (∀ j ∈ r, p ≤ j.At) → Srt UC r → Up last (xB p n r)
  | [], p, n, last, h, _, _ => by
    unfold xB CO
    split
    · rename_i h'; exact ⟨⟨h, h'.2, h'.1⟩, trivial⟩
    · trivial
  | j :: r, p, n, last, h, hp, hs => by
    have hj := hp j (by simp)
    have hs' := List.pairwise_cons.1 hs
    unfold xB
    split
    · exact PG h (fun k hk => hp k (by simp [hk])) hs'.2
    · have ih : Up p (xB j.At j.Net r) := PG (by omega) (fun k hk => hs'.1 k hk) hs'.2
      unfold CO
      split
      · rename_i h'; exact ⟨⟨h, h'.2, h'.1⟩, ih⟩
      · exact ih.weaken (by omega)

theorem aDr {r : List aA} (h : ∀ j ∈ r, -2 < j.At) (hs : Srt UC r) : Up (-2) (grp r) := by
  cases r with
  | nil => trivial
  | cons j r =>
    have hs' := List.pairwise_cons.1 hs
    exact PG (h j (by simp)) (fun k hk => hs'.1 k hk) hs'.2

theorem UE {l out : List aA} (hl : l.length ≤ 1099511627776) (hb : ∀ j ∈ l, j.Net ≤ 1048576 ∧ -1048576 ≤ j.Net) : ∀ (r : List aA) (k : Nat) (p n : Int), l.drop k = r → k ≤ l.length → n ≤ 1048576 * k → -(1048576 * k) ≤ n →
    ∃ n' k', k ≤ k' ∧ k' ≤ l.length ∧ xB p n r = CO p n' ++ grp (l.drop k') ∧ lp (fun s : List aA × List aA × Int × aA => jZ s.1 s.2.1 s.2.2.1 s.2.2.2) (l, out, (k : Int), ⟨p, n⟩) = some (l, out, ((k' : Nat) : Int), ⟨p, n'⟩) ∧ (∀ j r', r = j :: r' → j.At = p → k < k')
  | [], k, p, n, hd, hk, _, _ => by
    have : k = l.length := by
      have := congrArg List.length hd
      simp only [List.length_drop, List.length_nil] at this; omega
    subst this
    refine ⟨n, l.length, Nat.le_refl _, Nat.le_refl _, by simp [xB, grp], cL ?_, fun j r' h => by cases h⟩
    show jZ _ _ _ _ = _
    simp only [jZ, cX, Bool.false_and, cond_false]
    exact aQ (fun h => by cases h)
  | a :: r, k, p, n, hd, hk, h1, h2 => by
    obtain ⟨e1, e2⟩ := drop_cons hd
    have hlt : k < l.length := (List.getElem?_eq_some_iff.1 e1).1
    obtain ⟨d1, d2, d3, d4⟩ := idx e1 (by omega)
    have ha := hb a (List.mem_of_getElem? e1)
    by_cases h : a.At = p
    · have hw : IntKind.i64.wrap (n + a.Net) = n + a.Net := dI (by omega) (by omega)
      obtain ⟨n', k', k1, k2, k3, k4, _⟩ := UE hl hb r (k + 1) p (n + a.Net) e2 (by omega) (by omega) (by omega) (out := out)
      refine ⟨n', k', by omega, k2, by simp [xB, h, k3], ?_, fun _ _ _ _ => by omega⟩
      have hb : (fun s : List aA × List aA × Int × aA => jZ s.1 s.2.1 s.2.2.1 s.2.2.2) (l, out, (k : Int), ⟨p, n⟩) = some (.inl (l, out, ((k + 1 : Nat) : Int), ⟨p, n + a.Net⟩)) := by
        show jZ _ _ _ _ = _
        simp only [jZ, d1, Bool.true_and, d3, d4, h, decide_true, cond_true, hw]
        rw [aQ (fun _ => d2), aQ d2]
      rw [eB hb, k4]
    · refine ⟨n, k, Nat.le_refl _, hk, ?_, cL ?_, fun j r' he hp => ?_⟩
      · rw [hd]; simp [xB, h, grp]
      · show jZ _ _ _ _ = _
        simp only [jZ, d1, Bool.true_and, d3, h, decide_false, cond_false]
        exact aQ (fun _ => d2)
      · cases he; exact absurd hp h

theorem aB7 {l : List aA} (hl : l.length ≤ 1099511627776) (hb : ∀ j ∈ l, j.Net ≤ 1048576 ∧ -1048576 ≤ j.Net) : ∀ (m k : Nat) (out : List aA), l.length - k ≤ m → k ≤ l.length → out.length ≤ k →
    lp (fun s : List aA × List aA × Int => lU s.1 s.2.1 s.2.2) (l, out, (k : Int)) = some (out ++ grp (l.drop k)) := by
  have stop : ∀ out, lp (fun s : List aA × List aA × Int => lU s.1 s.2.1 s.2.2) (l, out, ((l.length : Nat) : Int)) = some (out ++ grp (l.drop l.length)) := by
    intro out
    refine cL ?_
    show lU _ _ _ = _
    simp only [lU, cX, cond_false]
    simp [grp]
  intro m
  induction m with
  | zero =>
    intro k out hm hk _
    have : k = l.length := by omega
    subst this; exact stop out
  | succ m ih =>
    intro k out hm hk ho
    by_cases he : k = l.length
    · subst he; exact stop out
    · have hlt : k < l.length := by omega
      have hd : l.drop k = l[k] :: l.drop (k + 1) := List.drop_eq_getElem_cons hlt
      obtain ⟨d1, d2, d3, d4⟩ := idx (List.getElem?_eq_getElem hlt) (by omega)
      obtain ⟨n', k', k1, k2, k3, k4, k5⟩ := UE hl hb (l.drop k) k l[k].At 0 rfl hk (by omega) (by omega) (out := out)
      have hk' := k5 _ _ hd rfl
      have hbod : (fun s : List aA × List aA × Int => lU s.1 s.2.1 s.2.2) (l, out, (k : Int)) = some (.inl (l, out ++ CO l[k].At n', ((k' : Nat) : Int))) := by
        show lU _ _ _ = _
        simp only [lU, d1, cond_true, aQ d2, d3, zT, k4, Option.bind_some, vK]
        unfold CO
        by_cases c : n' ≠ 0 ∧ l[k].At < 1125899906842624
        · have hc : (!decide (n' = 0) && decide (l[k].At < 1125899906842624)) = true := by simp [c]
          rw [hc, cond_true, if_pos c, aQ (by simp only [List.length_cons, List.length_nil]; omega)]
        · have hc : (!decide (n' = 0) && decide (l[k].At < 1125899906842624)) = false := by
            rw [Bool.eq_false_iff]; intro h; apply c; simpa using h
          rw [hc, cond_false, if_neg c]; simp
      have hfl : (CO l[k].At n').length ≤ 1 := by unfold CO; split <;> simp
      rw [eB hbod, ih k' _ (by omega) k2 (by simp only [List.length_append]; omega)]
      have hg : grp (l.drop k) = xB l[k].At 0 (l.drop k) := by rw [hd]; simp [grp, xB]
      rw [hg, k3]; simp

theorem aCx (a b : aA) : nJ a b = some (if a.At < b.At then -1 else if b.At < a.At then 1 else 0) := by
  unfold nJ jS oV
  by_cases h1 : a.At < b.At
  · simp [h1]
  · by_cases h2 : b.At < a.At <;> simp [h1, h2]

theorem aDT : Cmp (fun _ => True) UC (fun y0 y1 => nJ y0 y1) where
  ans x y _ _ := ⟨_, aCx x y, by unfold UC; split <;> (try split) <;> omega⟩
  trans x y z _ _ _ h1 h2 := Int.le_trans h1 h2
  total x y _ _ := Int.le_total x.At y.At

theorem aDM {l : List aA} (hl : l.length ≤ 1099511627776) : ∃ r, r.Perm l ∧ Srt UC r ∧ dG l (fun y0 y1 => nJ y0 y1) = some r := by
  obtain ⟨r, r1, r2, r3⟩ := QV aDT (d := l) (fun _ _ => trivial) hl
  refine ⟨r, r1, r2, ?_⟩
  unfold dG
  rw [XF, r3]; rfl

theorem SU {f g : List aA} (h : f.Perm g) (t : Int) : val f t = val g t := by
  induction h with
  | nil => rfl
  | cons x _ ih => rw [bY, bY, ih]
  | swap x y l => rw [bY, bY, bY, bY]; omega
  | trans _ _ ih1 ih2 => rw [ih1, ih2]

theorem HG {l : List aA} (h : l.any sG = false) : ∀ j ∈ l, j.Net ≤ 1048576 ∧ -1048576 ≤ j.Net := by
  intro j hj
  have := List.any_eq_false.1 h j hj
  simp [sG, BX] at this
  omega

theorem HM {l : List aA} (h : l.any vI = false) : ∀ j ∈ l, -2 < j.At ∧ j.At ≤ 1125899906842624 := by
  intro j hj
  have := List.any_eq_false.1 h j hj
  simp [vI] at this
  omega

theorem KM {l : List aA} (ht : ∀ j ∈ l, -2 < j.At) : Inc (-2) (nT [] (l.filter fun j => decide (j.At < 1125899906842624))) :=
  DR (ps := []) (show Inc (-2) [] from trivial) fun j hj => by
    obtain ⟨h1, h2⟩ := List.mem_filter.1 hj
    exact ⟨ht j h1, by simpa using h2⟩

theorem VR {l h : List aA} (ht : ∀ j ∈ l, -2 < j.At) (hh : Up (-2) h) (hv : ∀ t, -2 < t → t < 1125899906842624 → val h t = val l t) : HS l = h := by
  refine MS (F := val l) (wM fun j hj => ht j hj) (KM ht) ?_ hh hv
  intro s t _ hst h2 hn
  exact vN hst fun j hj hc => hn j.At (BG.2 (Or.inr ⟨j, List.mem_filter.2 ⟨hj, by simp; omega⟩, rfl⟩)) hc

theorem norm_eq {l : List aA} (hl : l.length ≤ 1099511627776) : xT l = some (mO l) := by
  unfold xT mO
  rw [KK (g := sG) hl (fun x _ => by simp [tW, XV, sG])]
  simp only [Option.bind_some]
  cases h1 : l.any sG
  · rw [KK (f := fun y0 => tS y0) (g := vI) hl (fun x _ => rfl)]
    simp only [cond_false, Option.bind_some, Bool.false_eq_true, if_false]
    cases h2 : l.any vI
    · simp only [cond_false, Bool.false_eq_true, if_false]
      have hc : cN l = some l := by unfold cN; exact aQ ⟨by omega, by omega⟩
      obtain ⟨r, r1, r2, r3⟩ := aDM hl
      rw [hc]
      simp only [Option.bind_some]
      rw [r3]
      simp only [Option.bind_some, AF]
      have hlr : r.length ≤ 1099511627776 := by rw [r1.length_eq]; exact hl
      have := aB7 hlr (fun j hj => HG h1 j (r1.mem_iff.1 hj)) r.length 0 [] (by omega) (by omega) (by simp)
      simp only [Int.natCast_zero, List.drop_zero, List.nil_append] at this
      rw [this]
      simp only [Option.bind_some, vG, HA]
      rw [VR (fun j hj => (HM h2 j hj).1) (aDr (fun j hj => (HM h2 j (r1.mem_iff.1 hj)).1) r2) (fun t _ ht => by rw [aC0 ht, SU r1])]
    · simp
  · simp

theorem ZL {l : List aA} (hl : l.length ≤ 1099511627776) : vP l = some (mO l) := by
  unfold vP yR mO
  rw [GD (l := l) (fun i => i) sG (.inr ([], 2)) (.inl ()) ?_ ?_]
  · cases h1 : l.any sG
    · simp only [Bool.false_eq_true, if_false, Option.bind_some, Sum.elim_inl, uB, yI]
      rw [nC (l := l) (body := fun s : List Int × Int => jG l s.1 s.2) (fun ps i => (ps, i)) (fun ps r => if r.any vI then .inr ([], 13) else .inl (nT ps (r.filter fun j => decide (j.At < 1125899906842624))))
        (fun ps r => Inc (-2) ps ∧ ps.length + r.length ≤ 1099511627776) [] ?_ ?_ ⟨trivial, by simpa using hl⟩]
      · cases h2 : l.any vI
        · simp only [Bool.false_eq_true, if_false, Option.bind_some, Sum.elim_inl, uH, yM]
          have hlen := DV (f := l.filter fun j => decide (j.At < 1125899906842624)) (ps := [])
          have hlf : (l.filter fun j => decide (j.At < 1125899906842624)).length ≤ l.length := List.length_filter_le _ _
          simp only [List.length_nil] at hlen
          have hvb : ∀ p, val l p ≤ 1048576 * l.length ∧ -(1048576 * l.length) ≤ val l p := fun p => KC p (by omega) (fun j hj => by have := HG h1 j hj; omega)
          rw [FV (ps := nT [] (l.filter fun j => decide (j.At < 1125899906842624))) (F := val l) (body := fun s : List Int × Int => nG l (nT [] (l.filter fun j => decide (j.At < 1125899906842624))) s.1 s.2) ?_ ?_ (by omega)]
          · simp only [Option.bind_some, uI]
            rw [HE (by omega) (fun p _ => by have := hvb p; omega)]
            rfl
          · intro i a vs ha _ hv
            obtain ⟨d1, d2, d3, d4⟩ := idx ha (by omega)
            show nG l _ vs i = _
            simp only [nG, d1, cond_true, aQ d2, d3, d4, LA a (HG h1) hl, Option.bind_some]
            exact aQ (by simp only [List.length_cons, List.length_nil]; omega)
          · intro vs
            show nG l _ vs _ = _
            simp only [nG, cX, cond_false]
        · simp
      · rintro i a r ps ha ⟨g1, g2⟩
        obtain ⟨d1, d2, d3, d4⟩ := idx ha (by omega)
        simp only [List.length_cons] at g2
        have hbod : jG l ps i = if vI a then some (.inr (.inr ([], 13))) else if a.At < 1125899906842624 then (hU ps a.At).bind (fun x => some (.inl (x, ((i + 1 : Nat) : Int)))) else some (.inl (ps, ((i + 1 : Nat) : Int))) := by
          simp only [jG, tX, d1, cond_true, aQ d2, d3, d4]
          rw [aQ (fun _ => d2)]
          unfold vI
          cases (decide (a.At < -1) || decide (1125899906842624 < a.At))
          · by_cases c : a.At < 1125899906842624 <;> simp [c]
          · simp
        cases ho : vI a
        · left
          rw [ho] at hbod
          have ho' : -1 ≤ a.At ∧ a.At ≤ 1125899906842624 := by simp [vI] at ho; omega
          by_cases c : a.At < 1125899906842624
          · have hlen := zI (t := a.At) (ps := ps)
            refine ⟨lA a.At ps, ?_, ⟨zK g1 (by omega) c, by omega⟩, ?_⟩
            · show jG l ps i = _
              rw [hbod, KO g1 (by omega)]; simp [c]
            · simp only [List.any_cons, ho, Bool.false_or]
              have hf : (a :: r).filter (fun j => decide (j.At < 1125899906842624)) = a :: r.filter (fun j => decide (j.At < 1125899906842624)) := by simp [c]
              rw [hf]; rfl
          · refine ⟨ps, ?_, ⟨g1, by omega⟩, ?_⟩
            · show jG l ps i = _
              rw [hbod]; simp [c]
            · simp only [List.any_cons, ho, Bool.false_or]
              have hf : (a :: r).filter (fun j => decide (j.At < 1125899906842624)) = r.filter (fun j => decide (j.At < 1125899906842624)) := by simp [c]
              rw [hf]
        · right
          rw [ho] at hbod
          show jG l ps i = _
          rw [hbod]; simp [ho]
      · intro ps _
        show jG l ps _ = _
        simp only [jG, cX, cond_false]
        simp [nT]
    · simp
  · intro i a ha
    obtain ⟨d1, d2, d3, d4⟩ := idx ha (by omega)
    show pH l i = _
    simp only [pH, d1, cond_true, aQ d2, d3, d4]
    rw [aQ (fun _ => d2)]
    unfold sG BX
    by_cases c1 : 1048576 < a.Net
    · have : ¬ a.Net ≤ 1048576 := by omega
      simp [c1, this]
    · have c1' : a.Net ≤ 1048576 := by omega
      by_cases c2 : a.Net < -1048576
      · have : ¬ -1048576 ≤ a.Net := by omega
        simp [c1', c1, c2, this]
      · have : -1048576 ≤ a.Net := by omega
        simp [c1', c1, c2, this]
  · show pH l _ = _
    simp only [pH, cX, cond_false]

end Go.Abs
namespace Go.Abs
open Go
theorem QG (x y : ByteArray) : oJ x y = decide (x = y) := by
  unfold oJ
  rw [ByteArray.toList_eq, ByteArray.toList_eq]
  by_cases h : x = y
  · simp [h]
  · have : x.data.toList ≠ y.data.toList := by
      intro he
      apply h
      cases x; cases y
      congr 1
      exact Array.toList_inj.1 he
    have h2 : (x.data.toList == y.data.toList) = false := by simpa using this
    rw [h2]; simp [h]

theorem veq (a b : aH) : ((decide (a.Kind = b.Kind)) && ((decide (a.Num = b.Num)) && ((oJ a.Text b.Text) && true))) = decide (a = b) := by
  rw [QG]
  obtain ⟨a1, a2, a3⟩ := a
  obtain ⟨b1, b2, b3⟩ := b
  by_cases h1 : a1 = b1 <;> by_cases h2 : a2 = b2 <;> by_cases h3 : a3 = b3 <;> simp [h1, h2, h3]

def FH (v : aH) : Bool := decide (v.Kind = 1) && oJ v.Text (⟨#[]⟩ : ByteArray)

def EZ (v : aH) : Bool := ((decide (v.Kind = 2)) && (decide (v.Num = 0))) && (decide (((ByteArray.size v.Text : Nat) : Int) ≤ 64))

def tI (v : aH) : Bool := FH v || EZ v

def fV (r : List aH) : Bool := decide (r.length ≤ 8) && r.all tI

theorem of_eq (v : aH) : mB v = some (if FH v then (.k_number v.Num, true) else if EZ v then (.k_words v.Text, true) else (.none_, false)) := by
  unfold mB FH EZ
  cases (decide (v.Kind = 1) && oJ v.Text (⟨#[]⟩ : ByteArray)) <;> cases (((decide (v.Kind = 2)) && (decide (v.Num = 0))) && (decide (((ByteArray.size v.Text : Nat) : Int) ≤ 64))) <;> rfl

theorem aCW (v : aH) : xQ v = some (tI v) := by
  unfold xQ tI
  rw [of_eq]
  cases FH v <;> cases EZ v <;> rfl

theorem NI (v : aH) : rY v = some (tI v) := by
  unfold rY tI FH EZ
  by_cases h : v.Kind = 1
  · simp [h]
  · simp [h]

theorem TH {l : List aH} {f : aH → Option Bool} {g : aH → Bool} (hl : l.length ≤ 1099511627776) (hf : ∀ x ∈ l, f x = some (g x)) : dN l f = some (l.any g) := by
  unfold dN fU fM
  obtain ⟨x, e, hx⟩ := HK hl hf l 0 rfl (Nat.zero_le _)
  have e' : lp (fun s => fQ f l (l.length : Nat) s) 0 = some x := e
  rw [e']
  rcases hx with ⟨rfl, h⟩ | ⟨i, rfl, _, _, h, _⟩
  · simp [dU, h]
  · simp [h]

theorem GR (r : List aH) : rL r = some (fV r) := by
  unfold rL fV
  by_cases h : r.length ≤ 8
  · have h1 : decide ((8 : Int) < ((r.length : Nat) : Int)) = false := by simp; omega
    rw [h1, cond_false, TH (g := fun v => !tI v) (by omega) (fun x _ => by simp [xJ, aCW])]
    simp only [Option.bind_some, h, decide_true, Bool.true_and]
    congr 1
    rw [List.all_eq_not_any_not]
  · have h1 : decide ((8 : Int) < ((r.length : Nat) : Int)) = true := by simp; omega
    rw [h1, cond_true]
    simp [h]

theorem DA (r : List aH) (hl : r.length ≤ 1099511627776 * 16) : pO r = some (fV r) := by
  unfold pO zV
  have hl9 : (r.take 9).length ≤ 9 := by simp; omega
  rw [GD (l := r.take 9) (fun i => i) (fun v => !tI v) (.inr false) (.inl ()) ?_ ?_]
  · unfold fV
    by_cases h : r.length ≤ 8
    · have ht : r.take 9 = r := List.take_of_length_le (by omega)
      rw [ht, List.all_eq_not_any_not]
      cases h1 : (r.any fun v => !tI v)
      · have : ((r.length : Nat) : Int) ≤ 8 := by omega
        simp [sN, this, h]
      · simp
    · cases h1 : ((r.take 9).any fun v => !tI v)
      · have : ¬ ((r.length : Nat) : Int) ≤ 8 := by omega
        simp [sN, this, h]
      · simp [h]
  · intro i a ha
    have hi : i < (r.take 9).length := (List.getElem?_eq_some_iff.1 ha).1
    have hi2 : i < r.length := by simp at hi; omega
    have ha2 : r[i]? = some a := by
      rw [List.getElem?_take] at ha
      split at ha
      · exact ha
      · cases ha
    obtain ⟨d1, d2, d3, d4⟩ := idx ha2 (by omega)
    have h9 : decide ((i : Int) < 9) = true := by simp; omega
    show qK r i = _
    simp only [qK, d1, h9, Bool.and_self, cond_true, aQ d2, d3, d4, NI, Option.bind_some]
    cases tI a <;> simp
  · show qK r _ = _
    have : ((decide ((((r.take 9).length : Nat) : Int) < ((r.length : Nat) : Int))) && (decide ((((r.take 9).length : Nat) : Int) < 9))) = false := by
      rw [Bool.and_eq_false_iff]
      by_cases h : r.length ≤ 8
      · left; simp; omega
      · right; simp; omega
    simp only [qK, this, cond_false]

theorem SF {α : Type} [DecidableEq α] {f g : List α} {body : Int → Option (Int ⊕ (Unit ⊕ Bool))} (he : f.length = g.length)
    (hb : ∀ (i : Nat) a b, f[i]? = some a → g[i]? = some b → body i = some (if a = b then .inl ((i + 1 : Nat) : Int) else .inr (.inr false)))
    (hend : body (f.length : Nat) = some (.inr (.inl ()))) : ∀ (m k : Nat), f.length - k = m → k ≤ f.length → lp body (k : Int) = some (if f.drop k = g.drop k then .inl () else .inr false)
  | 0, k, hm, hk => by
    have : k = f.length := by omega
    subst this
    rw [List.drop_length, he, List.drop_length, if_pos rfl]
    rw [← he]
    exact cL hend
  | m + 1, k, hm, hk => by
    have h1 : k < f.length := by omega
    have h2 : k < g.length := by omega
    have hbk := hb k _ _ (List.getElem?_eq_getElem h1) (List.getElem?_eq_getElem h2)
    have e1 : f.drop k = f[k] :: f.drop (k + 1) := List.drop_eq_getElem_cons h1
    have e2 : g.drop k = g[k] :: g.drop (k + 1) := List.drop_eq_getElem_cons h2
    have hiff : (f.drop k = g.drop k) ↔ (f[k] = g[k] ∧ f.drop (k + 1) = g.drop (k + 1)) := by rw [e1, e2, List.cons.injEq]
    by_cases h : f[k] = g[k]
    · rw [if_pos h] at hbk
      rw [eB hbk, SF he hb hend m (k + 1) (by omega) (by omega)]
      simp only [hiff, h, true_and]
    · rw [if_neg h] at hbk
      rw [cL hbk]
      simp only [hiff, h, false_and, if_false]

theorem UR {α : Type} {f g : List α} (h : f.length ≠ g.length) : (!decide (((f.length : Nat) : Int) = ((g.length : Nat) : Int))) = true := by simp; omega

theorem TG {α : Type} {f g : List α} (h : f.length = g.length) : (!decide (((f.length : Nat) : Int) = ((g.length : Nat) : Int))) = false := by simp [h]

theorem aAc (a b : List aH) (hl : a.length ≤ 17592186044416) : AI a b = some (decide (a = b)) := by
  unfold AI iZ
  by_cases he : a.length = b.length
  · rw [TG he, cond_false]
    unfold iC
    have := SF (f := a) (g := b) (body := fun s => dP a b (a.length : Nat) s) he ?_ ?_ a.length 0 rfl (Nat.zero_le _)
    · simp only [Int.natCast_zero, List.drop_zero] at this
      rw [this]
      by_cases h : a = b <;> simp [h, eO]
    · intro i x y hx hy
      obtain ⟨d1, d2, d3, d4⟩ := idx hx (by omega)
      obtain ⟨_, e2, e3, _⟩ := idx hy (by omega)
      simp only [dP, d1, cond_true, aQ d2, aQ e2, d3, e3, d4, veq]
      by_cases h : x = y <;> simp [h]
    · simp only [dP, cX, cond_false]
  · rw [UR he, cond_true]
    have : a ≠ b := fun h => he (by rw [h])
    simp [this]

theorem CQ (a b : List aH) (hl : a.length ≤ 17592186044416) : qL a b = some (decide (a = b)) := by
  unfold qL
  by_cases he : a.length = b.length
  · rw [TG he, cond_false]
    unfold yG
    have := SF (f := a) (g := b) (body := fun s => rD a b s) he ?_ ?_ a.length 0 rfl (Nat.zero_le _)
    · simp only [Int.natCast_zero, List.drop_zero] at this
      rw [this]
      by_cases h : a = b <;> simp [h, tO]
    · intro i x y hx hy
      obtain ⟨d1, d2, d3, d4⟩ := idx hx (by omega)
      obtain ⟨_, e2, e3, _⟩ := idx hy (by omega)
      simp only [rD, d1, cond_true, aQ d2, aQ e2, d3, e3, d4, veq]
      by_cases h : x = y <;> simp [h]
    · simp only [rD, cX, cond_false]
  · rw [UR he, cond_true]
    have : a ≠ b := fun h => he (by rw [h])
    simp [this]

structure KI {α : Type} (c : α → α → Int) : Prop where
  eq : ∀ a b, c a b = 0 ↔ a = b
  anti : ∀ a b, c a b < 0 ↔ 0 < c b a
  trans : ∀ a b d, c a b < 0 → c b d < 0 → c a d < 0

def nU (x y : Int) : Int := if x < y then -1 else if y < x then 1 else 0

theorem EC : KI nU where
  eq a b := by unfold nU; (repeat' split) <;> omega
  anti a b := by unfold nU; (repeat' split) <;> omega
  trans a b d := by unfold nU; (repeat' split) <;> omega

def fR {α : Type} [DecidableEq α] (c : α → α → Int) : List α → List α → Int
  | [], [] => 0
  | [], _ :: _ => -1
  | _ :: _, [] => 1
  | a :: r, b :: s => if a = b then fR c r s else c a b

theorem KI.list {α : Type} [DecidableEq α] {c : α → α → Int} (h : KI c) : KI (fR c) where
  eq := by
    intro a
    induction a with
    | nil => intro b; cases b <;> simp [fR]
    | cons x r ih =>
      intro b
      cases b with
      | nil => simp [fR]
      | cons y s =>
        unfold fR
        split
        · rename_i e; subst e; rw [ih]; simp
        · rename_i e
          have := h.eq x y
          constructor
          · intro h0; exact absurd (this.1 h0) e
          · intro h0; cases h0; exact absurd rfl e
  anti := by
    intro a
    induction a with
    | nil => intro b; cases b <;> simp [fR]
    | cons x r ih =>
      intro b
      cases b with
      | nil => simp [fR]
      | cons y s =>
        unfold fR
        by_cases e : x = y
        · subst e; simp only [if_true]; exact ih s
        · rw [if_neg e, if_neg (fun e' => e e'.symm)]; exact h.anti x y
  trans := by
    intro a
    induction a with
    | nil =>
      intro b d
      cases b <;> cases d <;> simp [fR]
    | cons x r ih =>
      intro b d
      cases b with
      | nil => simp [fR]
      | cons y s =>
        cases d with
        | nil => simp [fR]
        | cons z t =>
          unfold fR
          by_cases e1 : x = y
          · subst e1
            rw [if_pos rfl]
            by_cases e2 : x = z
            · subst e2; rw [if_pos rfl, if_pos rfl]; exact ih s t
            · rw [if_neg e2, if_neg e2]; exact fun _ h => h
          · rw [if_neg e1]
            by_cases e2 : y = z
            · have hz : ¬ x = z := fun e => e1 (e.trans e2.symm)
              intro h _
              rw [if_neg hz, ← e2]; exact h
            · rw [if_neg e2]
              intro h1 h2
              by_cases e3 : x = z
              · subst e3
                have h3 := (h.anti x y).1 h1
                omega
              · rw [if_neg e3]; exact h.trans x y z h1 h2

def CN (a b : UInt8) : Int := if a < b then -1 else if b < a then 1 else 0

theorem MV : KI CN where
  eq a b := by
    unfold CN
    constructor
    · intro h
      split at h
      · cases h
      · split at h
        · cases h
        · rename_i h1 h2
          rw [UInt8.lt_iff_toNat_lt] at h1 h2
          exact UInt8.toNat_inj.1 (by omega)
    · rintro rfl
      have : ¬ a < a := by rw [UInt8.lt_iff_toNat_lt]; omega
      simp [this]
  anti a b := by
    unfold CN
    simp only [UInt8.lt_iff_toNat_lt]
    (repeat' split) <;> omega
  trans a b d := by
    unfold CN
    simp only [UInt8.lt_iff_toNat_lt]
    (repeat' split) <;> omega

theorem EL : ∀ (a b : List UInt8), Go.Lib.compareBytes a b = fR CN a b
  | [], [] => rfl
  | [], _ :: _ => rfl
  | _ :: _, [] => rfl
  | a :: r, b :: s => by
    unfold Go.Lib.compareBytes fR
    rw [EL r s]
    by_cases e : a = b
    · subst e
      have : ¬ a < a := by rw [UInt8.lt_iff_toNat_lt]; omega
      simp [this]
    · rw [if_neg e]
      unfold CN
      have : ¬ (¬ a < b ∧ ¬ b < a) := by
        rintro ⟨h1, h2⟩
        rw [UInt8.lt_iff_toNat_lt] at h1 h2
        exact e (UInt8.toNat_inj.1 (by omega))
      by_cases h1 : a < b
      · simp [h1]
      · have h2 : b < a := Classical.byContradiction fun h2 => this ⟨h1, h2⟩
        simp [h1, h2]

def PA (a b : ByteArray) : Int := fR CN a.data.toList b.data.toList

theorem aCv (a b : ByteArray) : PS a b = PA a b := EL _ _

theorem data_inj {x y : ByteArray} (h : x.data.toList = y.data.toList) : x = y := by
  cases x; cases y
  congr 1
  exact Array.toList_inj.1 h

theorem HV : KI PA where
  eq a b := by unfold PA; rw [(MV.list).eq]; exact ⟨data_inj, fun h => by rw [h]⟩
  anti a b := (MV.list).anti _ _
  trans a b d := (MV.list).trans _ _ _

def zA (a b : aH) : Int := if a.Kind = b.Kind then (if a.Num = b.Num then PA a.Text b.Text else nU a.Num b.Num) else nU a.Kind b.Kind

theorem IA : KI zA where
  eq a b := by
    obtain ⟨a1, a2, a3⟩ := a
    obtain ⟨b1, b2, b3⟩ := b
    unfold zA
    simp only [aH.mk.injEq]
    by_cases h1 : a1 = b1
    · by_cases h2 : a2 = b2
      · simp [h1, h2, HV.eq]
      · simp [h1, h2, EC.eq]
    · simp [h1, EC.eq]
  anti a b := by
    unfold zA
    by_cases h1 : a.Kind = b.Kind
    · rw [if_pos h1, if_pos h1.symm]
      by_cases h2 : a.Num = b.Num
      · rw [if_pos h2, if_pos h2.symm]; exact HV.anti _ _
      · rw [if_neg h2, if_neg (fun h => h2 h.symm)]; exact EC.anti _ _
    · rw [if_neg h1, if_neg (fun h => h1 h.symm)]; exact EC.anti _ _
  trans a b d := by
    unfold zA
    intro h1 h2
    have lt : ∀ {x y : Int}, nU x y < 0 → x < y := fun {x y} h => by unfold nU at h; split at h <;> (try split at h) <;> omega
    have mk : ∀ {x y : Int}, x < y → nU x y < 0 := fun {x y} h => by unfold nU; rw [if_pos h]; omega
    by_cases e1 : a.Kind = b.Kind
    · rw [if_pos e1] at h1
      by_cases e2 : b.Kind = d.Kind
      · rw [if_pos e2] at h2
        rw [if_pos (e1.trans e2)]
        by_cases f1 : a.Num = b.Num
        · rw [if_pos f1] at h1
          by_cases f2 : b.Num = d.Num
          · rw [if_pos f2] at h2
            rw [if_pos (f1.trans f2)]
            exact HV.trans _ _ _ h1 h2
          · rw [if_neg f2] at h2
            rw [f1, if_neg f2]; exact h2
        · rw [if_neg f1] at h1
          have g1 := lt h1
          by_cases f2 : b.Num = d.Num
          · rw [← f2, if_neg f1]; exact h1
          · rw [if_neg f2] at h2
            have g2 := lt h2
            rw [if_neg (by omega)]
            exact mk (by omega)
      · rw [if_neg e2] at h2
        rw [e1, if_neg e2]; exact h2
    · rw [if_neg e1] at h1
      have g1 := lt h1
      by_cases e2 : b.Kind = d.Kind
      · rw [← e2, if_neg e1]; exact h1
      · rw [if_neg e2] at h2
        have g2 := lt h2
        rw [if_neg (by omega)]
        exact mk (by omega)

def eE (a b : List aH) : Int := fR zA a b

theorem lG : KI eE := IA.list

end Go.Abs
namespace Go.Abs
open Go
theorem RE (x y : Int) : jS x y = some (nU x y) := by
  unfold jS oV nU
  by_cases h1 : x < y
  · simp [h1]
  · by_cases h2 : y < x <;> simp [h1, h2]

theorem aAx (x y : Int) : eG x y = some (nU x y) := by
  unfold eG jY nU
  by_cases h1 : x < y
  · simp [h1]
  · by_cases h2 : y < x <;> simp [h1, h2]

theorem DO {v : aH} (h : FH v = true) : v.Kind = 1 ∧ v.Text = (⟨#[]⟩ : ByteArray) := by
  simp only [FH, QG, Bool.and_eq_true, decide_eq_true_eq] at h; exact h

theorem BJ {v : aH} (h : EZ v = true) : v.Kind = 2 ∧ v.Num = 0 ∧ v.Text.size ≤ 64 := by
  simp only [EZ, Bool.and_eq_true, decide_eq_true_eq] at h; exact ⟨h.1.1, h.1.2, by omega⟩

theorem KN {v : aH} (h : tI v = true) : FH v = true ∨ (FH v = false ∧ EZ v = true) := by
  unfold tI at h
  cases hn : FH v
  · rw [hn] at h; exact .inr ⟨rfl, by simpa using h⟩
  · exact .inl rfl

theorem aA0 (a : ByteArray) : PA a a = 0 := (HV.eq a a).2 rfl

theorem FE (a : Int) : nU a a = 0 := (EC.eq a a).2 rfl

theorem aBr {a b : aH} (ha : tI a = true) (hb : tI b = true) : rQ a b = some (zA a b) := by
  unfold rQ
  simp only [of_eq, Option.bind_some]
  rcases KN ha with h1 | ⟨h1, h1'⟩ <;> rcases KN hb with h2 | ⟨h2, h2'⟩
  · obtain ⟨k1, t1⟩ := DO h1
    obtain ⟨k2, t2⟩ := DO h2
    simp only [h1, h2, if_true, Bool.not_true, Bool.or_self, cond_false, aAx, Option.bind_some]
    unfold zA
    rw [k1, k2, t1, t2, if_pos rfl, aA0]
    by_cases hn : a.Num = b.Num
    · rw [if_pos hn, hn, FE]
    · rw [if_neg hn]
  · obtain ⟨k1, t1⟩ := DO h1
    obtain ⟨k2, n2, _⟩ := BJ h2'
    simp only [h1, h2, h2', if_true, Bool.false_eq_true, if_false, Bool.not_true, Bool.or_self, cond_false]
    unfold zA
    rw [k1, k2]; rfl
  · obtain ⟨k1, n1, _⟩ := BJ h1'
    obtain ⟨k2, t2⟩ := DO h2
    simp only [h1, h1', h2, if_true, Bool.false_eq_true, if_false, Bool.not_true, Bool.or_self, cond_false]
    unfold zA
    rw [k1, k2]; rfl
  · obtain ⟨k1, n1, _⟩ := BJ h1'
    obtain ⟨k2, n2, _⟩ := BJ h2'
    simp only [h1, h1', h2, h2', if_true, Bool.false_eq_true, if_false, Bool.not_true, Bool.or_self, cond_false]
    unfold zA nE iX
    rw [k1, k2, n1, n2, if_pos rfl, if_pos rfl]
    simp [aCv]

theorem wO {r : List aH} (h : fV r = true) : r.length ≤ 8 ∧ ∀ v ∈ r, tI v = true := by
  simp only [fV, Bool.and_eq_true, decide_eq_true_eq, List.all_eq_true] at h; exact h

theorem VS {a b : List aH} {k : Nat} (hk : k = a.length ∨ k = b.length) (h1 : k ≤ a.length) (h2 : k ≤ b.length) : eE (a.drop k) (b.drop k) = nU a.length b.length := by
  rcases hk with rfl | rfl
  · rw [List.drop_length]
    by_cases h : a.length = b.length
    · rw [h, List.drop_length, FE]; rfl
    · rw [List.drop_eq_getElem_cons (by omega)]
      show (-1 : Int) = _
      unfold nU; rw [if_pos (by omega)]
  · rw [List.drop_length]
    by_cases h : a.length = b.length
    · rw [← h, List.drop_length, FE]; rfl
    · rw [List.drop_eq_getElem_cons (by omega)]
      show (1 : Int) = _
      unfold nU; rw [if_neg (by omega), if_pos (by omega)]

theorem YM {a b : List aH} (hl : a.length ≤ 8) (hlb : b.length ≤ 8) (n : Nat) (hn : n = min a.length b.length) : ∀ (m k : Nat), n - k = m → k ≤ n →
    ∃ x, lp (fun s : Int × Int => bX (fun st y0 => (jR y0 st b).bind fun o => some (o.2, o.1)) (a.take n) (n : Nat) s.1 s.2) ((k : Int) - 1, (k : Int)) = some x ∧
      ((∃ sg, x = .inl sg ∧ eE (a.drop k) (b.drop k) = nU a.length b.length) ∨
        (∃ i : Nat, x = .inr ((i : Int), (i : Int)) ∧ i < a.length ∧ i < b.length ∧ eE (a.drop k) (b.drop k) = zA (a.getD i default) (b.getD i default)))
  | 0, k, hm, hk => by
    have : k = n := by omega
    subst this
    refine ⟨.inl ((k : Int) - 1), cL ?_, .inl ⟨_, rfl, VS (by omega) (by omega) (by omega)⟩⟩
    show bX _ _ _ _ _ = _
    simp only [bX, cX, cond_false]
  | m + 1, k, hm, hk => by
    have h1 : k < a.length := by omega
    have h2 : k < b.length := by omega
    have ht : (a.take n)[k]? = some a[k] := by
      rw [List.getElem?_take_of_lt (by omega)]; exact List.getElem?_eq_getElem h1
    obtain ⟨d1, d2, d3, d4⟩ := idx ht (by simp; omega)
    have hlt : (a.take n).length = n := by simp; omega
    rw [hlt] at d1 d2
    obtain ⟨_, e2, e3, _⟩ := idx (List.getElem?_eq_getElem h2) (by omega)
    have hw : IntKind.i64.wrap ((k : Int) - 1 + 1) = (k : Int) := by rw [dI (by omega) (by omega)]; omega
    have hb : (fun s : Int × Int => bX (fun st y0 => (jR y0 st b).bind fun o => some (o.2, o.1)) (a.take n) (n : Nat) s.1 s.2) ((k : Int) - 1, (k : Int)) =
        some (if a[k] = b[k] then .inl ((k : Int), ((k + 1 : Nat) : Int)) else .inr (.inr ((k : Int), (k : Int)))) := by
      show bX _ _ _ _ _ = _
      simp only [bX, d1, cond_true, hlt, aQ d2, d3, d4, jR, hw, aQ e2, e3, veq, Option.bind_some]
      by_cases h : a[k] = b[k] <;> simp [h]
    have ea : a.drop k = a[k] :: a.drop (k + 1) := List.drop_eq_getElem_cons h1
    have eb : b.drop k = b[k] :: b.drop (k + 1) := List.drop_eq_getElem_cons h2
    by_cases h : a[k] = b[k]
    · rw [if_pos h] at hb
      obtain ⟨x, e, hx⟩ := YM hl hlb n hn m (k + 1) (by omega) (by omega)
      have hc : eE (a.drop k) (b.drop k) = eE (a.drop (k + 1)) (b.drop (k + 1)) := by
        rw [ea, eb]; unfold eE; rw [fR, if_pos h]
      refine ⟨x, ?_, by rw [hc]; exact hx⟩
      rw [eB hb]
      rw [show ((k + 1 : Nat) : Int) - 1 = (k : Int) by omega] at e
      exact e
    · rw [if_neg h] at hb
      refine ⟨_, cL hb, .inr ⟨k, rfl, h1, h2, ?_⟩⟩
      rw [ea, eb]; unfold eE; rw [fR, if_neg h]
      simp [List.getD_eq_getElem?_getD, h1, h2]

theorem QL (a b : List aH) : rB a b = some (if fV a && fV b then eE a b else 0) := by
  unfold rB
  rw [GR]
  simp only [Option.bind_some]
  cases ha : fV a
  · simp [cM]
  · simp only [Bool.not_true, Bool.not_false, cM, cond_true, GR, Option.bind_some, Bool.false_or]
    cases hb : fV b
    · simp
    · obtain ⟨la, ma⟩ := wO ha
      obtain ⟨lb, mb⟩ := wO hb
      have hif : (if ((List.length b : Nat) : Int) < ((List.length a : Nat) : Int) then ((List.length b : Nat) : Int) else ((List.length a : Nat) : Int)) = ((min a.length b.length : Nat) : Int) := by split <;> omega
      have hlt : (a.take (min a.length b.length)).length = min a.length b.length := by rw [List.length_take]; omega
      simp only [Bool.not_true, cond_false, hif, Int.toNat_natCast, vB, Option.bind_some, fD, eV, hlt, Bool.and_self, if_true]
      rw [aQ ⟨by omega, by omega⟩]
      obtain ⟨x, e, hx⟩ := YM (a := a) (b := b) la lb _ rfl _ 0 rfl (Nat.zero_le _)
      have e' : lp (fun s : Int × Int => bX (fun st y0 => (jR y0 st b).bind fun o => some (o.2, o.1)) (a.take (min a.length b.length)) (min a.length b.length : Nat) s.1 s.2) ((-1 : Int), (0 : Int)) = some x := e
      rw [e']
      simp only [List.drop_zero] at hx
      rcases hx with ⟨sg, rfl, h⟩ | ⟨i, rfl, h1, h2, h⟩
      · simp [dM, RE, h]
      · have hi : decide ((i : Int) < 0) = false := by simp
        simp only [Option.bind_some, Sum.elim_inr, hi, cond_false, Int.toNat_natCast]
        rw [aQ ⟨by omega, by omega⟩, aQ ⟨by omega, by omega⟩]
        have g1 : a.getD i default ∈ a := by simp [List.getD_eq_getElem?_getD, h1]
        have g2 : b.getD i default ∈ b := by simp [List.getD_eq_getElem?_getD, h2]
        rw [aBr (ma _ g1) (mb _ g2), h]
        simp only [Option.bind_some]

theorem aCe {s : ByteArray} {i : Nat} (h : i < s.data.toList.length) : bt s (i : Int) = ((s.data.toList[i]).toNat : Int) := by
  have h' : i < s.data.size := by simpa using h
  unfold bt
  simp only [Int.toNat_natCast, Array.getElem_toList]
  rw [Array.getD_eq_getD_getElem?, Array.getElem?_eq_getElem h']
  rfl

theorem UB {a b : aH} (ha : a.Text.size ≤ 64) (hb : b.Text.size ≤ 64) : ∀ (m k : Nat), min a.Text.size b.Text.size - k = m → k ≤ min a.Text.size b.Text.size →
    ∃ x, lp (fun s => fZ a b s) (k : Int) = some x ∧
      ((x = .inl () ∧ fR CN (a.Text.data.toList.drop k) (b.Text.data.toList.drop k) = nU a.Text.size b.Text.size) ∨ (∃ v, x = .inr v ∧ fR CN (a.Text.data.toList.drop k) (b.Text.data.toList.drop k) = v))
  | 0, k, hm, hk => by
    have hsa : a.Text.data.toList.length = a.Text.size := by rw [Array.length_toList]; rfl
    have hsb : b.Text.data.toList.length = b.Text.size := by rw [Array.length_toList]; rfl
    refine ⟨.inl (), cL ?_, .inl ⟨rfl, ?_⟩⟩
    · show fZ a b _ = _
      have : ((decide ((k : Int) < ((ByteArray.size a.Text : Nat) : Int))) && (decide ((k : Int) < ((ByteArray.size b.Text : Nat) : Int)))) = false := by
        rw [Bool.and_eq_false_iff]
        simp only [decide_eq_false_iff_not]
        omega
      simp only [fZ, this, cond_false]
    · by_cases h1 : a.Text.size ≤ k
      · rw [List.drop_eq_nil_of_le (by omega)]
        by_cases h2 : b.Text.size ≤ k
        · rw [List.drop_eq_nil_of_le (by omega)]
          have : a.Text.size = b.Text.size := by omega
          rw [this, FE]; rfl
        · rw [List.drop_eq_getElem_cons (by omega)]
          show (-1 : Int) = _
          unfold nU; rw [if_pos (by omega)]
      · have h2 : b.Text.size ≤ k := by omega
        rw [@List.drop_eq_nil_of_le _ b.Text.data.toList k (by omega), List.drop_eq_getElem_cons (by omega)]
        show (1 : Int) = _
        unfold nU; rw [if_neg (by omega), if_pos (by omega)]
  | m + 1, k, hm, hk => by
    have hsa : a.Text.data.toList.length = a.Text.size := by rw [Array.length_toList]; rfl
    have hsb : b.Text.data.toList.length = b.Text.size := by rw [Array.length_toList]; rfl
    have h1 : k < a.Text.data.toList.length := by omega
    have h2 : k < b.Text.data.toList.length := by omega
    have c1 : decide ((k : Int) < ((ByteArray.size a.Text : Nat) : Int)) = true := by simp; omega
    have c2 : decide ((k : Int) < ((ByteArray.size b.Text : Nat) : Int)) = true := by simp; omega
    have p1 : 0 ≤ (k : Int) ∧ (k : Int) < ((ByteArray.size a.Text : Nat) : Int) := ⟨by omega, by omega⟩
    have p2 : 0 ≤ (k : Int) ∧ (k : Int) < ((ByteArray.size b.Text : Nat) : Int) := ⟨by omega, by omega⟩
    have hw : IntKind.i64.wrap ((k : Int) + 1) = ((k + 1 : Nat) : Int) := by rw [dI (by omega) (by omega)]; omega
    have ea := List.drop_eq_getElem_cons h1
    have eb := List.drop_eq_getElem_cons h2
    have hb' : fZ a b (k : Int) = some (if a.Text.data.toList[k] = b.Text.data.toList[k] then .inl ((k + 1 : Nat) : Int) else .inr (.inr (CN a.Text.data.toList[k] b.Text.data.toList[k]))) := by
      simp only [fZ, c1, c2, Bool.and_self, cond_true, aQ p1, aQ p2, aCe h1, aCe h2, hw]
      generalize a.Text.data.toList[k] = x
      generalize b.Text.data.toList[k] = y
      by_cases e : x = y
      · subst e; simp
      · have e' : ¬ ((x.toNat : Int) = (y.toNat : Int)) := fun h => e (UInt8.toNat_inj.1 (by omega))
        simp only [e', decide_false, Bool.not_false, cond_true, if_neg e]
        unfold CN
        simp only [UInt8.lt_iff_toNat_lt]
        by_cases l : x.toNat < y.toNat
        · have : ((x.toNat : Int) < (y.toNat : Int)) := by omega
          simp [l]
        · have l2 : y.toNat < x.toNat := by
            rcases Nat.lt_or_ge y.toNat x.toNat with h | h
            · exact h
            · exact absurd (UInt8.toNat_inj.1 (by omega)) e
          simp [l, l2]
    by_cases e : a.Text.data.toList[k] = b.Text.data.toList[k]
    · rw [if_pos e] at hb'
      obtain ⟨x, hx1, hx2⟩ := UB ha hb m (k + 1) (by omega) (by omega)
      refine ⟨x, by rw [eB (show (fun s => fZ a b s) (k : Int) = _ from hb')]; exact hx1, ?_⟩
      rw [ea, eb, fR, if_pos e]; exact hx2
    · rw [if_neg e] at hb'
      refine ⟨_, cL (show (fun s => fZ a b s) (k : Int) = _ from hb'), .inr ⟨_, rfl, ?_⟩⟩
      rw [ea, eb, fR, if_neg e]

theorem QN {v : aH} (h : tI v = true) : v.Text.size ≤ 64 := by
  rcases KN h with h | ⟨_, h⟩
  · rw [(DO h).2]; decide
  · exact (BJ h).2.2

theorem QU {v : aH} (h : tI v = true) : v.Kind = 1 ∨ v.Kind = 2 := by
  rcases KN h with h | ⟨_, h⟩
  · exact .inl (DO h).1
  · exact .inr (BJ h).1

theorem UF {a b : aH} (ha : tI a = true) (hb : tI b = true) : rN a b = some (zA a b) := by
  unfold rN
  simp only [NI, ha, hb, Option.bind_some, Bool.not_true, Bool.not_false, cM, cond_true, Bool.or_self, cond_false]
  unfold zA
  by_cases hk : a.Kind = b.Kind
  · rw [if_pos hk]
    by_cases hn : a.Num = b.Num
    · rw [if_pos hn]
      simp only [hk, hn, decide_true, Bool.not_true, cond_false, tF]
      obtain ⟨x, e, hx⟩ := UB (QN ha) (QN hb) _ 0 rfl (Nat.zero_le _)
      simp only [Int.natCast_zero, List.drop_zero] at e hx
      rw [e]
      have ht : PA a.Text b.Text = fR CN a.Text.data.toList b.Text.data.toList := rfl
      rcases hx with ⟨rfl, h⟩ | ⟨v, rfl, h⟩
      · rw [ht, h]
        simp only [Option.bind_some, Sum.elim_inl, qM]
        unfold nU
        by_cases h1 : a.Text.size = b.Text.size
        · have h1' : ((a.Text.size : Nat) : Int) = ((b.Text.size : Nat) : Int) := by omega
          simp [h1']
        · have h1' : ¬ ((a.Text.size : Nat) : Int) = ((b.Text.size : Nat) : Int) := by omega
          by_cases h2 : ((a.Text.size : Nat) : Int) < ((b.Text.size : Nat) : Int)
          · simp only [h1', h2, decide_false, decide_true, Bool.not_false, cond_true, if_true]
          · have h3 : ((b.Text.size : Nat) : Int) < ((a.Text.size : Nat) : Int) := by omega
            simp only [h1', h2, h3, decide_false, Bool.not_false, cond_true, cond_false, if_true, if_false]
      · rw [ht, h]; rfl
    · rw [if_neg hn]
      simp only [hk, hn, decide_true, decide_false, Bool.not_true, Bool.not_false, cond_false, cond_true]
      unfold nU
      by_cases h1 : a.Num < b.Num
      · simp [h1]
      · have h2 : b.Num < a.Num := by omega
        simp [h1, h2]
  · rw [if_neg hk]
    simp only [hk, decide_false, Bool.not_false, cond_true]
    rcases QU ha with h1 | h1 <;> rcases QU hb with h2 | h2
    · exact absurd (h1.trans h2.symm) hk
    · rw [h1, h2]; rfl
    · rw [h1, h2]; rfl
    · exact absurd (h1.trans h2.symm) hk

theorem PW {a b : List aH} (ha : fV a = true) (hb : fV b = true) : ∀ (m k : Nat), min a.length b.length - k = m → k ≤ min a.length b.length →
    ∃ x, lp (fun s => fY a b s) (k : Int) = some x ∧ ((x = .inl () ∧ eE (a.drop k) (b.drop k) = nU a.length b.length) ∨ (∃ v, x = .inr v ∧ eE (a.drop k) (b.drop k) = v))
  | 0, k, hm, hk => by
    refine ⟨.inl (), cL ?_, .inl ⟨rfl, VS (by omega) (by omega) (by omega)⟩⟩
    show fY a b _ = _
    have : ((decide ((k : Int) < ((a.length : Nat) : Int))) && (decide ((k : Int) < ((b.length : Nat) : Int)))) = false := by
      rw [Bool.and_eq_false_iff]
      simp only [decide_eq_false_iff_not]
      omega
    simp only [fY, this, cond_false]
  | m + 1, k, hm, hk => by
    obtain ⟨la, ma⟩ := wO ha
    obtain ⟨lb, mb⟩ := wO hb
    have h1 : k < a.length := by omega
    have h2 : k < b.length := by omega
    obtain ⟨d1, d2, d3, d4⟩ := idx (List.getElem?_eq_getElem h1) (by omega)
    obtain ⟨e1, e2, e3, _⟩ := idx (List.getElem?_eq_getElem h2) (by omega)
    have ea := List.drop_eq_getElem_cons h1
    have eb := List.drop_eq_getElem_cons h2
    have hb' : fY a b (k : Int) = some (if a[k] = b[k] then .inl ((k + 1 : Nat) : Int) else .inr (.inr (zA a[k] b[k]))) := by
      simp only [fY, d1, e1, Bool.and_self, cond_true, aQ d2, aQ e2, d3, e3, d4, UF (ma _ (List.getElem_mem h1)) (mb _ (List.getElem_mem h2)), Option.bind_some]
      by_cases h : a[k] = b[k]
      · have := (IA.eq a[k] b[k]).2 h
        simp [h, (IA.eq b[k] b[k]).2 rfl]
      · have : ¬ zA a[k] b[k] = 0 := fun h' => h ((IA.eq _ _).1 h')
        simp [h, this]
    by_cases h : a[k] = b[k]
    · rw [if_pos h] at hb'
      obtain ⟨x, hx1, hx2⟩ := PW ha hb m (k + 1) (by omega) (by omega)
      refine ⟨x, by rw [eB (show (fun s => fY a b s) (k : Int) = _ from hb')]; exact hx1, ?_⟩
      have hc : eE (a.drop k) (b.drop k) = eE (a.drop (k + 1)) (b.drop (k + 1)) := by
        rw [ea, eb]; unfold eE; rw [fR, if_pos h]
      rw [hc]; exact hx2
    · rw [if_neg h] at hb'
      refine ⟨_, cL (show (fun s => fY a b s) (k : Int) = _ from hb'), .inr ⟨_, rfl, ?_⟩⟩
      rw [ea, eb]; unfold eE; rw [fR, if_neg h]

theorem JG (a b : List aH) (hla : a.length ≤ 17592186044416) (hlb : b.length ≤ 17592186044416) : oU a b = some (if fV a && fV b then eE a b else 0) := by
  unfold oU
  rw [DA a (by omega)]
  simp only [Option.bind_some]
  cases ha : fV a
  · simp [cM]
  · simp only [Bool.not_true, Bool.not_false, cM, cond_true, DA b (by omega), Option.bind_some, Bool.false_or]
    cases hb : fV b
    · simp
    · simp only [Bool.not_true, cond_false, tG, Bool.and_self, if_true]
      obtain ⟨x, e, hx⟩ := PW ha hb _ 0 rfl (Nat.zero_le _)
      simp only [Int.natCast_zero, List.drop_zero] at e hx
      rw [e]
      rcases hx with ⟨rfl, h⟩ | ⟨v, rfl, h⟩
      · rw [h]
        simp only [Option.bind_some, Sum.elim_inl, qE]
        unfold nU
        by_cases h1 : a.length < b.length
        · simp [h1]
        · by_cases h2 : b.length < a.length <;> simp [h1, h2]
      · rw [h]; rfl

end Go.Abs
namespace Go.Abs
open Go
def jE (e : aC) : aA := ⟨e.At, e.Net⟩

def gA (r : List aH) (f : List aA) : List aC → List (List aH × List aA)
  | [] => [(r, f)]
  | e :: l => if e.Row = r then gA r (f ++ [jE e]) l else (r, f) :: gA e.Row [jE e] l

def groups : List aC → List (List aH × List aA)
  | [] => []
  | e :: l => gA e.Row [jE e] l

def itG {σ : Type} (y : σ → List aH → List aA → Option (σ × Bool)) : List (List aH × List aA) → σ → Option σ
  | [], s => some s
  | g :: gs, s => (y s g.1 g.2).bind fun x => if x.2 then itG y gs x.1 else some x.1

def okL (l : List aC) : Prop := l.length ≤ 3518437208783 ∧ ∀ e ∈ l, e.Row.length ≤ 4398046510976

theorem OG {r : List aH} (h : r.length ≤ 4398046510976) : wZ r = some r := by
  unfold wZ
  rw [aQ ⟨by omega, by omega, by omega⟩, aQ (by simp only [List.length_nil, Nat.zero_add]; omega)]
  rfl

theorem OF {σ : Type} {y : σ → List aH → List aA → Option (σ × Bool)} {l : List aC} (hl : okL l) (row : List aH) (sg : σ) : ∀ (r : List aC) (k : Nat) (f : List aA), l.drop k = r → k ≤ l.length → f.length ≤ k →
    ∃ k' f', k ≤ k' ∧ k' ≤ l.length ∧ f'.length ≤ k' ∧ lp (fun s : σ × Int × List aA => iV y l row s.1 s.2.1 s.2.2) (sg, (k : Int), f) = some (sg, ((k' : Nat) : Int), f') ∧
      gA row f r = (row, f') :: groups (l.drop k') ∧ (∀ e r', r = e :: r' → e.Row = row → k < k')
  | [], k, f, hd, hk, hf => by
    have : k = l.length := by
      have := congrArg List.length hd
      simp only [List.length_drop, List.length_nil] at this; omega
    subst this
    refine ⟨l.length, f, Nat.le_refl _, Nat.le_refl _, hf, cL ?_, by simp [gA, groups], fun e r' h => by cases h⟩
    show iV _ _ _ _ _ _ = _
    simp only [iV, cX, cM, cond_false, Option.bind_some, Bool.false_and]
    exact aQ (fun h => by cases h)
  | a :: r, k, f, hd, hk, hf => by
    obtain ⟨h1, h2⟩ := drop_cons hd
    have hlt : k < l.length := (List.getElem?_eq_some_iff.1 h1).1
    obtain ⟨hll, hlr⟩ := hl
    obtain ⟨d1, d2, d3, d4⟩ := idx h1 (by omega)
    have har := hlr a (List.mem_of_getElem? h1)
    have hb : (fun s : σ × Int × List aA => iV y l row s.1 s.2.1 s.2.2) (sg, (k : Int), f) = some (if a.Row = row then .inl (sg, ((k + 1 : Nat) : Int), f ++ [jE a]) else .inr (sg, (k : Int), f)) := by
      show iV _ _ _ _ _ _ = _
      simp only [iV, d1, d3, d4, cM, cond_true, aAc a.Row row (by omega), Option.bind_some, Bool.true_and]
      rw [aQ (fun _ => d2)]
      by_cases e : a.Row = row
      · simp only [e, decide_true, cond_true, if_true]
        rw [aQ d2, aQ d2, aQ (by simp only [List.length_cons, List.length_nil]; omega)]
        rfl
      · simp [e]
    by_cases e : a.Row = row
    · rw [if_pos e] at hb
      obtain ⟨k', f', g1, g2, g3, g4, g5, _⟩ := OF ⟨hll, hlr⟩ row sg r (k + 1) (f ++ [jE a]) h2 (by omega) (by simp; omega) (y := y)
      refine ⟨k', f', by omega, g2, g3, by rw [eB hb]; exact g4, by simp [gA, e, g5], fun _ _ _ _ => by omega⟩
    · rw [if_neg e] at hb
      refine ⟨k, f, Nat.le_refl _, hk, hf, cL hb, ?_, fun b r' h hr => by cases h; exact absurd hr e⟩
      rw [hd]; simp [gA, e, groups]

end Go.Abs
