/- What the law BagForgets stands on: the framework, the given functions as plain functions, their walks, and the plain laws; part 5. -/
import Derived.Test.YtapehjfhmhfaoaaBagForgetsZ4
set_option linter.unusedSimpArgs false
set_option linter.unusedVariables false
namespace Go.Abs
open Go Go.RowKit Go.Proofs
theorem uI  (r : Bool) (h0 : pQ  = some r) : dK Try.prog 5 [] (aG r) := by
  intro H0
  refine dP Try.func5 ?_
  have hO := aN.start H0
  unfold pQ at h0
  refine cJ aF 1 [] ?_
  refine aO ?_
  refine aU aF 3 ?_
  refine bO 1 ?_
  refine xL [(aL (aE.mk (1 : Int) (1 : Int) ByteArray.empty))] 3 ?_
  refine bE ?_
  refine dX (l := [(1, (eL aL ([aE.mk (1 : Int) (1 : Int) ByteArray.empty])))]) ⟨[(1, (dW [(aL (aE.mk (1 : Int) (1 : Int) ByteArray.empty))]))], by kernel_rfl, rfl, ⟨TU (l := [aE.mk (1 : Int) (1 : Int) ByteArray.empty]), trivial⟩⟩ ?_
  refine aI (aJ (?_))
  refine aO ?_
  refine aU aF 2 ?_
  obtain ⟨x1, hx2, h0⟩ := aY h0
  refine sQ [] true (.tup []) [] [] [] (List.Perm.refl _) (fun _ => ND x1 hx2) (fun hb => by cases hb) hO ?_
  intro r3 M4 L5 H hP6 hO
  obtain ⟨lo7, lm8, rfl, rfl, rfl⟩ := hP6
  replace hO : aN ⟨H0, [], dQ lm8 x1 :: []⟩ H [(iB lo7 lm8 x1)] := hO
  refine bE ?_
  refine cO [] [(2, (.lp lo7 0 0))] ?_
  refine aO ?_
  refine aU aF 8 ?_
  refine bO 5 ?_
  refine xL [(aR (aM.mk ([aE.mk (1 : Int) (1 : Int) ByteArray.empty]) (2 : Int) (1 : Int))), (aR (aM.mk ([aE.mk (1 : Int) (1 : Int) ByteArray.empty]) (9 : Int) (-1 : Int)))] 3 ?_
  obtain ⟨x9, hx10, h0⟩ := aY h0
  refine sQ [] true (eI (0 : Int)) [dQ lm8 x1] [] [0] (List.Perm.refl _) (fun hb => (@wQ.sub _ _ [(.lp lo7 0 0), (dW [(aR (aM.mk ([aE.mk (1 : Int) (1 : Int) ByteArray.empty]) (2 : Int) (1 : Int))), (aR (aM.mk ([aE.mk (1 : Int) (1 : Int) ByteArray.empty]) (9 : Int) (-1 : Int)))])] _ _ _ _ (BN lo7 lm8 x1 ([aM.mk ([aE.mk (1 : Int) (1 : Int) ByteArray.empty]) (2 : Int) (1 : Int), aM.mk ([aE.mk (1 : Int) (1 : Int) ByteArray.empty]) (9 : Int) (-1 : Int)]) _ hx10) ⟨aP.refl _, TU (l := [aM.mk ([aE.mk (1 : Int) (1 : Int) ByteArray.empty]) (2 : Int) (1 : Int), aM.mk ([aE.mk (1 : Int) (1 : Int) ByteArray.empty]) (9 : Int) (-1 : Int)]), trivial⟩)) (fun hb => by cases hb) hO ?_
  intro r11 M12 L13 H hP14 hO
  obtain ⟨rfl, rfl, rfl⟩ := hP14
  replace hO : aN ⟨H0, [], dQ lm8 x9.2 :: []⟩ H [(iB lo7 lm8 x9.2)] := hO
  refine bE ?_
  refine cO [] [(3, (eI x9.1))] ?_
  refine aO ?_
  refine aU aF 3 ?_
  refine bO 1 ?_
  obtain ⟨x15, hx16, h0⟩ := aY h0
  refine sQ [] true (eI (0 : Int)) [dQ lm8 x9.2] [] [0] (List.Perm.refl _) (fun hb => (GX lo7 lm8 x9.2 (5 : Int) _ hx16)) (fun hb => by cases hb) hO ?_
  intro r17 M18 L19 H hP20 hO
  obtain ⟨rfl, rfl, rfl⟩ := hP20
  replace hO : aN ⟨H0, [], dQ lm8 x15.2 :: []⟩ H [(iB lo7 lm8 x15.2)] := hO
  refine bE ?_
  refine cO [] [(4, (eI x15.1))] ?_
  refine aO ?_
  refine aU aF 6 ?_
  refine bO 3 ?_
  refine xL [(aR (aM.mk ([aE.mk (1 : Int) (1 : Int) ByteArray.empty]) (4 : Int) (1 : Int)))] 3 ?_
  obtain ⟨x21, hx22, h0⟩ := aY h0
  refine sQ [] true (eI (0 : Int)) [dQ lm8 x15.2] [] [0] (List.Perm.refl _) (fun hb => (@wQ.sub _ _ [(.lp lo7 0 0), (dW [(aR (aM.mk ([aE.mk (1 : Int) (1 : Int) ByteArray.empty]) (4 : Int) (1 : Int)))])] _ _ _ _ (BN lo7 lm8 x15.2 ([aM.mk ([aE.mk (1 : Int) (1 : Int) ByteArray.empty]) (4 : Int) (1 : Int)]) _ hx22) ⟨aP.refl _, TU (l := [aM.mk ([aE.mk (1 : Int) (1 : Int) ByteArray.empty]) (4 : Int) (1 : Int)]), trivial⟩)) (fun hb => by cases hb) hO ?_
  intro r23 M24 L25 H hP26 hO
  obtain ⟨rfl, rfl, rfl⟩ := hP26
  replace hO : aN ⟨H0, [], dQ lm8 x21.2 :: []⟩ H [(iB lo7 lm8 x21.2)] := hO
  refine bE ?_
  refine cO [] [(5, (eI x21.1))] ?_
  refine aO ?_
  refine aU aF 31 ?_
  refine bO 12 ?_
  obtain ⟨x27, hx28, h0⟩ := aY h0
  refine sQ [(33, true)] (((decide (x9.1 = (0 : Int))) && (decide (x15.1 = (0 : Int)))) && (decide (x21.1 = (16 : Int)))) (eI (0 : Int)) [dQ lm8 x21.2] [] [0] (List.Perm.refl _) (fun hb => (TI lo7 lm8 x21.2 _ (FV hb hx28))) (fun hb => by have hz := oI (FY hb hx28); subst hz; exact ⟨rfl, rfl, rfl⟩) hO ?_
  intro r29 M30 L31 H hP32 hO
  obtain ⟨rfl, rfl, rfl⟩ := hP32
  replace hO : aN ⟨H0, [], dQ lm8 x21.2 :: []⟩ H [(iB lo7 lm8 x21.2)] := hO
  refine bO 17 ?_
  obtain ⟨x33, hx34, h0⟩ := aY h0
  refine sQ [(38, true)] ((((decide (x9.1 = (0 : Int))) && (decide (x15.1 = (0 : Int)))) && (decide (x21.1 = (16 : Int)))) && (decide (x27 = (5 : Int)))) (eI (0 : Int)) [dQ lm8 x21.2] [] [0] (List.Perm.refl _) (fun hb => (aAS lo7 lm8 x21.2 _ (FV hb hx34))) (fun hb => by have hz := oI (FY hb hx34); subst hz; exact ⟨rfl, rfl, rfl⟩) hO ?_
  intro r35 M36 L37 H hP38 hO
  obtain ⟨rfl, rfl, rfl⟩ := hP38
  replace hO : aN ⟨H0, [], dQ lm8 x21.2 :: []⟩ H [(iB lo7 lm8 x21.2)] := hO
  refine bO 22 ?_
  obtain ⟨x39, hx40, h0⟩ := aY h0
  refine sQ [(43, true)] (((((decide (x9.1 = (0 : Int))) && (decide (x15.1 = (0 : Int)))) && (decide (x21.1 = (16 : Int)))) && (decide (x27 = (5 : Int)))) && (decide (x33 = (1 : Int)))) (eL aR ([] : List aM)) [dQ lm8 x21.2] [] [0] (List.Perm.refl _) (fun hb => (KT lo7 lm8 x21.2 _ (FV hb hx40))) (fun hb => by have hz := oI (FY hb hx40); subst hz; exact ⟨rfl, rfl, rfl⟩) hO ?_
  intro r41 M42 L43 H hP44 hO
  obtain ⟨rfl, rfl, rfl⟩ := hP44
  replace hO : aN ⟨H0, [], dQ lm8 x21.2 :: []⟩ H [(iB lo7 lm8 x21.2)] := hO
  refine bO 27 ?_
  refine aGC [(43, true)] [(aR (aM.mk ([aE.mk (1 : Int) (1 : Int) ByteArray.empty]) (-1 : Int) (1 : Int))), (aR (aM.mk ([aE.mk (1 : Int) (1 : Int) ByteArray.empty]) (9 : Int) (-1 : Int)))] (by kernel_rfl) (by kernel_rfl) ?_
  obtain ⟨x45, hx46, h0⟩ := aY h0
  refine uQ [(43, true)] 10 [(eL aR x39), (dW [(aR (aM.mk ([aE.mk (1 : Int) (1 : Int) ByteArray.empty]) (-1 : Int) (1 : Int))), (aR (aM.mk ([aE.mk (1 : Int) (1 : Int) ByteArray.empty]) (9 : Int) (-1 : Int)))])] (aG x45) (((((decide (x9.1 = (0 : Int))) && (decide (x15.1 = (0 : Int)))) && (decide (x21.1 = (16 : Int)))) && (decide (x27 = (5 : Int)))) && (decide (x33 = (1 : Int)))) (by kernel_rfl) (by kernel_rfl) (by kernel_rfl) (fun hb47 => (dK.sub (NP x39 ([aM.mk ([aE.mk (1 : Int) (1 : Int) ByteArray.empty]) (-1 : Int) (1 : Int), aM.mk ([aE.mk (1 : Int) (1 : Int) ByteArray.empty]) (9 : Int) (-1 : Int)]) _ (pS hx46 hb47)) ⟨aP.refl _, TU (l := [aM.mk ([aE.mk (1 : Int) (1 : Int) ByteArray.empty]) (-1 : Int) (1 : Int), aM.mk ([aE.mk (1 : Int) (1 : Int) ByteArray.empty]) (9 : Int) (-1 : Int)]), trivial⟩)) hO ?_
  intro H hO
  refine bE ?_
  refine fG [(0, (aG ((((((decide (x9.1 = (0 : Int))) && (decide (x15.1 = (0 : Int)))) && (decide (x21.1 = (16 : Int)))) && (decide (x27 = (5 : Int)))) && (decide (x33 = (1 : Int)))) && x45)))] ?_
  replace hO := hO.pick (L' := []) [] (by decide) (by kernel_rfl)
  replace hO := hO.pG
  refine aI (aJ (?_))
  refine bQ ?_
  obtain rfl := oI h0
  exact aI (Q_r hO)

theorem NW (AH : (List aM)) (AT : (List aM)) (t2 : Int) (r : Bool) (h0 : tJ AH AT t2 = some r) : dK Try.prog 3 [(eL aR AH), (eL aR AT), (eI t2)] (aG r) := by
  intro H0
  refine dP Try.func3 ?_
  have hO := aN.start H0
  unfold tJ at h0
  refine aX aF 1 [] [] ?_
  refine aO ?_
  refine aX aF 16 [] [(27, (aG ((((decide ((2000 : Int) < (lN AH))) || (decide ((2000 : Int) < (lN AT)))) || (decide (t2 < (0 : Int)))) || (decide ((1125899906842624 : Int) ≤ t2)))))] ?_
  refine bV h0 (fun h0 => ?_) (fun h0 => ?_)
  · refine aO ?_
    refine aU aF 2 ?_
    obtain ⟨x2, hx3, h0⟩ := aY h0
    refine iI (uI  _ hx3) hO ?_
    intro H hO
    refine bE ?_
    refine bB [(6, (aG x2))] ?_
    refine bQ ?_
    obtain rfl := oI h0
    exact aI (aV (Q_r hO))
  refine bT ?_
  refine bB [(0, (eL aR AH)), (1, (eL aR AT)), (2, (eI t2))] ?_
  refine aO ?_
  refine aU aF 2 ?_
  obtain ⟨x5, hx6, h0⟩ := aY h0
  refine sQ [] true (.tup []) [] [] [] (List.Perm.refl _) (fun _ => ND x5 hx6) (fun hb => by cases hb) hO ?_
  intro r7 M8 L9 H hP10 hO
  obtain ⟨lo11, lm12, rfl, rfl, rfl⟩ := hP10
  replace hO : aN ⟨H0, [], dQ lm12 x5 :: []⟩ H [(iB lo11 lm12 x5)] := hO
  refine bE ?_
  refine cO [] [(7, (.lp lo11 0 0))] ?_
  refine aO ?_
  refine aU aF 2 ?_
  obtain ⟨x13, hx14, h0⟩ := aY h0
  refine sQ [] true (.tup []) [] [(iB lo11 lm12 x5)] [0] (List.Perm.refl _) (fun _ => ND x13 hx14) (fun hb => by cases hb) hO ?_
  intro r15 M16 L17 H hP18 hO
  obtain ⟨lo19, lm20, rfl, rfl, rfl⟩ := hP18
  replace hO : aN ⟨H0, [], dQ lm20 x13 :: dQ lm12 x5 :: []⟩ H [(iB lo19 lm20 x13), (iB lo11 lm12 x5)] := hO
  refine bE ?_
  replace hO := hO.pick (L' := [(iB lo11 lm12 x5), (iB lo19 lm20 x13)]) [1, 0] (by decide) (by kernel_rfl)
  refine cO [] [(8, (.lp lo19 0 0))] ?_
  refine aO ?_
  refine aO ?_
  refine aU aF 16 ?_
  refine bO 2 ?_
  obtain ⟨x21, hx22, h0⟩ := aY h0
  refine sQ [] true (eI (0 : Int)) [dQ lm12 x5] [(iB lo19 lm20 x13)] [0, 1] (List.Perm.swap _ _ _) (fun hb => (BN lo11 lm12 x5 AH _ hx22)) (fun hb => by cases hb) hO ?_
  intro r23 M24 L25 H hP26 hO
  obtain ⟨rfl, rfl, rfl⟩ := hP26
  replace hO : aN ⟨H0, [], dQ lm12 x21.2 :: dQ lm20 x13 :: []⟩ H [(iB lo11 lm12 x21.2), (iB lo19 lm20 x13)] := hO
  refine bO 7 ?_
  obtain ⟨x27, hx28, h0⟩ := aY h0
  refine sQ [(35, false)] (!(!decide (x21.1 = (0 : Int)))) (eI (0 : Int)) [dQ lm20 x13] [(iB lo11 lm12 x21.2)] [1, 0] (List.Perm.swap _ _ _) (fun hb => (BN lo19 lm20 x13 AH _ (FV hb hx28))) (fun hb => by have hz := oI (FY hb hx28); subst hz; exact ⟨rfl, rfl, rfl⟩) hO ?_
  intro r29 M30 L31 H hP32 hO
  obtain ⟨rfl, rfl, rfl⟩ := hP32
  replace hO : aN ⟨H0, [], dQ lm20 x27.2 :: dQ lm12 x21.2 :: []⟩ H [(iB lo19 lm20 x27.2), (iB lo11 lm12 x21.2)] := hO
  refine bO 13 ?_
  obtain ⟨x33, hx34, h0⟩ := aY h0
  refine sQ [(41, false)] (!((!decide (x21.1 = (0 : Int))) || (!decide (x27.1 = (0 : Int))))) (eI (0 : Int)) [dQ lm12 x21.2] [(iB lo19 lm20 x27.2)] [1, 0] (List.Perm.swap _ _ _) (fun hb => (GX lo11 lm12 x21.2 t2 _ (FV hb hx34))) (fun hb => by have hz := oI (FY hb hx34); subst hz; exact ⟨rfl, rfl, rfl⟩) hO ?_
  intro r35 M36 L37 H hP38 hO
  obtain ⟨rfl, rfl, rfl⟩ := hP38
  replace hO : aN ⟨H0, [], dQ lm12 x33.2 :: dQ lm20 x27.2 :: []⟩ H [(iB lo11 lm12 x33.2), (iB lo19 lm20 x27.2)] := hO
  refine bE ?_
  refine cO [0] [(46, (aG (((!decide (x21.1 = (0 : Int))) || (!decide (x27.1 = (0 : Int)))) || (!decide (x33.1 = (0 : Int))))))] ?_
  refine bV h0 (fun h0 => ?_) (fun h0 => ?_)
  · refine aO ?_
    refine aU aF 2 ?_
    obtain ⟨x40, hx41, h0⟩ := aY h0
    refine iI (uI  _ hx41) hO ?_
    intro H hO
    refine bE ?_
    refine fG [(6, (aG x40))] ?_
    replace hO := hO.pick (L' := []) [] (by decide) (by kernel_rfl)
    replace hO := hO.pG
    replace hO := hO.pG
    refine aI (aJ (?_))
    refine bQ ?_
    obtain rfl := oI h0
    exact aI (aV (Q_r hO))
  refine bT ?_
  refine bB [(1, (eL aR AT)), (2, (eI t2)), (7, (.lp lo11 0 0)), (8, (.lp lo19 0 0))] ?_
  refine aO ?_
  refine aU aF 4 ?_
  refine bO 2 ?_
  obtain ⟨x43, hx44, h0⟩ := aY h0
  refine sQ [] true (eI (0 : Int)) [dQ lm12 x33.2] [(iB lo19 lm20 x27.2)] [0, 1] (List.Perm.refl _) (fun hb => (BN lo11 lm12 x33.2 AT _ hx44)) (fun hb => by cases hb) hO ?_
  intro r45 M46 L47 H hP48 hO
  obtain ⟨rfl, rfl, rfl⟩ := hP48
  replace hO : aN ⟨H0, [], dQ lm12 x43.2 :: dQ lm20 x27.2 :: []⟩ H [(iB lo11 lm12 x43.2), (iB lo19 lm20 x27.2)] := hO
  refine bE ?_
  refine cO [] [(9, (eI x43.1))] ?_
  refine aO ?_
  refine aX aF 2 [] [(52, (aG (decide (x43.1 = (16 : Int)))))] ?_
  refine bV h0 (fun h0 => ?_) (fun h0 => ?_)
  · refine aO ?_
    refine aU aF 8 ?_
    obtain ⟨x50, hx51, h0⟩ := aY h0
    refine iI (uI  _ hx51) hO ?_
    intro H hO
    refine bO 3 ?_
    obtain ⟨x53, hx54, h0⟩ := aY h0
    refine sQ [(54, true)] x50 (eI (0 : Int)) [dQ lm12 x43.2] [(iB lo19 lm20 x27.2)] [0, 1] (List.Perm.refl _) (fun hb => (TI lo11 lm12 x43.2 _ (FV hb hx54))) (fun hb => by have hz := oI (FY hb hx54); subst hz; exact ⟨rfl, rfl, rfl⟩) hO ?_
    intro r55 M56 L57 H hP58 hO
    obtain ⟨rfl, rfl, rfl⟩ := hP58
    replace hO : aN ⟨H0, [], dQ lm12 x43.2 :: dQ lm20 x27.2 :: []⟩ H [(iB lo11 lm12 x43.2), (iB lo19 lm20 x27.2)] := hO
    refine bE ?_
    refine fG [(6, (aG (x50 && (decide (x53 = t2)))))] ?_
    replace hO := hO.pick (L' := []) [] (by decide) (by kernel_rfl)
    replace hO := hO.pG
    replace hO := hO.pG
    refine aI (aJ (?_))
    refine bQ ?_
    obtain rfl := oI h0
    exact aI (aV (Q_r hO))
  refine bT ?_
  refine bB [(1, (eL aR AT)), (2, (eI t2)), (7, (.lp lo11 0 0)), (8, (.lp lo19 0 0)), (9, (eI x43.1))] ?_
  refine aO ?_
  refine aU aF 4 ?_
  refine bO 2 ?_
  obtain ⟨x59, hx60, h0⟩ := aY h0
  refine sQ [] true (eI (0 : Int)) [dQ lm20 x27.2] [(iB lo11 lm12 x43.2)] [1, 0] (List.Perm.swap _ _ _) (fun hb => (BN lo19 lm20 x27.2 AT _ hx60)) (fun hb => by cases hb) hO ?_
  intro r61 M62 L63 H hP64 hO
  obtain ⟨rfl, rfl, rfl⟩ := hP64
  replace hO : aN ⟨H0, [], dQ lm20 x59.2 :: dQ lm12 x43.2 :: []⟩ H [(iB lo19 lm20 x59.2), (iB lo11 lm12 x43.2)] := hO
  refine bE ?_
  replace hO := hO.pick (L' := [(iB lo11 lm12 x43.2), (iB lo19 lm20 x59.2)]) [1, 0] (by decide) (by kernel_rfl)
  refine cO [1] [(10, (eI x59.1))] ?_
  refine aO ?_
  refine aX aF 6 [] [(68, (aG ((decide (x43.1 = (0 : Int))) && (decide (x59.1 = (0 : Int))))))] ?_
  refine bV h0 (fun h0 => ?_) (fun h0 => ?_)
  · refine aO ?_
    refine aU aF 4 ?_
    refine bO 2 ?_
    obtain ⟨x66, hx67, h0⟩ := aY h0
    refine sQ [] true (eI (0 : Int)) [dQ lm20 x59.2] [(iB lo11 lm12 x43.2)] [1, 0] (List.Perm.refl _) (fun hb => (GX lo19 lm20 x59.2 t2 _ hx67)) (fun hb => by cases hb) hO ?_
    intro r68 M69 L70 H hP71 hO
    obtain ⟨rfl, rfl, rfl⟩ := hP71
    replace hO : aN ⟨H0, [], dQ lm20 x66.2 :: dQ lm12 x43.2 :: []⟩ H [(iB lo19 lm20 x66.2), (iB lo11 lm12 x43.2)] := hO
    refine bE ?_
    replace hO := hO.pick (L' := [(iB lo11 lm12 x43.2), (iB lo19 lm20 x66.2)]) [1, 0] (by decide) (by kernel_rfl)
    refine cO [2, 9, 10, 68] [(11, (eI x66.1))] ?_
    refine aO ?_
    refine aX aF 2 [] [(73, (aG (decide (x66.1 = (0 : Int)))))] ?_
    refine bV h0 (fun h0 => ?_) (fun h0 => ?_)
    · refine aO ?_
      refine aU aF 9 ?_
      obtain ⟨x73, hx74, h0⟩ := aY h0
      refine iI (uI  _ hx74) hO ?_
      intro H hO
      refine bO 3 ?_
      obtain ⟨x76, hx77, h0⟩ := aY h0
      refine sQ [(75, true)] x73 (eL aR ([] : List aM)) [dQ lm12 x43.2] [(iB lo19 lm20 x66.2)] [0, 1] (List.Perm.swap _ _ _) (fun hb => (KT lo11 lm12 x43.2 _ (FV hb hx77))) (fun hb => by have hz := oI (FY hb hx77); subst hz; exact ⟨rfl, rfl, rfl⟩) hO ?_
      intro r78 M79 L80 H hP81 hO
      obtain ⟨rfl, rfl, rfl⟩ := hP81
      replace hO : aN ⟨H0, [], dQ lm12 x43.2 :: dQ lm20 x66.2 :: []⟩ H [(iB lo11 lm12 x43.2), (iB lo19 lm20 x66.2)] := hO
      refine bO 5 ?_
      obtain ⟨x82, hx83, h0⟩ := aY h0
      refine sQ [(75, true)] x73 (eL aR ([] : List aM)) [dQ lm20 x66.2] [(iB lo11 lm12 x43.2)] [1, 0] (List.Perm.swap _ _ _) (fun hb => (KT lo19 lm20 x66.2 _ (FV hb hx83))) (fun hb => by have hz := oI (FY hb hx83); subst hz; exact ⟨rfl, rfl, rfl⟩) hO ?_
      intro r84 M85 L86 H hP87 hO
      obtain ⟨rfl, rfl, rfl⟩ := hP87
      replace hO : aN ⟨H0, [], dQ lm20 x66.2 :: dQ lm12 x43.2 :: []⟩ H [(iB lo19 lm20 x66.2), (iB lo11 lm12 x43.2)] := hO
      obtain ⟨x88, hx89, h0⟩ := aY h0
      refine uQ [(75, true)] 10 [(eL aR x76), (eL aR x82)] (aG x88) x73 (by kernel_rfl) (by kernel_rfl) (by kernel_rfl) (fun hb90 => (NP x76 x82 _ (pS hx89 hb90))) hO ?_
      intro H hO
      refine bE ?_
      refine fG [(6, (aG (x73 && x88)))] ?_
      replace hO := hO.pick (L' := []) [] (by decide) (by kernel_rfl)
      replace hO := hO.pG
      replace hO := hO.pG
      refine aI (aJ (?_))
      refine bQ ?_
      obtain rfl := oI h0
      exact aI (aV (aV (Q_r hO)))
    refine bT ?_
    refine fG [(11, (eI x66.1))] ?_
    replace hO := hO.pick (L' := []) [] (by decide) (by kernel_rfl)
    replace hO := hO.pG
    replace hO := hO.pG
    refine aI (aJ (?_))
    refine aO ?_
    refine aU aF 6 ?_
    obtain ⟨x91, hx92, h0⟩ := aY h0
    refine iI (uI  _ hx92) hO ?_
    intro H hO
    refine bE ?_
    refine bB [(6, (aG (x91 && (decide (x66.1 = (7 : Int))))))] ?_
    refine bQ ?_
    obtain rfl := oI h0
    exact aI (aV (Q_r hO))
  refine bT ?_
  refine fG [(9, (eI x43.1)), (10, (eI x59.1))] ?_
  replace hO := hO.pick (L' := []) [] (by decide) (by kernel_rfl)
  replace hO := hO.pG
  replace hO := hO.pG
  refine aI (aJ (?_))
  refine aO ?_
  refine aU aF 15 ?_
  obtain ⟨x94, hx95, h0⟩ := aY h0
  refine iI (uI  _ hx95) hO ?_
  intro H hO
  refine bE ?_
  refine bB [(6, (aG (x94 && (((decide (x43.1 = x59.1)) || (decide (x59.1 = (7 : Int)))) || (decide (x43.1 = (7 : Int)))))))] ?_
  refine bQ ?_
  obtain rfl := oI h0
  exact aI (Q_r hO)

end Go.Abs
namespace Go.Abs
open Go Go.RowKit Go.Proofs
theorem OB {H : Type} {enc : TypeId × Value → H} {w : World} : CQ enc Try.prog w 39 aL HK :=
  OA Try.underlying39 (by kernel_rfl) (wC (c' := QF) (ok' := HK) (fun (a : Int) (b : Int × ByteArray × Unit) => (aE.mk a b.1 b.2.1 : aE)) (by kernel_rfl) (IZ Try.underlying37) (wC (c' := fun (b : Int × ByteArray × Unit) => (V.cells (bN .i64 b.1) ++ (V.cells (qF b.2.1) ++ []))) (ok' := fun b => (tY b.1 ∧ ((fun s => s.size ≤ maxLen) b.2.1 ∧ True))) (fun a b => (a, b)) (by kernel_rfl) (IZ Try.underlying3) (wC (c' := fun (b : ByteArray × Unit) => (V.cells (qF b.1) ++ [])) (ok' := fun b => ((fun s => s.size ≤ maxLen) b.1 ∧ True)) (fun a b => (a, b)) (by kernel_rfl) (ZM Try.underlying9) (UF ()) (fun _ _ => rfl) (fun _ _ h1 h2 => ⟨h1, h2⟩)) (fun _ _ => rfl) (fun _ _ h1 h2 => ⟨h1, h2⟩)) (fun _ _ => rfl) (fun _ _ h1 h2 => ⟨h1, h2⟩))

theorem FL {H : Type} {enc : TypeId × Value → H} {w : World} : CQ enc Try.prog w 36 aR sJ :=
  OA Try.underlying36 (by kernel_rfl) (wC (c' := SA) (ok' := sJ) (fun (a : (List aE)) (b : Int × Int × Unit) => (aM.mk a b.1 b.2.1 : aM)) (by kernel_rfl) (aAQ Try.underlying34 (by decide +kernel) (fun _ => by kernel_rfl) (fun _ => rfl) OB (by kernel_rfl)) (wC (c' := fun (b : Int × Int × Unit) => (V.cells (bN .i64 b.1) ++ (V.cells (bN .i64 b.2.1) ++ []))) (ok' := fun b => (tY b.1 ∧ (tY b.2.1 ∧ True))) (fun a b => (a, b)) (by kernel_rfl) (IZ Try.underlying3) (wC (c' := fun (b : Int × Unit) => (V.cells (bN .i64 b.1) ++ [])) (ok' := fun b => (tY b.1 ∧ True)) (fun a b => (a, b)) (by kernel_rfl) (IZ Try.underlying3) (UF ()) (fun _ _ => rfl) (fun _ _ h1 h2 => ⟨h1, h2⟩)) (fun _ _ => rfl) (fun _ _ h1 h2 => ⟨h1, h2⟩)) (fun _ _ => rfl) (fun _ _ h1 h2 => ⟨h1, h2⟩))

end Go.Abs
namespace Go.Abs
open Go
theorem eH {n : Int} (h1 : -9223372036854775808 ≤ n) (h2 : n ≤ 9223372036854775807) : IntKind.i64.wrap n = n := by
  simp only [IntKind.wrap, IntKind.bits, IntKind.signed]
  simp
  split <;> omega

def sS {α st R : Type} (step : st → α → Option (st ⊕ R)) (fin : st → R) : st → List α → Option R
  | s, [] => some (fin s)
  | s, a :: r => match step s a with
    | some (.inl s') => sS step fin s' r
    | some (.inr x) => some x
    | none => none

theorem SK {α st R : Type} {step : st → α → Option (st ⊕ R)} {fin : st → R} {s s' : st} {a : α} {r : List α} (h : step s a = some (.inl s')) : sS step fin s (a :: r) = sS step fin s' r := by
  simp only [sS, h]

theorem TB {α st R : Type} {step : st → α → Option (st ⊕ R)} {fin : st → R} {s : st} {x : R} {a : α} {r : List α} (h : step s a = some (.inr x)) : sS step fin s (a :: r) = some x := by
  simp only [sS, h]

theorem aBU {α S st R : Type} {body : S → Option (S ⊕ R)} {l : List α} (mk : st → Int → S) (step : st → α → Option (st ⊕ R)) (fin : st → R)
    (hn : ∀ (i : Nat) a s, l[i]? = some a → (∀ s', step s a = some (.inl s') → body (mk s i) = some (.inl (mk s' ((i + 1 : Nat) : Int)))) ∧ (∀ x, step s a = some (.inr x) → body (mk s i) = some (.inr x)))
    (he : ∀ s, body (mk s (l.length : Nat)) = some (.inr (fin s))) : ∀ (m k : Nat) (s : st) (r : R), l.length - k = m → k ≤ l.length → sS step fin s (l.drop k) = some r → lp body (mk s k) = some r
  | 0, k, s, r, hm, hk, h => by
    have : k = l.length := by omega
    subst this
    rw [List.drop_length] at h
    simp only [sS, Option.some.injEq] at h
    subst h
    exact dI (he s)
  | m + 1, k, s, r, hm, hk, h => by
    have hlt : k < l.length := by omega
    have hd : l.drop k = l[k] :: l.drop (k + 1) := List.drop_eq_getElem_cons hlt
    rw [hd] at h
    simp only [sS] at h
    obtain ⟨h1, h2⟩ := hn k l[k] s (List.getElem?_eq_getElem hlt)
    split at h
    · rename_i s' hs
      rw [kL (h1 s' hs)]
      exact aBU mk step fin hn he m (k + 1) s' r (by omega) (by omega) h
    · rename_i x hs
      simp at h; subst h
      exact dI (h2 x hs)
    · cases h

theorem aEM {α S st R : Type} {body : S → Option (S ⊕ R)} {l : List α} (mk : st → Int → S) (step : st → α → Option (st ⊕ R)) (fin : st → R)
    (hn : ∀ (i : Nat) a s, l[i]? = some a → (∀ s', step s a = some (.inl s') → body (mk s i) = some (.inl (mk s' ((i + 1 : Nat) : Int)))) ∧ (∀ x, step s a = some (.inr x) → body (mk s i) = some (.inr x)))
    (he : ∀ s, body (mk s (l.length : Nat)) = some (.inr (fin s))) {s : st} {r : R} (h : sS step fin s l = some r) : lp body (mk s 0) = some r :=
  aBU mk step fin hn he _ 0 s r rfl (Nat.zero_le _) (by simpa using h)

theorem YQ {α S st R : Type} {body : S → Option (S ⊕ R)} {l : List α} (mk : st → Int → S) (step : st → α → Option (st ⊕ R)) (fin : st → R) (Inv : Nat → st → Prop)
    (hn : ∀ (i : Nat) a s, Inv i s → l[i]? = some a → (∀ s', step s a = some (.inl s') → Inv (i + 1) s' ∧ body (mk s i) = some (.inl (mk s' ((i + 1 : Nat) : Int)))) ∧ (∀ x, step s a = some (.inr x) → body (mk s i) = some (.inr x)))
    (he : ∀ s, Inv l.length s → body (mk s (l.length : Nat)) = some (.inr (fin s))) : ∀ (m k : Nat) (s : st) (r : R), l.length - k = m → k ≤ l.length → Inv k s → sS step fin s (l.drop k) = some r → lp body (mk s k) = some r
  | 0, k, s, r, hm, hk, hi, h => by
    have : k = l.length := by omega
    subst this
    rw [List.drop_length] at h
    simp only [sS, Option.some.injEq] at h
    subst h
    exact dI (he s hi)
  | m + 1, k, s, r, hm, hk, hi, h => by
    have hlt : k < l.length := by omega
    have hd : l.drop k = l[k] :: l.drop (k + 1) := List.drop_eq_getElem_cons hlt
    rw [hd] at h
    simp only [sS] at h
    obtain ⟨h1, h2⟩ := hn k l[k] s hi (List.getElem?_eq_getElem hlt)
    split at h
    · rename_i s' hs
      obtain ⟨hi', hb⟩ := h1 s' hs
      rw [kL hb]
      exact YQ mk step fin Inv hn he m (k + 1) s' r (by omega) (by omega) hi' h
    · rename_i x hs
      simp at h; subst h
      exact dI (h2 x hs)
    · cases h

theorem aD7 {α S st R : Type} {body : S → Option (S ⊕ R)} {l : List α} (mk : st → Int → S) (step : st → α → Option (st ⊕ R)) (fin : st → R) (Inv : Nat → st → Prop)
    (hn : ∀ (i : Nat) a s, Inv i s → l[i]? = some a → (∀ s', step s a = some (.inl s') → Inv (i + 1) s' ∧ body (mk s i) = some (.inl (mk s' ((i + 1 : Nat) : Int)))) ∧ (∀ x, step s a = some (.inr x) → body (mk s i) = some (.inr x)))
    (he : ∀ s, Inv l.length s → body (mk s (l.length : Nat)) = some (.inr (fin s))) {s : st} {r : R} (hi : Inv 0 s) (h : sS step fin s l = some r) : lp body (mk s 0) = some r :=
  YQ mk step fin Inv hn he _ 0 s r rfl (Nat.zero_le _) hi (by simpa using h)

theorem idx {α : Type} [Inhabited α] {l : List α} {i : Nat} {a : α} (h : l[i]? = some a) (hl : l.length < 4611686018427387904) :
    decide ((i : Int) < ((l.length : Nat) : Int)) = true ∧ (0 ≤ (i : Int) ∧ (i : Int) < ((l.length : Nat) : Int)) ∧ l.getD (Int.toNat (i : Int)) default = a ∧ IntKind.i64.wrap ((i : Int) + 1) = ((i + 1 : Nat) : Int) := by
  have hlt : i < l.length := (List.getElem?_eq_some_iff.1 h).1
  refine ⟨by simpa using hlt, ⟨by omega, by omega⟩, ?_, ?_⟩
  · rw [Int.toNat_natCast, List.getD_eq_getElem?_getD, h]; rfl
  · rw [eH (by omega) (by omega)]; omega

theorem uK {n : Nat} : decide (((n : Nat) : Int) < ((n : Nat) : Int)) = false := by simp

theorem DA {α : Type} {j : α} {r : List α} : decide ((0 : Int) < ((List.length (j :: r) : Nat) : Int)) = true := by simp

theorem len_nil {α : Type} : decide ((0 : Int) < ((List.length ([] : List α) : Nat) : Int)) = false := rfl

theorem LQ {α : Type} {j : α} {r : List α} : (0 : Int) ≤ 0 ∧ (0 : Int) < ((List.length (j :: r) : Nat) : Int) := ⟨by omega, by simp⟩

theorem aGT {α : Type} {j : α} {r : List α} : (0 : Int) ≤ 1 ∧ (1 : Int) ≤ ((List.length (j :: r) : Nat) : Int) := ⟨by omega, by simp; omega⟩

theorem GQ {α : Type} [Inhabited α] {j : α} {r : List α} : List.getD (j :: r) (Int.toNat (0 : Int)) default = j := rfl

theorem aDk {α : Type} {j : α} {r : List α} : List.drop (Int.toNat (1 : Int)) (j :: r) = r := rfl

end Go.Abs
namespace Go.Abs
open Go
theorem drop_cons {α : Type} {l r : List α} {a : α} {k : Nat} (h : l.drop k = a :: r) : l[k]? = some a ∧ l.drop (k + 1) = r := by
  have hk : k < l.length := by
    apply Classical.byContradiction; intro hn
    rw [List.drop_eq_nil_of_le (by omega)] at h; cases h
  rw [List.drop_eq_getElem_cons hk] at h
  obtain ⟨h1, h2⟩ := List.cons.inj h
  exact ⟨by rw [List.getElem?_eq_getElem hk, h1], h2⟩

theorem aCT {α S st R : Type} {body : S → Option (S ⊕ R)} {l : List α} (mk : st → Int → S) (G : st → List α → R) (Inv : st → List α → Prop)
    (hn : ∀ (i : Nat) a r s, l[i]? = some a → Inv s (a :: r) → (∃ s', body (mk s i) = some (.inl (mk s' ((i + 1 : Nat) : Int))) ∧ Inv s' r ∧ G s' r = G s (a :: r)) ∨ body (mk s i) = some (.inr (G s (a :: r))))
    (he : ∀ s, Inv s [] → body (mk s (l.length : Nat)) = some (.inr (G s []))) : ∀ (r : List α) (k : Nat) (s : st), l.drop k = r → k ≤ l.length → Inv s r → lp body (mk s k) = some (G s r)
  | [], k, s, hd, hk, hi => by
    have : k = l.length := by
      have := congrArg List.length hd
      simp only [List.length_drop, List.length_nil] at this; omega
    subst this
    exact dI (he s hi)
  | a :: r, k, s, hd, hk, hi => by
    obtain ⟨h1, h2⟩ := drop_cons hd
    have hlt : k < l.length := (List.getElem?_eq_some_iff.1 h1).1
    rcases hn k a r s h1 hi with ⟨s', hb, hi', hg⟩ | hb
    · rw [kL hb, aCT mk G Inv hn he r (k + 1) s' h2 (by omega) hi', hg]
    · exact dI hb

theorem DJ {α S st R : Type} {body : S → Option (S ⊕ R)} {l : List α} (mk : st → Int → S) (G : st → List α → R) (Inv : st → List α → Prop) (s : st)
    (hn : ∀ (i : Nat) a r s, l[i]? = some a → Inv s (a :: r) → (∃ s', body (mk s i) = some (.inl (mk s' ((i + 1 : Nat) : Int))) ∧ Inv s' r ∧ G s' r = G s (a :: r)) ∨ body (mk s i) = some (.inr (G s (a :: r))))
    (he : ∀ s, Inv s [] → body (mk s (l.length : Nat)) = some (.inr (G s []))) (hi : Inv s l) : lp body (mk s 0) = some (G s l) :=
  aCT mk G Inv hn he l 0 s rfl (Nat.zero_le _) hi

end Go.Abs
namespace Go.Abs
open Go
noncomputable def xX (cmp4 : aD → aD → Option Int) (a1 : Int) (b2 : Int) (n3 : Int) (aA : List aD) (i10 : Int) : Option ((List aD × Int) ⊕ ((List aD))) :=
  cond (decide (i10 < n3))
  (aT (0 ≤ (IntKind.i64.wrap (b2 + i10)) ∧ (IntKind.i64.wrap (b2 + i10)) < ((List.length aA : Nat) : Int)) <|
  aT (0 ≤ (IntKind.i64.wrap (a1 + i10)) ∧ (IntKind.i64.wrap (a1 + i10)) < ((List.length aA : Nat) : Int)) <|
  aT (0 ≤ (IntKind.i64.wrap (a1 + i10)) ∧ (IntKind.i64.wrap (a1 + i10)) < ((List.length aA : Nat) : Int)) <|
  aT (0 ≤ (IntKind.i64.wrap (b2 + i10)) ∧ (IntKind.i64.wrap (b2 + i10)) < ((List.length aA : Nat) : Int)) <|
  some (.inl (List.set (List.set aA (Int.toNat (IntKind.i64.wrap (a1 + i10))) (List.getD aA (Int.toNat (IntKind.i64.wrap (b2 + i10))) default)) (Int.toNat (IntKind.i64.wrap (b2 + i10))) (List.getD aA (Int.toNat (IntKind.i64.wrap (a1 + i10))) default), IntKind.i64.wrap (i10 + (1 : Int)))))
  (some (.inr aA))

noncomputable def yJ (cmp4 : aD → aD → Option Int) (aA : List aD) (a1 : Int) (b2 : Int) (n3 : Int) (i10 : Int) : Option (List aD) :=
  (lp (fun s => xX cmp4 a1 b2 n3 s.1 s.2) (aA, i10)).bind (fun rr => some rr)

noncomputable def pL (aA : (List aD)) (a1 : Int) (b2 : Int) (n3 : Int) (cmp4 : aD → aD → Option Int) : Option (List aD) :=
  yJ cmp4 aA a1 b2 n3 (0 : Int)

noncomputable def BC (cmp4 : aD → aD → Option Int) (aA : List aD) (m2 : Int) (i10 : Int) : Option (List aD) :=
  (pL aA (IntKind.i64.wrap (m2 - i10)) m2 i10 cmp4).bind fun x1 =>
  some x1

noncomputable def AX (cmp4 : aD → aD → Option Int) (m2 : Int) (aA : List aD) (i10 : Int) (j11 : Int) : Option ((List aD × Int × Int) ⊕ ((List aD × Int))) :=
  cond (!decide (i10 = j11))
  (cond (decide (j11 < i10))
  ((pL aA (IntKind.i64.wrap (m2 - i10)) m2 j11 cmp4).bind fun x4 =>
  some (.inl (x4, IntKind.i64.wrap (i10 - j11), j11)))
  ((pL aA (IntKind.i64.wrap (m2 - i10)) (IntKind.i64.wrap ((IntKind.i64.wrap (m2 + j11)) - i10)) i10 cmp4).bind fun x7 =>
  some (.inl (x7, i10, IntKind.i64.wrap (j11 - i10)))))
  (some (.inr (aA, i10)))

noncomputable def BB (cmp4 : aD → aD → Option Int) (aA : List aD) (m2 : Int) (i10 : Int) (j11 : Int) : Option (List aD) :=
  (lp (fun s => AX cmp4 m2 s.1 s.2.1 s.2.2) (aA, i10, j11)).bind (fun rr => BC cmp4 rr.1 m2 rr.2)

noncomputable def BR (aA : (List aD)) (a1 : Int) (m2 : Int) (b3 : Int) (cmp4 : aD → aD → Option Int) : Option (List aD) :=
  BB cmp4 aA m2 (IntKind.i64.wrap (m2 - a1)) (IntKind.i64.wrap (b3 - m2))

noncomputable def rT (cmp4 : aD → aD → Option Int) (rec : (List aD) → Int → Int → Int → Option (List aD)) (aA : List aD) (b3 : Int) (uE : Int) (PL : Int) : Option (List aD) :=
  cond ((decide (uE < PL)) && (decide (PL < b3)))
  ((rec aA uE PL b3).bind fun x2 =>
  some x2)
  (some aA)

noncomputable def rR (cmp4 : aD → aD → Option Int) (rec : (List aD) → Int → Int → Int → Option (List aD)) (aA : List aD) (a1 : Int) (b3 : Int) (uE : Int) (kJ : Int) (PL : Int) : Option (List aD) :=
  cond ((decide (a1 < kJ)) && (decide (kJ < uE)))
  ((rec aA a1 kJ uE).bind fun x6 =>
  rT cmp4 rec x6 b3 uE PL)
  (rT cmp4 rec aA b3 uE PL)

noncomputable def zL (cmp4 : aD → aD → Option Int) (rec : (List aD) → Int → Int → Int → Option (List aD)) (aA : List aD) (a1 : Int) (m2 : Int) (b3 : Int) (uE : Int) (n19 : Int) (kJ : Int) : Option (List aD) :=
  cond ((decide (kJ < m2)) && (decide (m2 < (IntKind.i64.wrap (n19 - kJ)))))
  ((BR aA kJ m2 (IntKind.i64.wrap (n19 - kJ)) cmp4).bind fun x10 =>
  rR cmp4 rec x10 a1 b3 uE kJ (IntKind.i64.wrap (n19 - kJ)))
  (rR cmp4 rec aA a1 b3 uE kJ (IntKind.i64.wrap (n19 - kJ)))

noncomputable def zR (cmp4 : aD → aD → Option Int) (rec : (List aD) → Int → Int → Int → Option (List aD)) (a1 : Int) (m2 : Int) (b3 : Int) (uE : Int) (n19 : Int) (p22 : Int) (aA : List aD) (kJ : Int) (r21 : Int) : Option ((List aD × Int × Int) ⊕ ((List aD × Int))) :=
  cond (decide (kJ < r21))
  (aT (0 ≤ (1 : Int)) <|
  aT (0 ≤ (IntKind.i64.wrap (p22 - (IntKind.i64.wrap (Int.fdiv (IntKind.u64.wrap (IntKind.i64.wrap (kJ + r21))) (2 ^ (min (Int.toNat (1 : Int)) 64)))))) ∧ (IntKind.i64.wrap (p22 - (IntKind.i64.wrap (Int.fdiv (IntKind.u64.wrap (IntKind.i64.wrap (kJ + r21))) (2 ^ (min (Int.toNat (1 : Int)) 64)))))) < ((List.length aA : Nat) : Int)) <|
  aT (0 ≤ (IntKind.i64.wrap (Int.fdiv (IntKind.u64.wrap (IntKind.i64.wrap (kJ + r21))) (2 ^ (min (Int.toNat (1 : Int)) 64)))) ∧ (IntKind.i64.wrap (Int.fdiv (IntKind.u64.wrap (IntKind.i64.wrap (kJ + r21))) (2 ^ (min (Int.toNat (1 : Int)) 64)))) < ((List.length aA : Nat) : Int)) <|
  (cmp4 (List.getD aA (Int.toNat (IntKind.i64.wrap (p22 - (IntKind.i64.wrap (Int.fdiv (IntKind.u64.wrap (IntKind.i64.wrap (kJ + r21))) (2 ^ (min (Int.toNat (1 : Int)) 64))))))) default) (List.getD aA (Int.toNat (IntKind.i64.wrap (Int.fdiv (IntKind.u64.wrap (IntKind.i64.wrap (kJ + r21))) (2 ^ (min (Int.toNat (1 : Int)) 64))))) default)).bind fun x17 =>
  cond (!(decide (x17 < (0 : Int))))
  (some (.inl (aA, IntKind.i64.wrap ((IntKind.i64.wrap (Int.fdiv (IntKind.u64.wrap (IntKind.i64.wrap (kJ + r21))) (2 ^ (min (Int.toNat (1 : Int)) 64)))) + (1 : Int)), r21)))
  (some (.inl (aA, kJ, IntKind.i64.wrap (Int.fdiv (IntKind.u64.wrap (IntKind.i64.wrap (kJ + r21))) (2 ^ (min (Int.toNat (1 : Int)) 64)))))))
  (some (.inr (aA, kJ)))

noncomputable def zF (cmp4 : aD → aD → Option Int) (rec : (List aD) → Int → Int → Int → Option (List aD)) (aA : List aD) (a1 : Int) (m2 : Int) (b3 : Int) (uE : Int) (n19 : Int) (kJ : Int) (r21 : Int) (p22 : Int) : Option (List aD) :=
  (lp (fun s => zR cmp4 rec a1 m2 b3 uE n19 p22 s.1 s.2.1 s.2.2) (aA, kJ, r21)).bind (fun rr => zL cmp4 rec rr.1 a1 m2 b3 uE n19 rr.2)

noncomputable def rY (cmp4 : aD → aD → Option Int) (rec : (List aD) → Int → Int → Int → Option (List aD)) (aA : List aD) (a1 : Int) (m2 : Int) (b3 : Int) (uE : Int) (n19 : Int) (kJ : Int) (r21 : Int) : Option (List aD) :=
  zF cmp4 rec aA a1 m2 b3 uE n19 kJ r21 (IntKind.i64.wrap (n19 - (1 : Int)))

noncomputable def zM (cmp4 : aD → aD → Option Int) (rec : (List aD) → Int → Int → Int → Option (List aD)) (aA : List aD) (a1 : Int) (m2 : Int) (b3 : Int) : Option (List aD) :=
  aT (0 ≤ (1 : Int)) <|
  cond (decide ((IntKind.i64.wrap (Int.fdiv (IntKind.u64.wrap (IntKind.i64.wrap (a1 + b3))) (2 ^ (min (Int.toNat (1 : Int)) 64)))) < m2))
  (rY cmp4 rec aA a1 m2 b3 (IntKind.i64.wrap (Int.fdiv (IntKind.u64.wrap (IntKind.i64.wrap (a1 + b3))) (2 ^ (min (Int.toNat (1 : Int)) 64)))) (IntKind.i64.wrap ((IntKind.i64.wrap (Int.fdiv (IntKind.u64.wrap (IntKind.i64.wrap (a1 + b3))) (2 ^ (min (Int.toNat (1 : Int)) 64)))) + m2)) (IntKind.i64.wrap ((IntKind.i64.wrap ((IntKind.i64.wrap (Int.fdiv (IntKind.u64.wrap (IntKind.i64.wrap (a1 + b3))) (2 ^ (min (Int.toNat (1 : Int)) 64)))) + m2)) - b3)) (IntKind.i64.wrap (Int.fdiv (IntKind.u64.wrap (IntKind.i64.wrap (a1 + b3))) (2 ^ (min (Int.toNat (1 : Int)) 64)))))
  (rY cmp4 rec aA a1 m2 b3 (IntKind.i64.wrap (Int.fdiv (IntKind.u64.wrap (IntKind.i64.wrap (a1 + b3))) (2 ^ (min (Int.toNat (1 : Int)) 64)))) (IntKind.i64.wrap ((IntKind.i64.wrap (Int.fdiv (IntKind.u64.wrap (IntKind.i64.wrap (a1 + b3))) (2 ^ (min (Int.toNat (1 : Int)) 64)))) + m2)) a1 m2)

noncomputable def zE (cmp4 : aD → aD → Option Int) (rec : (List aD) → Int → Int → Int → Option (List aD)) (aA : List aD) : Option (List aD) :=
  some aA

noncomputable def xW (cmp4 : aD → aD → Option Int) (rec : (List aD) → Int → Int → Int → Option (List aD)) (i14 : Int) (aA : List aD) (k17 : Int) : Option ((List aD × Int) ⊕ ((List aD))) :=
  cond (decide (i14 < k17))
  (aT (0 ≤ (IntKind.i64.wrap (k17 - (1 : Int))) ∧ (IntKind.i64.wrap (k17 - (1 : Int))) < ((List.length aA : Nat) : Int)) <|
  aT (0 ≤ k17 ∧ k17 < ((List.length aA : Nat) : Int)) <|
  aT (0 ≤ k17 ∧ k17 < ((List.length aA : Nat) : Int)) <|
  aT (0 ≤ (IntKind.i64.wrap (k17 - (1 : Int))) ∧ (IntKind.i64.wrap (k17 - (1 : Int))) < ((List.length aA : Nat) : Int)) <|
  some (.inl (List.set (List.set aA (Int.toNat k17) (List.getD aA (Int.toNat (IntKind.i64.wrap (k17 - (1 : Int)))) default)) (Int.toNat (IntKind.i64.wrap (k17 - (1 : Int)))) (List.getD aA (Int.toNat k17) default), IntKind.i64.wrap (k17 - (1 : Int)))))
  (some (.inr aA))

noncomputable def yB (cmp4 : aD → aD → Option Int) (rec : (List aD) → Int → Int → Int → Option (List aD)) (aA : List aD) (i14 : Int) (k17 : Int) : Option (List aD) :=
  (lp (fun s => xW cmp4 rec i14 s.1 s.2) (aA, k17)).bind (fun rr => zE cmp4 rec rr)

noncomputable def yV (cmp4 : aD → aD → Option Int) (rec : (List aD) → Int → Int → Int → Option (List aD)) (aA : List aD) (m2 : Int) (i14 : Int) : Option (List aD) :=
  yB cmp4 rec aA i14 m2

noncomputable def yL (cmp4 : aD → aD → Option Int) (rec : (List aD) → Int → Int → Int → Option (List aD)) (m2 : Int) (aA : List aD) (i14 : Int) (j15 : Int) : Option ((List aD × Int × Int) ⊕ ((List aD × Int))) :=
  cond (decide (i14 < j15))
  (aT (0 ≤ (1 : Int)) <|
  aT (0 ≤ m2 ∧ m2 < ((List.length aA : Nat) : Int)) <|
  aT (0 ≤ (IntKind.i64.wrap (Int.fdiv (IntKind.u64.wrap (IntKind.i64.wrap (i14 + j15))) (2 ^ (min (Int.toNat (1 : Int)) 64)))) ∧ (IntKind.i64.wrap (Int.fdiv (IntKind.u64.wrap (IntKind.i64.wrap (i14 + j15))) (2 ^ (min (Int.toNat (1 : Int)) 64)))) < ((List.length aA : Nat) : Int)) <|
  (cmp4 (List.getD aA (Int.toNat m2) default) (List.getD aA (Int.toNat (IntKind.i64.wrap (Int.fdiv (IntKind.u64.wrap (IntKind.i64.wrap (i14 + j15))) (2 ^ (min (Int.toNat (1 : Int)) 64))))) default)).bind fun x31 =>
  cond (!(decide (x31 < (0 : Int))))
  (some (.inl (aA, IntKind.i64.wrap ((IntKind.i64.wrap (Int.fdiv (IntKind.u64.wrap (IntKind.i64.wrap (i14 + j15))) (2 ^ (min (Int.toNat (1 : Int)) 64)))) + (1 : Int)), j15)))
  (some (.inl (aA, i14, IntKind.i64.wrap (Int.fdiv (IntKind.u64.wrap (IntKind.i64.wrap (i14 + j15))) (2 ^ (min (Int.toNat (1 : Int)) 64)))))))
  (some (.inr (aA, i14)))

noncomputable def yU (cmp4 : aD → aD → Option Int) (rec : (List aD) → Int → Int → Int → Option (List aD)) (aA : List aD) (m2 : Int) (i14 : Int) (j15 : Int) : Option (List aD) :=
  (lp (fun s => yL cmp4 rec m2 s.1 s.2.1 s.2.2) (aA, i14, j15)).bind (fun rr => yV cmp4 rec rr.1 m2 rr.2)

noncomputable def zU (cmp4 : aD → aD → Option Int) (rec : (List aD) → Int → Int → Int → Option (List aD)) (aA : List aD) (a1 : Int) (m2 : Int) (b3 : Int) : Option (List aD) :=
  cond (decide ((IntKind.i64.wrap (b3 - m2)) = (1 : Int)))
  (yU cmp4 rec aA m2 a1 m2)
  (zM cmp4 rec aA a1 m2 b3)

noncomputable def yC (cmp4 : aD → aD → Option Int) (rec : (List aD) → Int → Int → Int → Option (List aD)) (aA : List aD) : Option (List aD) :=
  some aA

noncomputable def yH (cmp4 : aD → aD → Option Int) (rec : (List aD) → Int → Int → Int → Option (List aD)) (i10 : Int) (aA : List aD) (k13 : Int) : Option ((List aD × Int) ⊕ ((List aD))) :=
  cond (decide (k13 < (IntKind.i64.wrap (i10 - (1 : Int)))))
  (aT (0 ≤ (IntKind.i64.wrap (k13 + (1 : Int))) ∧ (IntKind.i64.wrap (k13 + (1 : Int))) < ((List.length aA : Nat) : Int)) <|
  aT (0 ≤ k13 ∧ k13 < ((List.length aA : Nat) : Int)) <|
  aT (0 ≤ k13 ∧ k13 < ((List.length aA : Nat) : Int)) <|
  aT (0 ≤ (IntKind.i64.wrap (k13 + (1 : Int))) ∧ (IntKind.i64.wrap (k13 + (1 : Int))) < ((List.length aA : Nat) : Int)) <|
  some (.inl (List.set (List.set aA (Int.toNat k13) (List.getD aA (Int.toNat (IntKind.i64.wrap (k13 + (1 : Int)))) default)) (Int.toNat (IntKind.i64.wrap (k13 + (1 : Int)))) (List.getD aA (Int.toNat k13) default), IntKind.i64.wrap (k13 + (1 : Int)))))
  (some (.inr aA))

noncomputable def yF (cmp4 : aD → aD → Option Int) (rec : (List aD) → Int → Int → Int → Option (List aD)) (aA : List aD) (i10 : Int) (k13 : Int) : Option (List aD) :=
  (lp (fun s => yH cmp4 rec i10 s.1 s.2) (aA, k13)).bind (fun rr => yC cmp4 rec rr)

noncomputable def yR (cmp4 : aD → aD → Option Int) (rec : (List aD) → Int → Int → Int → Option (List aD)) (aA : List aD) (a1 : Int) (i10 : Int) : Option (List aD) :=
  yF cmp4 rec aA i10 a1

noncomputable def yG (cmp4 : aD → aD → Option Int) (rec : (List aD) → Int → Int → Int → Option (List aD)) (a1 : Int) (aA : List aD) (i10 : Int) (j11 : Int) : Option ((List aD × Int × Int) ⊕ ((List aD × Int))) :=
  cond (decide (i10 < j11))
  (aT (0 ≤ (1 : Int)) <|
  aT (0 ≤ (IntKind.i64.wrap (Int.fdiv (IntKind.u64.wrap (IntKind.i64.wrap (i10 + j11))) (2 ^ (min (Int.toNat (1 : Int)) 64)))) ∧ (IntKind.i64.wrap (Int.fdiv (IntKind.u64.wrap (IntKind.i64.wrap (i10 + j11))) (2 ^ (min (Int.toNat (1 : Int)) 64)))) < ((List.length aA : Nat) : Int)) <|
  aT (0 ≤ a1 ∧ a1 < ((List.length aA : Nat) : Int)) <|
  (cmp4 (List.getD aA (Int.toNat (IntKind.i64.wrap (Int.fdiv (IntKind.u64.wrap (IntKind.i64.wrap (i10 + j11))) (2 ^ (min (Int.toNat (1 : Int)) 64))))) default) (List.getD aA (Int.toNat a1) default)).bind fun x45 =>
  cond (decide (x45 < (0 : Int)))
  (some (.inl (aA, IntKind.i64.wrap ((IntKind.i64.wrap (Int.fdiv (IntKind.u64.wrap (IntKind.i64.wrap (i10 + j11))) (2 ^ (min (Int.toNat (1 : Int)) 64)))) + (1 : Int)), j11)))
  (some (.inl (aA, i10, IntKind.i64.wrap (Int.fdiv (IntKind.u64.wrap (IntKind.i64.wrap (i10 + j11))) (2 ^ (min (Int.toNat (1 : Int)) 64)))))))
  (some (.inr (aA, i10)))

noncomputable def yK (cmp4 : aD → aD → Option Int) (rec : (List aD) → Int → Int → Int → Option (List aD)) (aA : List aD) (a1 : Int) (i10 : Int) (j11 : Int) : Option (List aD) :=
  (lp (fun s => yG cmp4 rec a1 s.1 s.2.1 s.2.2) (aA, i10, j11)).bind (fun rr => yR cmp4 rec rr.1 a1 rr.2)

noncomputable def xO (cmp4 : aD → aD → Option Int) (rec : (List aD) → Int → Int → Int → Option (List aD)) (aA : (List aD)) (a1 : Int) (m2 : Int) (b3 : Int) : Option (List aD) :=
  cond (decide ((IntKind.i64.wrap (m2 - a1)) = (1 : Int)))
  (yK cmp4 rec aA a1 m2 b3)
  (zU cmp4 rec aA a1 m2 b3)

noncomputable def zT (cmp4 : aD → aD → Option Int) : Nat → (List aD) → Int → Int → Int → Option (List aD)
  | 0 => fun _ _ _ _ => none
  | k + 1 => xO cmp4 (zT cmp4 k)

noncomputable def dY (x0 : Int) (y1 : Int) : Option Bool :=
  (pP x0).bind fun x1 =>
  (cZ x1 (pP y1)).bind fun x4 =>
  some ((x1 && (!x4)) || (decide (x0 < y1)))

noncomputable def mL (aA : List Int) (a1 : Int) (b2 : Int) (i6 : Int) : Option ((List Int × Int) ⊕ ((List Int))) :=
  some (.inl (aA, IntKind.i64.wrap (i6 + (1 : Int))))

noncomputable def gL (a1 : Int) (b2 : Int) (i6 : Int) (aA : List Int) (j7 : Int) : Option ((List Int × Int) ⊕ ((List Int))) :=
  aT ((((decide (a1 < j7))) = true → 0 ≤ j7 ∧ j7 < ((List.length aA : Nat) : Int))) <|
  aT ((((decide (a1 < j7))) = true → 0 ≤ (IntKind.i64.wrap (j7 - (1 : Int))) ∧ (IntKind.i64.wrap (j7 - (1 : Int))) < ((List.length aA : Nat) : Int))) <|
  (cZ (decide (a1 < j7)) (dY (List.getD aA (Int.toNat j7) default) (List.getD aA (Int.toNat (IntKind.i64.wrap (j7 - (1 : Int)))) default))).bind fun x4 =>
  cond ((decide (a1 < j7)) && x4)
  (aT (0 ≤ (IntKind.i64.wrap (j7 - (1 : Int))) ∧ (IntKind.i64.wrap (j7 - (1 : Int))) < ((List.length aA : Nat) : Int)) <|
  aT (0 ≤ j7 ∧ j7 < ((List.length aA : Nat) : Int)) <|
  aT (0 ≤ j7 ∧ j7 < ((List.length aA : Nat) : Int)) <|
  aT (0 ≤ (IntKind.i64.wrap (j7 - (1 : Int))) ∧ (IntKind.i64.wrap (j7 - (1 : Int))) < ((List.length aA : Nat) : Int)) <|
  some (.inl (List.set (List.set aA (Int.toNat j7) (List.getD aA (Int.toNat (IntKind.i64.wrap (j7 - (1 : Int)))) default)) (Int.toNat (IntKind.i64.wrap (j7 - (1 : Int)))) (List.getD aA (Int.toNat j7) default), IntKind.i64.wrap (j7 - (1 : Int)))))
  (some (.inr aA))

noncomputable def mM (aA : List Int) (a1 : Int) (b2 : Int) (i6 : Int) (j7 : Int) : Option ((List Int × Int) ⊕ ((List Int))) :=
  (lp (fun s => gL a1 b2 i6 s.1 s.2) (aA, j7)).bind (fun rr => mL rr a1 b2 i6)

noncomputable def dR (a1 : Int) (b2 : Int) (aA : List Int) (i6 : Int) : Option ((List Int × Int) ⊕ ((List Int))) :=
  cond (decide (i6 < b2))
  (mM aA a1 b2 i6 i6)
  (some (.inr aA))

noncomputable def mN (aA : List Int) (a1 : Int) (b2 : Int) (i6 : Int) : Option (List Int) :=
  (lp (fun s => dR a1 b2 s.1 s.2) (aA, i6)).bind (fun rr => some rr)

noncomputable def kR (aA : (List Int)) (a1 : Int) (b2 : Int) : Option (List Int) :=
  mN aA a1 b2 (IntKind.i64.wrap (a1 + (1 : Int)))

noncomputable def kK (aA : List Int) (hi2 : Int) (aW : Int) (pF : Int) (zV : Int) : Option ((List Int × Int) ⊕ ((List Int) ⊕ (List Int))) :=
  aT (0 ≤ (IntKind.i64.wrap (aW + pF)) ∧ (IntKind.i64.wrap (aW + pF)) < ((List.length aA : Nat) : Int)) <|
  aT (0 ≤ (IntKind.i64.wrap (aW + zV)) ∧ (IntKind.i64.wrap (aW + zV)) < ((List.length aA : Nat) : Int)) <|
  (dY (List.getD aA (Int.toNat (IntKind.i64.wrap (aW + pF))) default) (List.getD aA (Int.toNat (IntKind.i64.wrap (aW + zV))) default)).bind fun x4 =>
  cond (!x4)
  (some (.inr (.inr aA)))
  (aT (0 ≤ (IntKind.i64.wrap (aW + zV)) ∧ (IntKind.i64.wrap (aW + zV)) < ((List.length aA : Nat) : Int)) <|
  aT (0 ≤ (IntKind.i64.wrap (aW + pF)) ∧ (IntKind.i64.wrap (aW + pF)) < ((List.length aA : Nat) : Int)) <|
  aT (0 ≤ (IntKind.i64.wrap (aW + pF)) ∧ (IntKind.i64.wrap (aW + pF)) < ((List.length aA : Nat) : Int)) <|
  aT (0 ≤ (IntKind.i64.wrap (aW + zV)) ∧ (IntKind.i64.wrap (aW + zV)) < ((List.length aA : Nat) : Int)) <|
  some (.inl (List.set (List.set aA (Int.toNat (IntKind.i64.wrap (aW + pF))) (List.getD aA (Int.toNat (IntKind.i64.wrap (aW + zV))) default)) (Int.toNat (IntKind.i64.wrap (aW + zV))) (List.getD aA (Int.toNat (IntKind.i64.wrap (aW + pF))) default), zV)))

noncomputable def dJ (hi2 : Int) (aW : Int) (aA : List Int) (pF : Int) : Option ((List Int × Int) ⊕ ((List Int) ⊕ (List Int))) :=
  cond (decide (hi2 ≤ (IntKind.i64.wrap ((IntKind.i64.wrap ((2 : Int) * pF)) + (1 : Int)))))
  (some (.inr (.inl aA)))
  (aT ((((decide ((IntKind.i64.wrap ((IntKind.i64.wrap ((IntKind.i64.wrap ((2 : Int) * pF)) + (1 : Int))) + (1 : Int))) < hi2))) = true → 0 ≤ (IntKind.i64.wrap (aW + (IntKind.i64.wrap ((IntKind.i64.wrap ((2 : Int) * pF)) + (1 : Int))))) ∧ (IntKind.i64.wrap (aW + (IntKind.i64.wrap ((IntKind.i64.wrap ((2 : Int) * pF)) + (1 : Int))))) < ((List.length aA : Nat) : Int))) <|
  aT ((((decide ((IntKind.i64.wrap ((IntKind.i64.wrap ((IntKind.i64.wrap ((2 : Int) * pF)) + (1 : Int))) + (1 : Int))) < hi2))) = true → 0 ≤ (IntKind.i64.wrap ((IntKind.i64.wrap (aW + (IntKind.i64.wrap ((IntKind.i64.wrap ((2 : Int) * pF)) + (1 : Int))))) + (1 : Int))) ∧ (IntKind.i64.wrap ((IntKind.i64.wrap (aW + (IntKind.i64.wrap ((IntKind.i64.wrap ((2 : Int) * pF)) + (1 : Int))))) + (1 : Int))) < ((List.length aA : Nat) : Int))) <|
  (cZ (decide ((IntKind.i64.wrap ((IntKind.i64.wrap ((IntKind.i64.wrap ((2 : Int) * pF)) + (1 : Int))) + (1 : Int))) < hi2)) (dY (List.getD aA (Int.toNat (IntKind.i64.wrap (aW + (IntKind.i64.wrap ((IntKind.i64.wrap ((2 : Int) * pF)) + (1 : Int)))))) default) (List.getD aA (Int.toNat (IntKind.i64.wrap ((IntKind.i64.wrap (aW + (IntKind.i64.wrap ((IntKind.i64.wrap ((2 : Int) * pF)) + (1 : Int))))) + (1 : Int)))) default))).bind fun x14 =>
  cond ((decide ((IntKind.i64.wrap ((IntKind.i64.wrap ((IntKind.i64.wrap ((2 : Int) * pF)) + (1 : Int))) + (1 : Int))) < hi2)) && x14)
  (kK aA hi2 aW pF (IntKind.i64.wrap ((IntKind.i64.wrap ((IntKind.i64.wrap ((2 : Int) * pF)) + (1 : Int))) + (1 : Int))))
  (kK aA hi2 aW pF (IntKind.i64.wrap ((IntKind.i64.wrap ((2 : Int) * pF)) + (1 : Int)))))

noncomputable def oF (aA : List Int) (hi2 : Int) (aW : Int) (pF : Int) : Option (List Int) :=
  (lp (fun s => dJ hi2 aW s.1 s.2) (aA, pF)).bind (Sum.elim (fun rr => some rr) (fun rr => some rr))

noncomputable def iR (aA : (List Int)) (lo1 : Int) (hi2 : Int) (aW : Int) : Option (List Int) :=
  oF aA hi2 aW lo1

noncomputable def fF (pI : Int) (lo7 : Int) (aA : List Int) (i10 : Int) : Option ((List Int × Int) ⊕ ((List Int))) :=
  cond (decide ((0 : Int) ≤ i10))
  (aT (0 ≤ (IntKind.i64.wrap (pI + i10)) ∧ (IntKind.i64.wrap (pI + i10)) < ((List.length aA : Nat) : Int)) <|
  aT (0 ≤ pI ∧ pI < ((List.length aA : Nat) : Int)) <|
  aT (0 ≤ pI ∧ pI < ((List.length aA : Nat) : Int)) <|
  aT (0 ≤ (IntKind.i64.wrap (pI + i10)) ∧ (IntKind.i64.wrap (pI + i10)) < ((List.length aA : Nat) : Int)) <|
  (iR (List.set (List.set aA (Int.toNat pI) (List.getD aA (Int.toNat (IntKind.i64.wrap (pI + i10))) default)) (Int.toNat (IntKind.i64.wrap (pI + i10))) (List.getD aA (Int.toNat pI) default)) lo7 i10 pI).bind fun x6 =>
  some (.inl (x6, IntKind.i64.wrap (i10 - (1 : Int)))))
  (some (.inr aA))

noncomputable def oJ (aA : List Int) (pI : Int) (lo7 : Int) (i10 : Int) : Option (List Int) :=
  (lp (fun s => fF pI lo7 s.1 s.2) (aA, i10)).bind (fun rr => some rr)

noncomputable def oG (aA : List Int) (pI : Int) (lo7 : Int) (hi8 : Int) : Option (List Int) :=
  oJ aA pI lo7 (IntKind.i64.wrap (hi8 - (1 : Int)))

noncomputable def fE (pI : Int) (lo7 : Int) (hi8 : Int) (aA : List Int) (i9 : Int) : Option ((List Int × Int) ⊕ ((List Int))) :=
  cond (decide ((0 : Int) ≤ i9))
  ((iR aA i9 hi8 pI).bind fun x11 =>
  some (.inl (x11, IntKind.i64.wrap (i9 - (1 : Int)))))
  (some (.inr aA))

noncomputable def oH (aA : List Int) (pI : Int) (lo7 : Int) (hi8 : Int) (i9 : Int) : Option (List Int) :=
  (lp (fun s => fE pI lo7 hi8 s.1 s.2) (aA, i9)).bind (fun rr => oG rr pI lo7 hi8)

noncomputable def mR (aA : (List Int)) (a1 : Int) (b2 : Int) : Option (List Int) :=
  aT ((2 : Int) ≠ 0) <|
  oH aA a1 (0 : Int) (IntKind.i64.wrap (b2 - a1)) (IntKind.i64.wrap (Int.tdiv (IntKind.i64.wrap ((IntKind.i64.wrap (b2 - a1)) - (1 : Int))) (2 : Int)))

noncomputable def gQ (aA : List Int) (a1 : Int) (BJ : Int) (LK : Int) (wY : Int) (idx9 : Int) (GF : Int) : Option ((List Int × Int × Int) ⊕ ((List Int))) :=
  aT (0 ≤ (IntKind.i64.wrap (a1 + GF)) ∧ (IntKind.i64.wrap (a1 + GF)) < ((List.length aA : Nat) : Int)) <|
  aT (0 ≤ idx9 ∧ idx9 < ((List.length aA : Nat) : Int)) <|
  aT (0 ≤ idx9 ∧ idx9 < ((List.length aA : Nat) : Int)) <|
  aT (0 ≤ (IntKind.i64.wrap (a1 + GF)) ∧ (IntKind.i64.wrap (a1 + GF)) < ((List.length aA : Nat) : Int)) <|
  some (.inl (List.set (List.set aA (Int.toNat idx9) (List.getD aA (Int.toNat (IntKind.i64.wrap (a1 + GF))) default)) (Int.toNat (IntKind.i64.wrap (a1 + GF))) (List.getD aA (Int.toNat idx9) default), LK, IntKind.i64.wrap (idx9 + (1 : Int))))

noncomputable def cY (a1 : Int) (BJ : Int) (wY : Int) (aA : List Int) (LK : Int) (idx9 : Int) : Option ((List Int × Int × Int) ⊕ ((List Int))) :=
  aT ((4 : Int) ≠ 0) <|
  cond (decide (idx9 ≤ (IntKind.i64.wrap ((IntKind.i64.wrap (a1 + (IntKind.i64.wrap ((IntKind.i64.wrap (Int.tdiv BJ (4 : Int))) * (2 : Int))))) + (1 : Int)))))
  ((nM LK).bind fun x9 =>
  cond (decide (BJ ≤ (IntKind.i64.wrap (bM .and .u64 x9.1 (IntKind.u64.wrap (wY - (1 : Int)))))))
  (gQ aA a1 BJ x9.2 wY idx9 (IntKind.i64.wrap ((IntKind.i64.wrap (bM .and .u64 x9.1 (IntKind.u64.wrap (wY - (1 : Int))))) - BJ)))
  (gQ aA a1 BJ x9.2 wY idx9 (IntKind.i64.wrap (bM .and .u64 x9.1 (IntKind.u64.wrap (wY - (1 : Int)))))))
  (some (.inr aA))

noncomputable def mJ (aA : List Int) (a1 : Int) (BJ : Int) (LK : Int) (wY : Int) (idx9 : Int) : Option (List Int) :=
  (lp (fun s => cY a1 BJ wY s.1 s.2.1 s.2.2) (aA, LK, idx9)).bind (fun rr => some rr)

noncomputable def kO (aA : (List Int)) (a1 : Int) (b2 : Int) : Option (List Int) :=
  cond (decide ((8 : Int) ≤ (IntKind.i64.wrap (b2 - a1))))
  ((mX (IntKind.i64.wrap (b2 - a1))).bind fun x3 =>
  aT ((4 : Int) ≠ 0) <|
  mJ aA a1 (IntKind.i64.wrap (b2 - a1)) (IntKind.u64.wrap (IntKind.i64.wrap (b2 - a1))) x3 (IntKind.i64.wrap ((IntKind.i64.wrap (a1 + (IntKind.i64.wrap ((IntKind.i64.wrap (Int.tdiv (IntKind.i64.wrap (b2 - a1)) (4 : Int))) * (2 : Int))))) - (1 : Int))))
  (some aA)

noncomputable def jR (aA : (List Int)) (a1 : Int) (b2 : Int) (qW : Int) : Option ((Int × Int) × Int) :=
  aT (0 ≤ b2 ∧ b2 < ((List.length aA : Nat) : Int)) <|
  aT (0 ≤ a1 ∧ a1 < ((List.length aA : Nat) : Int)) <|
  (dY (List.getD aA (Int.toNat b2) default) (List.getD aA (Int.toNat a1) default)).bind fun x3 =>
  cond x3
  (some ((b2, a1), IntKind.i64.wrap (qW + (1 : Int))))
  (some ((a1, b2), qW))

noncomputable def lW (aA : (List Int)) (a1 : Int) (b2 : Int) (c3 : Int) (AO : Int) : Option (Int × Int) :=
  (jR aA a1 b2 AO).bind fun x1 =>
  (jR aA x1.1.2 c3 x1.2).bind fun x6 =>
  (jR aA x1.1.1 x6.1.1 x6.2).bind fun x11 =>
  some (x11.1.2, x11.2)

noncomputable def fA (aA : (List Int)) (a1 : Int) (AG : Int) : Option (Int × Int) :=
  (lW aA (IntKind.i64.wrap (a1 - (1 : Int))) a1 (IntKind.i64.wrap (a1 + (1 : Int))) AG).bind fun x1 =>
  some (x1.1, x1.2)

noncomputable def iQ (aA : List Int) (UE : Int) (j11 : Int) : Option (Int × Int) :=
  cond (decide (UE = (0 : Int)))
  (some (j11, (1 : Int)))
  (cond (decide (UE = (12 : Int)))
  (some (j11, (2 : Int)))
  (some (j11, (0 : Int))))

noncomputable def iP (aA : List Int) (UE : Int) (i10 : Int) (j11 : Int) (k12 : Int) : Option (Int × Int) :=
  (lW aA i10 j11 k12 UE).bind fun x8 =>
  iQ aA x8.2 x8.1

noncomputable def lM (aA : (List Int)) (a1 : Int) (b2 : Int) : Option (Int × Int) :=
  aT ((4 : Int) ≠ 0) <|
  aT ((4 : Int) ≠ 0) <|
  aT ((4 : Int) ≠ 0) <|
  cond (decide ((8 : Int) ≤ (IntKind.i64.wrap (b2 - a1))))
  (cond (decide ((50 : Int) ≤ (IntKind.i64.wrap (b2 - a1))))
  ((fA aA (IntKind.i64.wrap (a1 + (IntKind.i64.wrap ((IntKind.i64.wrap (Int.tdiv (IntKind.i64.wrap (b2 - a1)) (4 : Int))) * (1 : Int))))) 0).bind fun x14 =>
  (fA aA (IntKind.i64.wrap (a1 + (IntKind.i64.wrap ((IntKind.i64.wrap (Int.tdiv (IntKind.i64.wrap (b2 - a1)) (4 : Int))) * (2 : Int))))) x14.2).bind fun x19 =>
  (fA aA (IntKind.i64.wrap (a1 + (IntKind.i64.wrap ((IntKind.i64.wrap (Int.tdiv (IntKind.i64.wrap (b2 - a1)) (4 : Int))) * (3 : Int))))) x19.2).bind fun x24 =>
  iP aA x24.2 x14.1 x19.1 x24.1)
  (iP aA 0 (IntKind.i64.wrap (a1 + (IntKind.i64.wrap ((IntKind.i64.wrap (Int.tdiv (IntKind.i64.wrap (b2 - a1)) (4 : Int))) * (1 : Int))))) (IntKind.i64.wrap (a1 + (IntKind.i64.wrap ((IntKind.i64.wrap (Int.tdiv (IntKind.i64.wrap (b2 - a1)) (4 : Int))) * (2 : Int))))) (IntKind.i64.wrap (a1 + (IntKind.i64.wrap ((IntKind.i64.wrap (Int.tdiv (IntKind.i64.wrap (b2 - a1)) (4 : Int))) * (3 : Int)))))))
  (iQ aA 0 (IntKind.i64.wrap (a1 + (IntKind.i64.wrap ((IntKind.i64.wrap (Int.tdiv (IntKind.i64.wrap (b2 - a1)) (4 : Int))) * (2 : Int))))))

noncomputable def dV  (aA : List Int) (i6 : Int) (j7 : Int) : Option ((List Int × Int × Int) ⊕ ((List Int))) :=
  cond (decide (i6 < j7))
  (aT (0 ≤ j7 ∧ j7 < ((List.length aA : Nat) : Int)) <|
  aT (0 ≤ i6 ∧ i6 < ((List.length aA : Nat) : Int)) <|
  aT (0 ≤ i6 ∧ i6 < ((List.length aA : Nat) : Int)) <|
  aT (0 ≤ j7 ∧ j7 < ((List.length aA : Nat) : Int)) <|
  some (.inl (List.set (List.set aA (Int.toNat i6) (List.getD aA (Int.toNat j7) default)) (Int.toNat j7) (List.getD aA (Int.toNat i6) default), IntKind.i64.wrap (i6 + (1 : Int)), IntKind.i64.wrap (j7 - (1 : Int)))))
  (some (.inr aA))

noncomputable def mU (aA : List Int) (i6 : Int) (j7 : Int) : Option (List Int) :=
  (lp (fun s => dV s.1 s.2.1 s.2.2) (aA, i6, j7)).bind (fun rr => some rr)

noncomputable def lH (aA : (List Int)) (a1 : Int) (b2 : Int) : Option (List Int) :=
  mU aA a1 (IntKind.i64.wrap (b2 - (1 : Int)))

noncomputable def jW (aA : List Int) : Option (Bool × List Int) :=
  some (false, aA)

noncomputable def jZ (aA : List Int) (a1 : Int) (b2 : Int) (i7 : Int) (j8 : Int) : Option ((List Int × Int × Int) ⊕ ((List Int) ⊕ (Bool × (List Int)))) :=
  some (.inl (aA, i7, IntKind.i64.wrap (j8 + (1 : Int))))

noncomputable def cV (a1 : Int) (b2 : Int) (i7 : Int) (j8 : Int) (aA : List Int) (j10 : Int) : Option ((List Int × Int) ⊕ ((List Int))) :=
  cond (decide (j10 < b2))
  (aT (0 ≤ j10 ∧ j10 < ((List.length aA : Nat) : Int)) <|
  aT (0 ≤ (IntKind.i64.wrap (j10 - (1 : Int))) ∧ (IntKind.i64.wrap (j10 - (1 : Int))) < ((List.length aA : Nat) : Int)) <|
  (dY (List.getD aA (Int.toNat j10) default) (List.getD aA (Int.toNat (IntKind.i64.wrap (j10 - (1 : Int)))) default)).bind fun x12 =>
  cond (!x12)
  (some (.inr aA))
  (aT (0 ≤ (IntKind.i64.wrap (j10 - (1 : Int))) ∧ (IntKind.i64.wrap (j10 - (1 : Int))) < ((List.length aA : Nat) : Int)) <|
  aT (0 ≤ j10 ∧ j10 < ((List.length aA : Nat) : Int)) <|
  aT (0 ≤ j10 ∧ j10 < ((List.length aA : Nat) : Int)) <|
  aT (0 ≤ (IntKind.i64.wrap (j10 - (1 : Int))) ∧ (IntKind.i64.wrap (j10 - (1 : Int))) < ((List.length aA : Nat) : Int)) <|
  some (.inl (List.set (List.set aA (Int.toNat j10) (List.getD aA (Int.toNat (IntKind.i64.wrap (j10 - (1 : Int)))) default)) (Int.toNat (IntKind.i64.wrap (j10 - (1 : Int)))) (List.getD aA (Int.toNat j10) default), IntKind.i64.wrap (j10 + (1 : Int))))))
  (some (.inr aA))

noncomputable def jY (aA : List Int) (a1 : Int) (b2 : Int) (i7 : Int) (j8 : Int) (j10 : Int) : Option ((List Int × Int × Int) ⊕ ((List Int) ⊕ (Bool × (List Int)))) :=
  (lp (fun s => cV a1 b2 i7 j8 s.1 s.2) (aA, j10)).bind (fun rr => jZ rr a1 b2 i7 j8)

noncomputable def dD (aA : List Int) (a1 : Int) (b2 : Int) (i7 : Int) (j8 : Int) : Option ((List Int × Int × Int) ⊕ ((List Int) ⊕ (Bool × (List Int)))) :=
  cond (decide ((2 : Int) ≤ (IntKind.i64.wrap (b2 - i7))))
  (jY aA a1 b2 i7 j8 (IntKind.i64.wrap (i7 + (1 : Int))))
  (jZ aA a1 b2 i7 j8)

noncomputable def cN (a1 : Int) (b2 : Int) (i7 : Int) (j8 : Int) (aA : List Int) (j9 : Int) : Option ((List Int × Int) ⊕ ((List Int))) :=
  cond (decide ((1 : Int) ≤ j9))
  (aT (0 ≤ j9 ∧ j9 < ((List.length aA : Nat) : Int)) <|
  aT (0 ≤ (IntKind.i64.wrap (j9 - (1 : Int))) ∧ (IntKind.i64.wrap (j9 - (1 : Int))) < ((List.length aA : Nat) : Int)) <|
  (dY (List.getD aA (Int.toNat j9) default) (List.getD aA (Int.toNat (IntKind.i64.wrap (j9 - (1 : Int)))) default)).bind fun x24 =>
  cond (!x24)
  (some (.inr aA))
  (aT (0 ≤ (IntKind.i64.wrap (j9 - (1 : Int))) ∧ (IntKind.i64.wrap (j9 - (1 : Int))) < ((List.length aA : Nat) : Int)) <|
  aT (0 ≤ j9 ∧ j9 < ((List.length aA : Nat) : Int)) <|
  aT (0 ≤ j9 ∧ j9 < ((List.length aA : Nat) : Int)) <|
  aT (0 ≤ (IntKind.i64.wrap (j9 - (1 : Int))) ∧ (IntKind.i64.wrap (j9 - (1 : Int))) < ((List.length aA : Nat) : Int)) <|
  some (.inl (List.set (List.set aA (Int.toNat j9) (List.getD aA (Int.toNat (IntKind.i64.wrap (j9 - (1 : Int)))) default)) (Int.toNat (IntKind.i64.wrap (j9 - (1 : Int)))) (List.getD aA (Int.toNat j9) default), IntKind.i64.wrap (j9 - (1 : Int))))))
  (some (.inr aA))

noncomputable def kA (aA : List Int) (a1 : Int) (b2 : Int) (i7 : Int) (j8 : Int) (j9 : Int) : Option ((List Int × Int × Int) ⊕ ((List Int) ⊕ (Bool × (List Int)))) :=
  (lp (fun s => cN a1 b2 i7 j8 s.1 s.2) (aA, j9)).bind (fun rr => dD rr a1 b2 i7 j8)

noncomputable def jV (aA : List Int) (a1 : Int) (b2 : Int) (i7 : Int) (j8 : Int) : Option ((List Int × Int × Int) ⊕ ((List Int) ⊕ (Bool × (List Int)))) :=
  cond (decide (i7 = b2))
  (some (.inr (.inr (true, aA))))
  (cond (decide ((IntKind.i64.wrap (b2 - a1)) < (50 : Int)))
  (some (.inr (.inr (false, aA))))
  (aT (0 ≤ (IntKind.i64.wrap (i7 - (1 : Int))) ∧ (IntKind.i64.wrap (i7 - (1 : Int))) < ((List.length aA : Nat) : Int)) <|
  aT (0 ≤ i7 ∧ i7 < ((List.length aA : Nat) : Int)) <|
  aT (0 ≤ i7 ∧ i7 < ((List.length aA : Nat) : Int)) <|
  aT (0 ≤ (IntKind.i64.wrap (i7 - (1 : Int))) ∧ (IntKind.i64.wrap (i7 - (1 : Int))) < ((List.length aA : Nat) : Int)) <|
  cond (decide ((2 : Int) ≤ (IntKind.i64.wrap (i7 - a1))))
  (kA (List.set (List.set aA (Int.toNat i7) (List.getD aA (Int.toNat (IntKind.i64.wrap (i7 - (1 : Int)))) default)) (Int.toNat (IntKind.i64.wrap (i7 - (1 : Int)))) (List.getD aA (Int.toNat i7) default)) a1 b2 i7 j8 (IntKind.i64.wrap (i7 - (1 : Int))))
  (dD (List.set (List.set aA (Int.toNat i7) (List.getD aA (Int.toNat (IntKind.i64.wrap (i7 - (1 : Int)))) default)) (Int.toNat (IntKind.i64.wrap (i7 - (1 : Int)))) (List.getD aA (Int.toNat i7) default)) a1 b2 i7 j8)))

noncomputable def cU (a1 : Int) (b2 : Int) (j8 : Int) (aA : List Int) (i7 : Int) : Option ((List Int × Int) ⊕ ((List Int × Int))) :=
  aT ((((decide (i7 < b2))) = true → 0 ≤ i7 ∧ i7 < ((List.length aA : Nat) : Int))) <|
  aT ((((decide (i7 < b2))) = true → 0 ≤ (IntKind.i64.wrap (i7 - (1 : Int))) ∧ (IntKind.i64.wrap (i7 - (1 : Int))) < ((List.length aA : Nat) : Int))) <|
  (cZ (decide (i7 < b2)) (dY (List.getD aA (Int.toNat i7) default) (List.getD aA (Int.toNat (IntKind.i64.wrap (i7 - (1 : Int)))) default))).bind fun x34 =>
  cond ((decide (i7 < b2)) && (!x34))
  (some (.inl (aA, IntKind.i64.wrap (i7 + (1 : Int)))))
  (some (.inr (aA, i7)))

noncomputable def dF (aA : List Int) (a1 : Int) (b2 : Int) (i7 : Int) (j8 : Int) : Option ((List Int × Int × Int) ⊕ ((List Int) ⊕ (Bool × (List Int)))) :=
  (lp (fun s => cU a1 b2 j8 s.1 s.2) (aA, i7)).bind (fun rr => jV rr.1 a1 b2 rr.2 j8)

noncomputable def bZ (a1 : Int) (b2 : Int) (aA : List Int) (i7 : Int) (j8 : Int) : Option ((List Int × Int × Int) ⊕ ((List Int) ⊕ (Bool × (List Int)))) :=
  cond (decide (j8 < (5 : Int)))
  (dF aA a1 b2 i7 j8)
  (some (.inr (.inl aA)))

noncomputable def jX (aA : List Int) (a1 : Int) (b2 : Int) (i7 : Int) (j8 : Int) : Option (Bool × List Int) :=
  (lp (fun s => bZ a1 b2 s.1 s.2.1 s.2.2) (aA, i7, j8)).bind (Sum.elim (fun rr => jW rr) (fun rr => some (rr.1, rr.2)))

noncomputable def gJ (aA : (List Int)) (a1 : Int) (b2 : Int) : Option (Bool × List Int) :=
  jX aA a1 b2 (IntKind.i64.wrap (a1 + (1 : Int))) (0 : Int)

noncomputable def oV (aA : List Int) (i9 : Int) : Option (Int × List Int) :=
  some (i9, aA)

noncomputable def fV (aA : List Int) (a1 : Int) (i9 : Int) (j10 : Int) : Option ((List Int × Int × Int) ⊕ ((List Int × Int))) :=
  cond (decide (j10 < i9))
  (some (.inr (aA, i9)))
  (aT (0 ≤ j10 ∧ j10 < ((List.length aA : Nat) : Int)) <|
  aT (0 ≤ i9 ∧ i9 < ((List.length aA : Nat) : Int)) <|
  aT (0 ≤ i9 ∧ i9 < ((List.length aA : Nat) : Int)) <|
  aT (0 ≤ j10 ∧ j10 < ((List.length aA : Nat) : Int)) <|
  some (.inl (List.set (List.set aA (Int.toNat i9) (List.getD aA (Int.toNat j10) default)) (Int.toNat j10) (List.getD aA (Int.toNat i9) default), IntKind.i64.wrap (i9 + (1 : Int)), IntKind.i64.wrap (j10 - (1 : Int)))))

noncomputable def eC (a1 : Int) (i9 : Int) (aA : List Int) (j10 : Int) : Option ((List Int × Int) ⊕ ((List Int × Int))) :=
  aT ((((decide (i9 ≤ j10))) = true → 0 ≤ a1 ∧ a1 < ((List.length aA : Nat) : Int))) <|
  aT ((((decide (i9 ≤ j10))) = true → 0 ≤ j10 ∧ j10 < ((List.length aA : Nat) : Int))) <|
  (cZ (decide (i9 ≤ j10)) (dY (List.getD aA (Int.toNat a1) default) (List.getD aA (Int.toNat j10) default))).bind fun x12 =>
  cond ((decide (i9 ≤ j10)) && x12)
  (some (.inl (aA, IntKind.i64.wrap (j10 - (1 : Int)))))
  (some (.inr (aA, j10)))

noncomputable def mE (aA : List Int) (a1 : Int) (i9 : Int) (j10 : Int) : Option ((List Int × Int × Int) ⊕ ((List Int × Int))) :=
  (lp (fun s => eC a1 i9 s.1 s.2) (aA, j10)).bind (fun rr => fV rr.1 a1 i9 rr.2)

noncomputable def mH (aA : List Int) (a1 : Int) (i9 : Int) (j10 : Int) : Option ((List Int × Int × Int) ⊕ ((List Int × Int))) :=
  mE aA a1 i9 j10

noncomputable def eE (a1 : Int) (j10 : Int) (aA : List Int) (i9 : Int) : Option ((List Int × Int) ⊕ ((List Int × Int))) :=
  aT ((((decide (i9 ≤ j10))) = true → 0 ≤ a1 ∧ a1 < ((List.length aA : Nat) : Int))) <|
  aT ((((decide (i9 ≤ j10))) = true → 0 ≤ i9 ∧ i9 < ((List.length aA : Nat) : Int))) <|
  (cZ (decide (i9 ≤ j10)) (dY (List.getD aA (Int.toNat a1) default) (List.getD aA (Int.toNat i9) default))).bind fun x18 =>
  cond ((decide (i9 ≤ j10)) && (!x18))
  (some (.inl (aA, IntKind.i64.wrap (i9 + (1 : Int)))))
  (some (.inr (aA, i9)))

noncomputable def mG (aA : List Int) (a1 : Int) (i9 : Int) (j10 : Int) : Option ((List Int × Int × Int) ⊕ ((List Int × Int))) :=
  (lp (fun s => eE a1 j10 s.1 s.2) (aA, i9)).bind (fun rr => mH rr.1 a1 rr.2 j10)

noncomputable def cW (a1 : Int) (aA : List Int) (i9 : Int) (j10 : Int) : Option ((List Int × Int × Int) ⊕ ((List Int × Int))) :=
  mG aA a1 i9 j10

noncomputable def mF (aA : List Int) (a1 : Int) (i9 : Int) (j10 : Int) : Option (Int × List Int) :=
  (lp (fun s => cW a1 s.1 s.2.1 s.2.2) (aA, i9, j10)).bind (fun rr => oV rr.1 rr.2)

noncomputable def gR (aA : (List Int)) (a1 : Int) (b2 : Int) (bX : Int) : Option (Int × List Int) :=
  aT (0 ≤ bX ∧ bX < ((List.length aA : Nat) : Int)) <|
  aT (0 ≤ a1 ∧ a1 < ((List.length aA : Nat) : Int)) <|
  aT (0 ≤ a1 ∧ a1 < ((List.length aA : Nat) : Int)) <|
  aT (0 ≤ bX ∧ bX < ((List.length aA : Nat) : Int)) <|
  mF (List.set (List.set aA (Int.toNat a1) (List.getD aA (Int.toNat bX) default)) (Int.toNat bX) (List.getD aA (Int.toNat a1) default)) a1 (IntKind.i64.wrap (a1 + (1 : Int))) (IntKind.i64.wrap (b2 - (1 : Int)))

noncomputable def nU (aA : List Int) (a1 : Int) (j11 : Int) : Option ((Int × Bool) × List Int) :=
  aT (0 ≤ a1 ∧ a1 < ((List.length aA : Nat) : Int)) <|
  aT (0 ≤ j11 ∧ j11 < ((List.length aA : Nat) : Int)) <|
  aT (0 ≤ j11 ∧ j11 < ((List.length aA : Nat) : Int)) <|
  aT (0 ≤ a1 ∧ a1 < ((List.length aA : Nat) : Int)) <|
  some ((j11, false), (List.set (List.set aA (Int.toNat j11) (List.getD aA (Int.toNat a1) default)) (Int.toNat a1) (List.getD aA (Int.toNat j11) default)))

noncomputable def jM (aA : List Int) (a1 : Int) (i10 : Int) (j11 : Int) : Option ((List Int × Int × Int) ⊕ ((List Int × Int))) :=
  cond (decide (j11 < i10))
  (some (.inr (aA, j11)))
  (aT (0 ≤ j11 ∧ j11 < ((List.length aA : Nat) : Int)) <|
  aT (0 ≤ i10 ∧ i10 < ((List.length aA : Nat) : Int)) <|
  aT (0 ≤ i10 ∧ i10 < ((List.length aA : Nat) : Int)) <|
  aT (0 ≤ j11 ∧ j11 < ((List.length aA : Nat) : Int)) <|
  some (.inl (List.set (List.set aA (Int.toNat i10) (List.getD aA (Int.toNat j11) default)) (Int.toNat j11) (List.getD aA (Int.toNat i10) default), IntKind.i64.wrap (i10 + (1 : Int)), IntKind.i64.wrap (j11 - (1 : Int)))))

noncomputable def gK (a1 : Int) (i10 : Int) (aA : List Int) (j11 : Int) : Option ((List Int × Int) ⊕ ((List Int × Int))) :=
  aT ((((decide (i10 ≤ j11))) = true → 0 ≤ j11 ∧ j11 < ((List.length aA : Nat) : Int))) <|
  aT ((((decide (i10 ≤ j11))) = true → 0 ≤ a1 ∧ a1 < ((List.length aA : Nat) : Int))) <|
  (cZ (decide (i10 ≤ j11)) (dY (List.getD aA (Int.toNat j11) default) (List.getD aA (Int.toNat a1) default))).bind fun x25 =>
  cond ((decide (i10 ≤ j11)) && (!x25))
  (some (.inl (aA, IntKind.i64.wrap (j11 - (1 : Int)))))
  (some (.inr (aA, j11)))

noncomputable def nX (aA : List Int) (a1 : Int) (i10 : Int) (j11 : Int) : Option ((List Int × Int × Int) ⊕ ((List Int × Int))) :=
  (lp (fun s => gK a1 i10 s.1 s.2) (aA, j11)).bind (fun rr => jM rr.1 a1 i10 rr.2)

noncomputable def nT (aA : List Int) (a1 : Int) (i10 : Int) (j11 : Int) : Option ((List Int × Int × Int) ⊕ ((List Int × Int))) :=
  nX aA a1 i10 j11

noncomputable def gC (a1 : Int) (j11 : Int) (aA : List Int) (i10 : Int) : Option ((List Int × Int) ⊕ ((List Int × Int))) :=
  aT ((((decide (i10 ≤ j11))) = true → 0 ≤ i10 ∧ i10 < ((List.length aA : Nat) : Int))) <|
  aT ((((decide (i10 ≤ j11))) = true → 0 ≤ a1 ∧ a1 < ((List.length aA : Nat) : Int))) <|
  (cZ (decide (i10 ≤ j11)) (dY (List.getD aA (Int.toNat i10) default) (List.getD aA (Int.toNat a1) default))).bind fun x31 =>
  cond ((decide (i10 ≤ j11)) && x31)
  (some (.inl (aA, IntKind.i64.wrap (i10 + (1 : Int)))))
  (some (.inr (aA, i10)))

noncomputable def nW (aA : List Int) (a1 : Int) (i10 : Int) (j11 : Int) : Option ((List Int × Int × Int) ⊕ ((List Int × Int))) :=
  (lp (fun s => gC a1 j11 s.1 s.2) (aA, i10)).bind (fun rr => nT rr.1 a1 rr.2 j11)

noncomputable def dU (a1 : Int) (aA : List Int) (i10 : Int) (j11 : Int) : Option ((List Int × Int × Int) ⊕ ((List Int × Int))) :=
  nW aA a1 i10 j11

noncomputable def nV (aA : List Int) (a1 : Int) (i10 : Int) (j11 : Int) : Option ((Int × Bool) × List Int) :=
  (lp (fun s => dU a1 s.1 s.2.1 s.2.2) (aA, i10, j11)).bind (fun rr => nU rr.1 a1 rr.2)

noncomputable def jQ (aA : List Int) (a1 : Int) (i10 : Int) (j11 : Int) : Option ((Int × Bool) × List Int) :=
  cond (decide (j11 < i10))
  (aT (0 ≤ a1 ∧ a1 < ((List.length aA : Nat) : Int)) <|
  aT (0 ≤ j11 ∧ j11 < ((List.length aA : Nat) : Int)) <|
  aT (0 ≤ j11 ∧ j11 < ((List.length aA : Nat) : Int)) <|
  aT (0 ≤ a1 ∧ a1 < ((List.length aA : Nat) : Int)) <|
  some ((j11, true), (List.set (List.set aA (Int.toNat j11) (List.getD aA (Int.toNat a1) default)) (Int.toNat a1) (List.getD aA (Int.toNat j11) default))))
  (aT (0 ≤ j11 ∧ j11 < ((List.length aA : Nat) : Int)) <|
  aT (0 ≤ i10 ∧ i10 < ((List.length aA : Nat) : Int)) <|
  aT (0 ≤ i10 ∧ i10 < ((List.length aA : Nat) : Int)) <|
  aT (0 ≤ j11 ∧ j11 < ((List.length aA : Nat) : Int)) <|
  nV (List.set (List.set aA (Int.toNat i10) (List.getD aA (Int.toNat j11) default)) (Int.toNat j11) (List.getD aA (Int.toNat i10) default)) a1 (IntKind.i64.wrap (i10 + (1 : Int))) (IntKind.i64.wrap (j11 - (1 : Int))))

noncomputable def fY (a1 : Int) (i10 : Int) (aA : List Int) (j11 : Int) : Option ((List Int × Int) ⊕ ((List Int × Int))) :=
  aT ((((decide (i10 ≤ j11))) = true → 0 ≤ j11 ∧ j11 < ((List.length aA : Nat) : Int))) <|
  aT ((((decide (i10 ≤ j11))) = true → 0 ≤ a1 ∧ a1 < ((List.length aA : Nat) : Int))) <|
  (cZ (decide (i10 ≤ j11)) (dY (List.getD aA (Int.toNat j11) default) (List.getD aA (Int.toNat a1) default))).bind fun x37 =>
  cond ((decide (i10 ≤ j11)) && (!x37))
  (some (.inl (aA, IntKind.i64.wrap (j11 - (1 : Int)))))
  (some (.inr (aA, j11)))

noncomputable def nR (aA : List Int) (a1 : Int) (i10 : Int) (j11 : Int) : Option ((Int × Bool) × List Int) :=
  (lp (fun s => fY a1 i10 s.1 s.2) (aA, j11)).bind (fun rr => jQ rr.1 a1 i10 rr.2)

noncomputable def nY (aA : List Int) (a1 : Int) (i10 : Int) (j11 : Int) : Option ((Int × Bool) × List Int) :=
  nR aA a1 i10 j11

noncomputable def fP (a1 : Int) (j11 : Int) (aA : List Int) (i10 : Int) : Option ((List Int × Int) ⊕ ((List Int × Int))) :=
  aT ((((decide (i10 ≤ j11))) = true → 0 ≤ i10 ∧ i10 < ((List.length aA : Nat) : Int))) <|
  aT ((((decide (i10 ≤ j11))) = true → 0 ≤ a1 ∧ a1 < ((List.length aA : Nat) : Int))) <|
  (cZ (decide (i10 ≤ j11)) (dY (List.getD aA (Int.toNat i10) default) (List.getD aA (Int.toNat a1) default))).bind fun x43 =>
  cond ((decide (i10 ≤ j11)) && x43)
  (some (.inl (aA, IntKind.i64.wrap (i10 + (1 : Int)))))
  (some (.inr (aA, i10)))

noncomputable def iY (aA : List Int) (a1 : Int) (i10 : Int) (j11 : Int) : Option ((Int × Bool) × List Int) :=
  (lp (fun s => fP a1 j11 s.1 s.2) (aA, i10)).bind (fun rr => nY rr.1 a1 rr.2 j11)

noncomputable def kM (aA : (List Int)) (a1 : Int) (b2 : Int) (bX : Int) : Option ((Int × Bool) × List Int) :=
  aT (0 ≤ bX ∧ bX < ((List.length aA : Nat) : Int)) <|
  aT (0 ≤ a1 ∧ a1 < ((List.length aA : Nat) : Int)) <|
  aT (0 ≤ a1 ∧ a1 < ((List.length aA : Nat) : Int)) <|
  aT (0 ≤ bX ∧ bX < ((List.length aA : Nat) : Int)) <|
  iY (List.set (List.set aA (Int.toNat a1) (List.getD aA (Int.toNat bX) default)) (Int.toNat bX) (List.getD aA (Int.toNat a1) default)) a1 (IntKind.i64.wrap (a1 + (1 : Int))) (IntKind.i64.wrap (b2 - (1 : Int)))

noncomputable def kX (rec : (List Int) → Int → Int → Int → Option (List Int)) (aA : List Int) (a1 : Int) (b2 : Int) (bJ : Int) (lX : Bool) (jO : Bool) (xN : Int) (BL : Int) : Option ((List Int × Int × Int × Int × Bool × Bool) ⊕ ((List Int))) :=
  aT ((((decide ((0 : Int) < a1))) = true → 0 ≤ (IntKind.i64.wrap (a1 - (1 : Int))) ∧ (IntKind.i64.wrap (a1 - (1 : Int))) < ((List.length aA : Nat) : Int))) <|
  aT ((((decide ((0 : Int) < a1))) = true → 0 ≤ BL ∧ BL < ((List.length aA : Nat) : Int))) <|
  (cZ (decide ((0 : Int) < a1)) (dY (List.getD aA (Int.toNat (IntKind.i64.wrap (a1 - (1 : Int)))) default) (List.getD aA (Int.toNat BL) default))).bind fun x16 =>
  cond ((decide ((0 : Int) < a1)) && (!x16))
  ((gR aA a1 b2 BL).bind fun x20 =>
  some (.inl (x20.2, x20.1, b2, bJ, lX, jO)))
  ((kM aA a1 b2 BL).bind fun x23 =>
  aT ((8 : Int) ≠ 0) <|
  cond (decide ((IntKind.i64.wrap (x23.1.1 - a1)) < (IntKind.i64.wrap (b2 - x23.1.1))))
  ((rec x23.2 a1 x23.1.1 bJ).bind fun x28 =>
  some (.inl (x28, IntKind.i64.wrap (x23.1.1 + (1 : Int)), b2, bJ, decide ((IntKind.i64.wrap (Int.tdiv xN (8 : Int))) ≤ (IntKind.i64.wrap (x23.1.1 - a1))), x23.1.2)))
  ((rec x23.2 (IntKind.i64.wrap (x23.1.1 + (1 : Int))) b2 bJ).bind fun x31 =>
  some (.inl (x31, a1, x23.1.1, bJ, decide ((IntKind.i64.wrap (Int.tdiv xN (8 : Int))) ≤ (IntKind.i64.wrap (b2 - x23.1.1))), x23.1.2))))

noncomputable def kV (rec : (List Int) → Int → Int → Int → Option (List Int)) (aA : List Int) (a1 : Int) (b2 : Int) (bJ : Int) (lX : Bool) (jO : Bool) (xN : Int) (BL : Int) (aHe : Int) : Option ((List Int × Int × Int × Int × Bool × Bool) ⊕ ((List Int))) :=
  cond ((lX && jO) && (decide (aHe = (1 : Int))))
  ((gJ aA a1 b2).bind fun x35 =>
  cond x35.1
  (some (.inr x35.2))
  (kX rec x35.2 a1 b2 bJ lX jO xN BL))
  (kX rec aA a1 b2 bJ lX jO xN BL)

noncomputable def kW (rec : (List Int) → Int → Int → Int → Option (List Int)) (aA : List Int) (a1 : Int) (b2 : Int) (bJ : Int) (lX : Bool) (jO : Bool) (xN : Int) : Option ((List Int × Int × Int × Int × Bool × Bool) ⊕ ((List Int))) :=
  (lM aA a1 b2).bind fun x9 =>
  cond (decide (x9.2 = (2 : Int)))
  ((lH aA a1 b2).bind fun x40 =>
  kV rec x40 a1 b2 bJ lX jO xN (IntKind.i64.wrap ((IntKind.i64.wrap (b2 - (1 : Int))) - (IntKind.i64.wrap (x9.1 - a1)))) (1 : Int))
  (kV rec aA a1 b2 bJ lX jO xN x9.1 x9.2)

noncomputable def fM (rec : (List Int) → Int → Int → Int → Option (List Int))  (aA : List Int) (a1 : Int) (b2 : Int) (bJ : Int) (lX : Bool) (jO : Bool) : Option ((List Int × Int × Int × Int × Bool × Bool) ⊕ ((List Int))) :=
  cond (decide ((IntKind.i64.wrap (b2 - a1)) ≤ (12 : Int)))
  ((kR aA a1 b2).bind fun x2 =>
  some (.inr x2))
  (cond (decide (bJ = (0 : Int)))
  ((mR aA a1 b2).bind fun x6 =>
  some (.inr x6))
  (cond (!lX)
  ((kO aA a1 b2).bind fun x44 =>
  kW rec x44 a1 b2 (IntKind.i64.wrap (bJ - (1 : Int))) lX jO (IntKind.i64.wrap (b2 - a1)))
  (kW rec aA a1 b2 bJ lX jO (IntKind.i64.wrap (b2 - a1)))))

noncomputable def pE (rec : (List Int) → Int → Int → Int → Option (List Int)) (aA : List Int) (a1 : Int) (b2 : Int) (bJ : Int) (lX : Bool) (jO : Bool) : Option (List Int) :=
  (lp (fun s => fM rec s.1 s.2.1 s.2.2.1 s.2.2.2.1 s.2.2.2.2.1 s.2.2.2.2.2) (aA, a1, b2, bJ, lX, jO)).bind (fun rr => some rr)

noncomputable def jN (rec : (List Int) → Int → Int → Int → Option (List Int)) (aA : (List Int)) (a1 : Int) (b2 : Int) (bJ : Int) : Option (List Int) :=
  pE rec aA a1 b2 bJ true true

noncomputable def mP  : Nat → (List Int) → Int → Int → Int → Option (List Int)
  | 0 => fun _ _ _ _ => none
  | k + 1 => jN (mP k)

end Go.Abs
namespace Go.Abs
open Go
def PK (n : Int) : Bool := decide (n ≤ 1048576) && decide (-1048576 ≤ n)

theorem aFG (n : Int) : DW n = some (PK n) := rfl

def QM (last : Int) (j : aD) : Bool := decide (j.At ≤ last) || decide (1125899906842624 ≤ j.At) || decide (j.Net = 0) || !PK j.Net

def chk (last : Int) : List aD → Bool
  | [] => true
  | j :: r => !QM last j && chk j.At r

def eZ (f : List aD) : Bool := decide (f.length ≤ 1024) && chk (-2) f

theorem aAi {f : List aD} {i : Nat} {a : aD} {last : Int} (ha : f[i]? = some a) (hl : f.length < 4611686018427387904) :
    qJ f (f.length : Nat) last i = some (if QM last a then .inr (.inr false) else .inl (a.At, ((i + 1 : Nat) : Int))) := by
  obtain ⟨d1, d2, d3, d4⟩ := idx ha hl
  simp only [qJ, d1, cond_true, aQ d2, d3, d4, aFG]
  unfold QM
  cases h : (decide (a.At ≤ last) || decide (1125899906842624 ≤ a.At) || decide (a.Net = 0)) <;> cases h2 : PK a.Net <;> simp [cZ]

theorem ZQ : ∀ (f : List aD) (last : Int), sS (fun last (j : aD) => some (if QM last j then .inr (.inr false) else .inl j.At)) (fun _ => (.inl () : Unit ⊕ Bool)) last f = some (if chk last f then .inl () else .inr false)
  | [], last => by simp [sS, chk]
  | j :: r, last => by
    cases h : QM last j
    · rw [SK (s' := j.At) (by simp [h])]
      rw [ZQ r j.At]
      simp [chk, h]
    · rw [TB (x := .inr false) (by simp [h])]
      simp [chk, h]

theorem GK (f : List aD) : pY f = some (eZ f) := by
  unfold pY eZ
  by_cases hl : f.length ≤ 1024
  · have h1 : decide ((1024 : Int) < ((f.length : Nat) : Int)) = false := by simp; omega
    rw [h1, cond_false]
    unfold DR
    have key := aEM (l := f) (body := fun s : Int × Int => qJ f (f.length : Nat) s.1 s.2) (fun last i => (last, i)) _ _
      (fun i a s ha => by
        constructor
        · intro s' hs
          show qJ f (f.length : Nat) s i = _
          rw [aAi ha (by omega)]
          split at hs <;> simp_all
        · intro x hs
          show qJ f (f.length : Nat) s i = _
          rw [aAi ha (by omega)]
          split at hs <;> simp_all)
      (fun s => by show qJ f (f.length : Nat) s (f.length : Nat) = _; simp only [qJ, uK, cond_false]) (ZQ f (-2))
    rw [key]
    cases h : chk (-2) f <;> simp [AM, hl]
  · have h1 : decide ((1024 : Int) < ((f.length : Nat) : Int)) = true := by simp; omega
    rw [h1, cond_true]
    simp [hl]

theorem aCD {last : Int} {j : aD} : QM last j = false ↔ last < j.At ∧ j.At < 1125899906842624 ∧ j.Net ≠ 0 ∧ j.Net ≤ 1048576 ∧ -1048576 ≤ j.Net := by
  simp [QM, PK]
  omega

def pM (last : Int) : List aD → Prop
  | [] => True
  | j :: r => (last < j.At ∧ j.At < 1125899906842624 ∧ j.Net ≠ 0 ∧ j.Net ≤ 1048576 ∧ -1048576 ≤ j.Net) ∧ pM j.At r

theorem aBX : ∀ {f : List aD} {last : Int}, chk last f = true ↔ pM last f
  | [], last => by simp [chk, pM]
  | j :: r, last => by simp [chk, pM, aCD, aBX]

theorem mY {f : List aD} : eZ f = true ↔ f.length ≤ 1024 ∧ pM (-2) f := by simp [eZ, aBX]

theorem pM.above : ∀ {f : List aD} {last : Int}, pM last f → ∀ j ∈ f, last < j.At ∧ j.At < 1125899906842624 ∧ j.Net ≠ 0 ∧ j.Net ≤ 1048576 ∧ -1048576 ≤ j.Net
  | [], _, _, j, hj => by simp at hj
  | a :: r, last, h, j, hj => by
    rcases List.mem_cons.1 hj with rfl | hj
    · exact h.1
    · have := h.2.above j hj
      have h1 := h.1.1
      exact ⟨by omega, this.2⟩

def val (f : List aD) (t : Int) : Int := (f.map fun j => if j.At ≤ t then j.Net else 0).sum

theorem LL (t : Int) : val [] t = 0 := rfl

theorem eD (j : aD) (r : List aD) (t : Int) : val (j :: r) t = (if j.At ≤ t then j.Net else 0) + val r t := by simp [val]

theorem rZ (f g : List aD) (t : Int) : val (f ++ g) t = val f t + val g t := by simp [val]

theorem uU {f : List aD} {t : Int} (h : ∀ j ∈ f, t < j.At) : val f t = 0 := by
  induction f with
  | nil => rfl
  | cons j r ih =>
    rw [eD, ih (fun k hk => h k (List.mem_cons_of_mem _ hk))]
    have := h j (List.mem_cons_self ..)
    rw [if_neg (by omega)]; rfl

theorem aFJ (f : List aD) : tX f = some (if eZ f then (f, 0) else ([], 7)) := by
  unfold tX
  rw [GK]
  cases h : eZ f <;> simp

end Go.Abs
namespace Go.Abs
open Go
section both
variable {op : Int → Int → Option Int} {f g r : List aD} {out : List aD} {a b was t : Int} {j : aD}
theorem aA5 : mQ op f [] out a b was t = pT op f [] out a b was t := by
  unfold mQ
  rw [aQ (fun h => by rw [len_nil] at h; cases h), len_nil, Bool.false_and, cond_false]

theorem JU (h : j.At = t) : mQ op f (j :: r) out a b was t = pT op f r out a (IntKind.i64.wrap (b + j.Net)) was t := by
  unfold mQ
  rw [aQ (fun _ => LQ), DA, GQ, aDk, aQ LQ, aQ aGT, Bool.true_and, decide_eq_true h, cond_true]

theorem YJ (h : j.At ≠ t) : mQ op f (j :: r) out a b was t = pT op f (j :: r) out a b was t := by
  unfold mQ
  rw [aQ (fun _ => LQ), DA, GQ, Bool.true_and, decide_eq_false h, cond_false]

theorem aA1 : nH op [] g out a b was t = mQ op [] g out a b was t := by
  unfold nH
  rw [aQ (fun h => by rw [len_nil] at h; cases h), len_nil, Bool.false_and, cond_false]

theorem KO (h : j.At = t) : nH op (j :: r) g out a b was t = mQ op r g out (IntKind.i64.wrap (a + j.Net)) b was t := by
  unfold nH
  rw [aQ (fun _ => LQ), DA, GQ, aDk, aQ LQ, aQ aGT, Bool.true_and, decide_eq_true h, cond_true]

theorem XS (h : j.At ≠ t) : nH op (j :: r) g out a b was t = mQ op (j :: r) g out a b was t := by
  unfold nH
  rw [aQ (fun _ => LQ), DA, GQ, Bool.true_and, decide_eq_false h, cond_false]

theorem aBf : pU op f [] out a b was t = nH op f [] out a b was t := by
  unfold pU
  rw [len_nil, cond_false]

theorem CN : pU op f (j :: r) out a b was t = nH op f (j :: r) out a b was (if j.At < t then j.At else t) := by
  unfold pU
  rw [DA, cond_true, aQ LQ, GQ]

theorem JK : lG op (j :: r) g out a b was = pU op (j :: r) g out a b was j.At := by
  unfold lG
  rw [DA, Bool.true_or, cond_true, cond_true, aQ LQ, GQ]

theorem aEa : lG op [] (j :: r) out a b was = pU op [] (j :: r) out a b was 1125899906842624 := by
  unfold lG
  rw [DA, len_nil, Bool.or_true, cond_true, cond_false]

theorem aAV : lG op [] [] out a b was = some (.inr out) := by
  unfold lG
  rw [len_nil, Bool.or_false, cond_false]

end both
def emit (p v was : Int) : List aD := if v = was then [] else [⟨p, v - was⟩]

def rJ (was : Int) : List (Int × Int) → List aD
  | [] => []
  | x :: r => emit x.1 x.2 was ++ rJ x.2 r

theorem aCN {op : Int → Int → Option Int} {f g out : List aD} {a b was t v : Int} (hv : op a b = some v) (hb : -2305843009213693952 ≤ v ∧ v ≤ 2305843009213693952) (hw : -2305843009213693952 ≤ was ∧ was ≤ 2305843009213693952) (ho : out.length ≤ 1048576) :
    pT op f g out a b was t = some (.inl (f, g, out ++ emit t v was, a, b, v)) := by
  unfold pT
  rw [hv]
  simp only [Option.bind_some]
  have hwr : IntKind.i64.wrap (v - was) = v - was := eH (by omega) (by omega)
  unfold emit
  by_cases h : v = was
  · rw [decide_eq_true h, Bool.not_true, cond_false, if_pos h, List.append_nil, h]
  · rw [decide_eq_false h, Bool.not_false, cond_true, if_neg h, hwr]
    rw [aQ (by simp only [List.length_cons, List.length_nil]; omega)]

def merge (f g : List aD) (a b : Int) : List (Int × Int × Int) :=
  match f, g with
  | [], [] => []
  | j :: f, [] => (j.At, a + j.Net, b) :: merge f [] (a + j.Net) b
  | [], k :: g => (k.At, a, b + k.Net) :: merge [] g a (b + k.Net)
  | j :: f, k :: g =>
    if j.At < k.At then (j.At, a + j.Net, b) :: merge f (k :: g) (a + j.Net) b
    else if k.At < j.At then (k.At, a, b + k.Net) :: merge (j :: f) g a (b + k.Net)
    else (j.At, a + j.Net, b + k.Net) :: merge f g (a + j.Net) (b + k.Net)

termination_by f.length + g.length
theorem EU {a b : Int} : merge [] [] a b = [] := by rw [merge]

theorem UY {j : aD} {f : List aD} {a b : Int} : merge (j :: f) [] a b = (j.At, a + j.Net, b) :: merge f [] (a + j.Net) b := by rw [merge]

theorem UW {k : aD} {g : List aD} {a b : Int} : merge [] (k :: g) a b = (k.At, a, b + k.Net) :: merge [] g a (b + k.Net) := by rw [merge]

theorem merge_lt {j k : aD} {f g : List aD} {a b : Int} (h : j.At < k.At) : merge (j :: f) (k :: g) a b = (j.At, a + j.Net, b) :: merge f (k :: g) (a + j.Net) b := by rw [merge, if_pos h]

theorem RU {j k : aD} {f g : List aD} {a b : Int} (h : k.At < j.At) : merge (j :: f) (k :: g) a b = (k.At, a, b + k.Net) :: merge (j :: f) g a (b + k.Net) := by rw [merge, if_neg (by omega), if_pos h]

theorem QK {j k : aD} {f g : List aD} {a b : Int} (h : j.At = k.At) : merge (j :: f) (k :: g) a b = (j.At, a + j.Net, b + k.Net) :: merge f g (a + j.Net) (b + k.Net) := by rw [merge, if_neg (by omega), if_neg (by omega)]

theorem aFR {op : Int → Int → Option Int} {OP : Int → Int → Int} (hop : ∀ a b, a ≤ 1073741824 → -1073741824 ≤ a → b ≤ 1073741824 → -1073741824 ≤ b → op a b = some (OP a b) ∧ -2305843009213693952 ≤ OP a b ∧ OP a b ≤ 2305843009213693952) :
    ∀ (n : Nat) (f g out : List aD) (a b was lf lg : Int), f.length + g.length ≤ n → pM lf f → pM lg g → a ≤ 1048576 * (1024 - f.length) → -(1048576 * (1024 - f.length)) ≤ a → b ≤ 1048576 * (1024 - g.length) → -(1048576 * (1024 - g.length)) ≤ b →
      -2305843009213693952 ≤ was ∧ was ≤ 2305843009213693952 → out.length + n ≤ 1048576 →
      lp (fun s : List aD × List aD × List aD × Int × Int × Int => lG op s.1 s.2.1 s.2.2.1 s.2.2.2.1 s.2.2.2.2.1 s.2.2.2.2.2) (f, g, out, a, b, was) = some (out ++ rJ was ((merge f g a b).map fun x => (x.1, OP x.2.1 x.2.2))) := by
  have fin : ∀ (out : List aD) (a b was : Int), lp (fun s : List aD × List aD × List aD × Int × Int × Int => lG op s.1 s.2.1 s.2.2.1 s.2.2.2.1 s.2.2.2.2.1 s.2.2.2.2.2) ([], [], out, a, b, was) = some (out ++ rJ was ((merge [] [] a b).map fun x => (x.1, OP x.2.1 x.2.2))) := by
    intro out a b was
    rw [EU]
    simp only [List.map_nil, rJ, List.append_nil]
    exact dI aAV
  intro n
  induction n with
  | zero =>
    intro f g out a b was lf lg hn _ _ _ _ _ _ _ _
    have h1 : f = [] := List.length_eq_zero_iff.1 (by omega)
    have h2 : g = [] := List.length_eq_zero_iff.1 (by omega)
    subst h1; subst h2
    exact fin out a b was
  | succ n ih =>
    intro f g out a b was lf lg hn hf hg a1 a2 b1 b2 hw ho
    have emitL : ∀ p v was, (emit p v was).length ≤ 1 := by intro p v was; unfold emit; split <;> simp
    have go : ∀ (f' g' : List aD) (a' b' p lf' lg' : Int), f'.length + g'.length ≤ n → pM lf' f' → pM lg' g' → a' ≤ 1048576 * (1024 - f'.length) → -(1048576 * (1024 - f'.length)) ≤ a' → b' ≤ 1048576 * (1024 - g'.length) → -(1048576 * (1024 - g'.length)) ≤ b' →
        lG op f g out a b was = pT op f' g' out a' b' was p → merge f g a b = (p, a', b') :: merge f' g' a' b' →
        lp (fun s : List aD × List aD × List aD × Int × Int × Int => lG op s.1 s.2.1 s.2.2.1 s.2.2.2.1 s.2.2.2.2.1 s.2.2.2.2.2) (f, g, out, a, b, was) = some (out ++ rJ was ((merge f g a b).map fun x => (x.1, OP x.2.1 x.2.2))) := by
      intro f' g' a' b' p lf' lg' hlen hf' hg' a1' a2' b1' b2' hstep hm
      obtain ⟨hv, v1, v2⟩ := hop a' b' (by omega) (by omega) (by omega) (by omega)
      have hb : (fun s : List aD × List aD × List aD × Int × Int × Int => lG op s.1 s.2.1 s.2.2.1 s.2.2.2.1 s.2.2.2.2.1 s.2.2.2.2.2) (f, g, out, a, b, was) = some (.inl (f', g', out ++ emit p (OP a' b') was, a', b', OP a' b')) := by
        show lG op f g out a b was = _
        rw [hstep, aCN hv ⟨v1, v2⟩ hw (by omega)]
      rw [kL hb, ih f' g' _ a' b' _ lf' lg' hlen hf' hg' a1' a2' b1' b2' ⟨v1, v2⟩ (by have := emitL p (OP a' b') was; simp only [List.length_append]; omega), hm]
      simp only [List.map_cons, rJ, List.append_assoc]
    rcases f with _ | ⟨j, f⟩ <;> rcases g with _ | ⟨k, g⟩
    · exact fin out a b was
    rotate_left
    · -- only the first
      simp only [List.length_cons, List.length_nil] at hn a1 a2 b1 b2
      have hw : IntKind.i64.wrap (a + j.Net) = a + j.Net := eH (by have := hf.1; omega) (by have := hf.1; omega)
      have := hf.1
      exact go f [] (a + j.Net) b j.At j.At lg (by simp only [List.length_nil]; omega) hf.2 trivial (by omega) (by omega) (by simp only [List.length_nil]; omega) (by simp only [List.length_nil]; omega)
        (by rw [JK, aBf, KO rfl, aA5, hw]) UY
    rotate_left
    · -- only the second
      simp only [List.length_cons, List.length_nil] at hn a1 a2 b1 b2
      have := hg.1
      have hw : IntKind.i64.wrap (b + k.Net) = b + k.Net := eH (by omega) (by omega)
      exact go [] g a (b + k.Net) k.At lf k.At (by simp only [List.length_nil]; omega) trivial hg.2 (by simp only [List.length_nil]; omega) (by simp only [List.length_nil]; omega) (by omega) (by omega)
        (by rw [aEa, CN, if_pos (by omega), aA1, JU rfl, hw]) UW
    · -- both
      simp only [List.length_cons] at hn a1 a2 b1 b2
      have h1 := hf.1
      have h2 := hg.1
      have hwa : IntKind.i64.wrap (a + j.Net) = a + j.Net := eH (by omega) (by omega)
      have hwb : IntKind.i64.wrap (b + k.Net) = b + k.Net := eH (by omega) (by omega)
      by_cases h : j.At < k.At
      · exact go f (k :: g) (a + j.Net) b j.At j.At lg (by simp only [List.length_cons]; omega) hf.2 hg (by omega) (by omega) (by simp only [List.length_cons]; omega) (by simp only [List.length_cons]; omega)
          (by rw [JK, CN, if_neg (by omega), KO rfl, YJ (by omega), hwa]) (merge_lt h)
      · by_cases h' : k.At < j.At
        · exact go (j :: f) g a (b + k.Net) k.At lf k.At (by simp only [List.length_cons]; omega) hf hg.2 (by simp only [List.length_cons]; omega) (by simp only [List.length_cons]; omega) (by omega) (by omega)
            (by rw [JK, CN, if_pos h', XS (by omega), JU rfl, hwb]) (RU h')
        · have he : j.At = k.At := by omega
          exact go f g (a + j.Net) (b + k.Net) j.At j.At k.At (by omega) hf.2 hg.2 (by omega) (by omega) (by omega) (by omega)
            (by rw [JK, CN, if_neg h', KO rfl, JU he.symm, hwa, hwb]) (QK he)

end Go.Abs
namespace Go.Abs
open Go
def comb (OP : Int → Int → Int) (f g : List aD) : List aD := rJ 0 ((merge f g 0 0).map fun x => (x.1, OP x.2.1 x.2.2))

def told (f : List aD) : List aD × Int := if eZ f then (f, 0) else ([], 7)

theorem aAz (f : List aD) : tX f = some (told f) := aFJ f

theorem aGl {op : Int → Int → Option Int} {OP : Int → Int → Int} (hop : ∀ a b, a ≤ 1073741824 → -1073741824 ≤ a → b ≤ 1073741824 → -1073741824 ≤ b → op a b = some (OP a b) ∧ -2305843009213693952 ≤ OP a b ∧ OP a b ≤ 2305843009213693952) (f g : List aD) :
    AB f g op = some (if eZ f && eZ g then told (comb OP f g) else ([], 2)) := by
  unfold AB
  rw [GK, GK]
  simp only [Option.bind_some]
  cases hf : eZ f
  · simp [cZ]
  · cases hg : eZ g
    · simp [cZ]
    · obtain ⟨f1, f2⟩ := mY.1 hf
      obtain ⟨g1, g2⟩ := mY.1 hg
      simp only [cZ, Bool.not_true, Bool.not_false, cond_true, Option.bind_some, Bool.or_self, cond_false, Bool.and_self, if_true]
      unfold CP
      rw [aFR hop (f.length + g.length) f g [] 0 0 0 (-2) (-2) (Nat.le_refl _) f2 g2 (by omega) (by omega) (by omega) (by omega) (by omega) (by simp only [List.length_nil]; omega)]
      simp [xI, aAz, comb]

theorem aG8 (a b : Int) (h1 : a ≤ 1073741824) (h2 : -1073741824 ≤ a) (h3 : b ≤ 1073741824) (h4 : -1073741824 ≤ b) : uJ a b = some (a + b) ∧ -2305843009213693952 ≤ a + b ∧ a + b ≤ 2305843009213693952 := by
  refine ⟨?_, by omega, by omega⟩
  unfold uJ
  rw [eH (by omega) (by omega)]

def two (OP : Int → Int → Int) (f g : List aD) : List aD × Int := if eZ f && eZ g then told (comb OP f g) else ([], 2)

theorem add_eq (f g : List aD) : CJ f g = some (two (· + ·) f g) := by
  unfold CJ
  rw [aGl (OP := (· + ·)) aG8]
  rfl

end Go.Abs
namespace Go.Abs
open Go
theorem ZZ (p v was t : Int) : val (emit p v was) t = if p ≤ t then v - was else 0 := by
  unfold emit
  by_cases h : v = was
  · rw [if_pos h, LL, h]; split <;> omega
  · rw [if_neg h, eD, LL]; simp

theorem pM.qK {l t : Int} {f : List aD} (h : pM l f) (ht : t ≤ l) : val f t = 0 := uU fun j hj => by have := (h.above j hj).1; omega

theorem aEI (OP : Int → Int → Int) (t : Int) : ∀ (n : Nat) (f g : List aD) (a b lf lg : Int), f.length + g.length ≤ n → pM lf f → pM lg g →
    val (rJ (OP a b) ((merge f g a b).map fun x => (x.1, OP x.2.1 x.2.2))) t = OP (a + val f t) (b + val g t) - OP a b := by
  intro n
  induction n with
  | zero =>
    intro f g a b lf lg hn _ _
    have h1 : f = [] := List.length_eq_zero_iff.1 (by omega)
    have h2 : g = [] := List.length_eq_zero_iff.1 (by omega)
    subst h1; subst h2
    rw [EU]
    simp [rJ, val]
  | succ n ih =>
    intro f g a b lf lg hn hf hg
    have go : ∀ (f' g' : List aD) (a' b' p lf' lg' : Int), f'.length + g'.length ≤ n → pM lf' f' → pM lg' g' → merge f g a b = (p, a', b') :: merge f' g' a' b' →
        (p ≤ t → a + val f t = a' + val f' t ∧ b + val g t = b' + val g' t) → (t < p → val f t = 0 ∧ val g t = 0 ∧ val f' t = 0 ∧ val g' t = 0) →
        val (rJ (OP a b) ((merge f g a b).map fun x => (x.1, OP x.2.1 x.2.2))) t = OP (a + val f t) (b + val g t) - OP a b := by
      intro f' g' a' b' p lf' lg' hlen hf' hg' hm h1 h2
      rw [hm]
      simp only [List.map_cons, rJ]
      rw [rZ, ZZ, ih f' g' a' b' lf' lg' hlen hf' hg']
      by_cases hp : p ≤ t
      · obtain ⟨e1, e2⟩ := h1 hp
        rw [if_pos hp, e1, e2]; omega
      · obtain ⟨e1, e2, e3, e4⟩ := h2 (by omega)
        rw [if_neg hp, e1, e2, e3, e4]
        simp
    rcases f with _ | ⟨j, f⟩ <;> rcases g with _ | ⟨k, g⟩
    · rw [EU]; simp [rJ, val]
    · simp only [List.length_cons, List.length_nil] at hn
      refine go [] g a (b + k.Net) k.At lf k.At (by simp only [List.length_nil]; omega) trivial hg.2 UW (fun hp => ⟨rfl, ?_⟩) (fun hp => ⟨rfl, ?_, rfl, ?_⟩)
      · rw [eD, if_pos hp]; omega
      · rw [eD, if_neg (by omega), hg.2.qK (by omega)]; rfl
      · exact hg.2.qK (by omega)
    · simp only [List.length_cons, List.length_nil] at hn
      refine go f [] (a + j.Net) b j.At j.At lg (by simp only [List.length_nil]; omega) hf.2 trivial UY (fun hp => ⟨?_, rfl⟩) (fun hp => ⟨?_, rfl, ?_, rfl⟩)
      · rw [eD, if_pos hp]; omega
      · rw [eD, if_neg (by omega), hf.2.qK (by omega)]; rfl
      · exact hf.2.qK (by omega)
    · simp only [List.length_cons] at hn
      by_cases h : j.At < k.At
      · refine go f (k :: g) (a + j.Net) b j.At j.At lg (by simp only [List.length_cons]; omega) hf.2 hg (merge_lt h) (fun hp => ⟨?_, rfl⟩) (fun hp => ⟨?_, ?_, ?_, ?_⟩)
        · rw [eD, if_pos hp]; omega
        · rw [eD, if_neg (by omega), hf.2.qK (by omega)]; rfl
        · rw [eD, if_neg (by omega), hg.2.qK (by omega)]; rfl
        · exact hf.2.qK (by omega)
        · rw [eD, if_neg (by omega), hg.2.qK (by omega)]; rfl
      · by_cases h' : k.At < j.At
        · refine go (j :: f) g a (b + k.Net) k.At lf k.At (by simp only [List.length_cons]; omega) hf hg.2 (RU h') (fun hp => ⟨rfl, ?_⟩) (fun hp => ⟨?_, ?_, ?_, ?_⟩)
          · rw [eD, if_pos hp]; omega
          · rw [eD, if_neg (by omega), hf.2.qK (by omega)]; rfl
          · rw [eD, if_neg (by omega), hg.2.qK (by omega)]; rfl
          · rw [eD, if_neg (by omega), hf.2.qK (by omega)]; rfl
          · exact hg.2.qK (by omega)
        · have he : j.At = k.At := by omega
          refine go f g (a + j.Net) (b + k.Net) j.At j.At k.At (by omega) hf.2 hg.2 (QK he) (fun hp => ⟨?_, ?_⟩) (fun hp => ⟨?_, ?_, ?_, ?_⟩)
          · rw [eD, if_pos hp]; omega
          · rw [eD, if_pos (by omega)]; omega
          · rw [eD, if_neg (by omega), hf.2.qK (by omega)]; rfl
          · rw [eD, if_neg (by omega), hg.2.qK (by omega)]; rfl
          · exact hf.2.qK (by omega)
          · exact hg.2.qK (by omega)

theorem aFa {OP : Int → Int → Int} (h0 : OP 0 0 = 0) {f g : List aD} (hf : eZ f = true) (hg : eZ g = true) (t : Int) : val (comb OP f g) t = OP (val f t) (val g t) := by
  have := aEI OP t _ f g 0 0 (-2) (-2) (Nat.le_refl _) (mY.1 hf).2 (mY.1 hg).2
  rw [h0] at this
  simpa [comb] using this

end Go.Abs
namespace Go.Abs
open Go
def zK (f : List aD) : Int := (f.map aD.Net).sum

theorem VM (j : aD) (f : List aD) : zK (j :: f) = j.Net + zK f := by simp [zK]

def qG (t : Int) : List aD → List aD
  | [] => []
  | j :: r => if t ≤ j.At then [] else j :: qG t r

def aft (t : Int) : List aD → List aD
  | [] => []
  | j :: r => if t ≤ j.At then j :: r else aft t r

theorem GW (t : Int) : ∀ f : List aD, qG t f ++ aft t f = f
  | [] => rfl
  | j :: r => by
    unfold qG aft
    split
    · rfl
    · simp [GW t r]

theorem UO {t : Int} : ∀ {f : List aD}, ∀ j ∈ qG t f, j.At < t
  | [], j, h => by simp [qG] at h
  | k :: r, j, h => by
    unfold qG at h
    split at h
    · simp at h
    · rcases List.mem_cons.1 h with rfl | h
      · omega
      · exact UO j h

theorem ZJ {t l : Int} : ∀ {f : List aD}, pM l f → ∀ j ∈ aft t f, t ≤ j.At
  | [], _, j, h => by simp [aft] at h
  | k :: r, hr, j, h => by
    unfold aft at h
    split at h
    · rcases List.mem_cons.1 h with rfl | h
      · assumption
      · have := (hr.2.above j h).1; omega
    · exact ZJ hr.2 j h

theorem aBK {f : List aD} {t : Int} (h : ∀ j ∈ f, j.At ≤ t) : val f t = zK f := by
  induction f with
  | nil => rfl
  | cons j r ih => rw [eD, VM, if_pos (h j (List.mem_cons_self ..)), ih fun k hk => h k (List.mem_cons_of_mem _ hk)]

theorem ZW (t : Int) : ∀ f : List aD, (qG t f).length ≤ f.length
  | [] => by simp [qG]
  | j :: r => by
    unfold qG
    split
    · simp
    · simpa using ZW t r

theorem aE3 {l t p : Int} {f : List aD} (hf : pM l f) (hp : p < t) : val f p = val (qG t f) p := by
  conv => lhs; rw [← GW t f]
  rw [rZ, uU (f := aft t f) (fun j hj => by have := ZJ hf j hj; omega)]
  omega

theorem aFV {l t p : Int} {f : List aD} (hf : pM l f) (hp : t ≤ p) : val f p = zK (qG t f) + val (aft t f) p := by
  conv => lhs; rw [← GW t f]
  rw [rZ, aBK (fun j hj => by have := UO j hj; omega)]

theorem aD1 {l t : Int} {f : List aD} (hf : pM l f) : zK (qG t f) = val f (t - 1) := by
  rw [aE3 hf (p := t - 1) (t := t) (by omega), aBK (fun j hj => by have := UO j hj; omega)]

theorem aEu {f : List aD} (hl : f.length ≤ 1024) : lE f = some f := by
  unfold lE
  exact aQ ⟨by omega, by omega⟩

end Go.Abs
namespace Go.Abs
open Go
theorem aDz {t : Int} (f : List aD) : ∀ (l v : Int) (k : Nat), pM l f → v ≤ 1048576 * (2048 - f.length) → -(1048576 * (2048 - f.length)) ≤ v → f.length ≤ 1024 →
    sS (fun (s : Int × Nat) (j : aD) => some (if t ≤ j.At then .inr (s.1, ((s.2 : Nat) : Int)) else .inl (IntKind.i64.wrap (s.1 + j.Net), s.2 + 1))) (fun s => (s.1, ((s.2 : Nat) : Int))) (v, k) f = some (v + zK (qG t f), ((k + (qG t f).length : Nat) : Int)) := by
  induction f with
  | nil => intro l v k _ _ _ _; simp [sS, qG, zK]
  | cons j r ih =>
    intro l v k h h1 h2 hl
    simp only [List.length_cons] at h1 h2 hl
    have hj1 := h.1
    by_cases hj : t ≤ j.At
    · rw [TB (x := (v, ((k : Nat) : Int))) (by simp [hj])]
      simp [qG, hj, zK]
    · have hw : IntKind.i64.wrap (v + j.Net) = v + j.Net := eH (by omega) (by omega)
      rw [SK (s' := (v + j.Net, k + 1)) (by simp [hj, hw])]
      rw [ih j.At (v + j.Net) (k + 1) h.2 (by omega) (by omega) (by omega)]
      have : qG t (j :: r) = j :: qG t r := by simp [qG, hj]
      rw [this, VM, List.length_cons]
      congr 2
      · omega
      · congr 1; omega

def JA (t : Int) (f : List aD) : List aD := (if zK (qG t f) = 0 then [] else [⟨-1, zK (qG t f)⟩]) ++ aft t f

def rest (f : List aD) (t : Int) : List aD × Int :=
  if eZ f then (if 1125899906842624 ≤ t then ([], 0) else if t ≤ -1 then (f, 0) else told (JA t f)) else ([], 2)

theorem aDn (t : Int) (f : List aD) : List.drop (qG t f).length f = aft t f := by
  rw [show List.drop (qG t f).length f = List.drop (qG t f).length (qG t f ++ aft t f) by rw [GW]]
  exact List.drop_left

theorem aGa (f : List aD) (t : Int) : wA f t = some (rest f t) := by
  unfold wA rest
  rw [GK]
  simp only [Option.bind_some]
  cases h : eZ f
  · simp
  · obtain ⟨hl, hr⟩ := mY.1 h
    simp only [Bool.not_true, cond_false, if_true]
    by_cases ht : 1125899906842624 ≤ t
    · simp [ht]
    · rw [decide_eq_false ht, cond_false, if_neg ht]
      by_cases ht' : t ≤ -1
      · simp [ht', aEu hl]
      · rw [decide_eq_false ht', cond_false, if_neg ht']
        unfold CK
        have key := aD7 (l := f) (body := fun s : Int × Int => pR f t s.1 s.2) (fun (s : Int × Nat) i => (s.1, i)) _ _ (fun i s => s.2 = i)
          (fun i a s hi ha => by
            obtain ⟨d1, d2, d3, d4⟩ := idx ha (by omega)
            have hb : pR f t s.1 i = some (if t ≤ a.At then .inr (s.1, ((s.2 : Nat) : Int)) else .inl (IntKind.i64.wrap (s.1 + a.Net), ((i + 1 : Nat) : Int))) := by
              simp only [pR, d1, Bool.true_and, d3, d4]
              rw [aQ (fun _ => d2), aQ d2, hi]
              by_cases h : t ≤ a.At
              · have : decide (a.At < t) = false := by simp; omega
                simp [h, this]
              · have : decide (a.At < t) = true := by simp; omega
                simp [h, this]
            by_cases hh : t ≤ a.At
            · refine ⟨fun s' hs => by simp [hh] at hs, fun x hs => ?_⟩
              simp [hh] at hs; subst hs
              show pR f t s.1 i = _
              rw [hb, if_pos hh]
            · refine ⟨fun s' hs => ?_, fun x hs => by simp [hh] at hs⟩
              simp [hh] at hs; subst hs
              refine ⟨by simp [hi], ?_⟩
              show pR f t s.1 i = _
              rw [hb, if_neg hh])
          (fun s hi => by
            show pR f t s.1 (f.length : Nat) = _
            simp only [pR, uK, Bool.false_and, cond_false]
            rw [aQ (fun h => by cases h), hi]) (s := (0, 0)) rfl (aDz (t := t) f (-2) 0 0 hr (by omega) (by omega) hl)
        rw [key]
        have hlen := ZW t f
        have hal : (aft t f).length ≤ f.length := by
          have := congrArg List.length (GW t f)
          simp only [List.length_append] at this
          omega
        have hto : ∀ n : Nat, Int.toNat (n : Int) = n := fun n => Int.toNat_natCast n
        simp only [Option.bind_some, Nat.zero_add, Int.zero_add, wW, xB, JA, hto, aDn, aAz]
        by_cases hv : zK (qG t f) = 0
        · simp only [hv, decide_true, Bool.not_true, cond_false, if_true, List.nil_append]
          rw [aQ ⟨by omega, by omega⟩, aQ (by simp only [List.length_nil]; omega)]
        · simp only [hv, decide_false, Bool.not_false, cond_true, if_false]
          rw [aQ (by simp), aQ ⟨by omega, by omega⟩, aQ (by simp only [List.length_cons, List.length_nil]; omega)]

end Go.Abs
namespace Go.Abs
open Go
def Up (last : Int) : List aD → Prop
  | [] => True
  | j :: r => (last < j.At ∧ j.At < 1125899906842624 ∧ j.Net ≠ 0) ∧ Up j.At r

theorem Up.above : ∀ {f : List aD} {last : Int}, Up last f → ∀ j ∈ f, last < j.At ∧ j.At < 1125899906842624 ∧ j.Net ≠ 0
  | [], _, _, j, hj => by simp at hj
  | a :: r, last, h, j, hj => by
    rcases List.mem_cons.1 hj with rfl | hj
    · exact h.1
    · have := h.2.above j hj
      have h1 := h.1.1
      exact ⟨by omega, this.2⟩

theorem Up.qK {l t : Int} {f : List aD} (h : Up l f) (ht : t ≤ l) : val f t = 0 := uU fun j hj => by have := (h.above j hj).1; omega

theorem Up.weaken {a b : Int} {f : List aD} (h : Up b f) (hab : a ≤ b) : Up a f := by
  cases f with
  | nil => trivial
  | cons j r => exact ⟨⟨by have := h.1.1; omega, h.1.2⟩, h.2⟩

theorem pM.up : ∀ {f : List aD} {last : Int}, pM last f → Up last f
  | [], _, _ => trivial
  | _ :: _, _, h => ⟨⟨h.1.1, h.1.2.1, h.1.2.2.1⟩, h.2.up⟩

theorem Up.ext : ∀ {f g : List aD} {last : Int}, Up last f → Up last g → (∀ t, last < t → t < 1125899906842624 → val f t = val g t) → f = g
  | [], [], _, _, _, _ => rfl
  | j :: r, [], last, hf, _, h => by
    have := h j.At hf.1.1 hf.1.2.1
    rw [eD, if_pos (Int.le_refl _), hf.2.qK (Int.le_refl _), LL] at this
    exact absurd (by omega) hf.1.2.2
  | [], k :: s, last, _, hg, h => by
    have := h k.At hg.1.1 hg.1.2.1
    rw [eD, if_pos (Int.le_refl _), hg.2.qK (Int.le_refl _), LL] at this
    exact absurd (by omega) hg.1.2.2
  | j :: r, k :: s, last, hf, hg, h => by
    have h1 := h j.At hf.1.1 hf.1.2.1
    have h2 := h k.At hg.1.1 hg.1.2.1
    rw [eD, if_pos (Int.le_refl _), hf.2.qK (Int.le_refl _), eD] at h1
    rw [eD, eD k, if_pos (Int.le_refl _), hg.2.qK (Int.le_refl _)] at h2
    have n1 := hf.1.2.2
    have n2 := hg.1.2.2
    have he : j.At = k.At := by
      rcases Int.lt_trichotomy j.At k.At with h3 | h3 | h3
      · rw [if_neg (by omega), hg.2.qK (by omega)] at h1; omega
      · exact h3
      · rw [if_neg (by omega), hf.2.qK (by omega)] at h2; omega
    rw [if_pos (by omega), hg.2.qK (by omega)] at h1
    have hj : j = k := by
      obtain ⟨a, b⟩ := j; obtain ⟨c, d⟩ := k
      simp only at he h1
      simp only [Int.add_zero] at h1
      rw [he, h1]
    subst hj
    rw [hf.2.ext hg.2 (fun t ht ht' => by
      have := h t (by have := hf.1.1; omega) ht'
      rw [eD, eD] at this; omega)]

def Inc (last : Int) : List Int → Prop
  | [] => True
  | p :: r => (last < p ∧ p < 1125899906842624) ∧ Inc p r

theorem Inc.above : ∀ {ps : List Int} {last : Int}, Inc last ps → ∀ p ∈ ps, last < p ∧ p < 1125899906842624
  | [], _, _, j, hj => by simp at hj
  | a :: r, last, h, j, hj => by
    rcases List.mem_cons.1 hj with rfl | hj
    · exact h.1
    · have := h.2.above j hj
      have h1 := h.1.1
      exact ⟨by omega, this.2⟩

theorem HW : ∀ {l : List (Int × Int)} {last was : Int}, Inc last (l.map Prod.fst) → Up last (rJ was l)
  | [], _, _, _ => trivial
  | x :: r, last, was, h => by
    simp only [rJ]
    have ih : Up x.1 (rJ x.2 r) := HW h.2
    have h1 : last < x.1 ∧ x.1 < 1125899906842624 := h.1
    unfold emit
    split
    · exact ih.weaken (by omega)
    · exact ⟨⟨h1.1, h1.2, by simp only; omega⟩, ih⟩

theorem OU {F : Int → Int} : ∀ {ps : List Int} {last : Int}, Inc last ps → (∀ s t, last ≤ s → s ≤ t → t < 1125899906842624 → (∀ p ∈ ps, ¬ (s < p ∧ p ≤ t)) → F s = F t) →
    ∀ t, last ≤ t → t < 1125899906842624 → val (rJ (F last) (ps.map fun p => (p, F p))) t = F t - F last
  | [], last, _, hF, t, h1, h2 => by
    have := hF last t (Int.le_refl _) h1 h2 (by simp)
    simp [rJ, val, this]
  | p :: r, last, hi, hF, t, h1, h2 => by
    simp only [List.map_cons, rJ]
    rw [rZ, ZZ]
    by_cases hp : p ≤ t
    · rw [if_pos hp, OU (F := F) hi.2 (fun s t' hs hst ht' hn => hF s t' (by have := hi.1.1; omega) hst ht' (fun q hq => by
        rcases List.mem_cons.1 hq with rfl | hq
        · omega
        · exact hn q hq)) t hp h2]
      omega
    · have := hF last t (Int.le_refl _) h1 h2 (fun q hq => by
        rcases List.mem_cons.1 hq with rfl | hq
        · omega
        · have := (hi.2.above q hq).1; omega)
      rw [if_neg hp, Up.qK (HW (last := p) (by rw [List.map_map]; simpa [Function.comp_def] using hi.2)) (by omega)]
      omega

theorem pM.restrict {l m : Int} {k : aD} {g : List aD} (h : pM l (k :: g)) (hm : m < k.At) : pM m (k :: g) := ⟨⟨hm, h.1.2⟩, h.2⟩

theorem aDl : ∀ (n : Nat) (f g : List aD) (a b last : Int), f.length + g.length ≤ n → pM last f → pM last g → Inc last ((merge f g a b).map Prod.fst) := by
  intro n
  induction n with
  | zero =>
    intro f g a b last hn _ _
    have h1 : f = [] := List.length_eq_zero_iff.1 (by omega)
    have h2 : g = [] := List.length_eq_zero_iff.1 (by omega)
    subst h1; subst h2
    rw [EU]; trivial
  | succ n ih =>
    intro f g a b last hn hf hg
    rcases f with _ | ⟨j, f⟩ <;> rcases g with _ | ⟨k, g⟩
    · rw [EU]; trivial
    · rw [UW]
      simp only [List.length_cons, List.length_nil] at hn
      exact ⟨⟨hg.1.1, hg.1.2.1⟩, ih _ _ _ _ _ (by simp only [List.length_nil]; omega) trivial hg.2⟩
    · rw [UY]
      simp only [List.length_cons, List.length_nil] at hn
      exact ⟨⟨hf.1.1, hf.1.2.1⟩, ih _ _ _ _ _ (by simp only [List.length_nil]; omega) hf.2 trivial⟩
    · simp only [List.length_cons] at hn
      by_cases h : j.At < k.At
      · rw [merge_lt h]
        exact ⟨⟨hf.1.1, hf.1.2.1⟩, ih _ _ _ _ _ (by simp only [List.length_cons]; omega) hf.2 (hg.restrict h)⟩
      · by_cases h' : k.At < j.At
        · rw [RU h']
          exact ⟨⟨hg.1.1, hg.1.2.1⟩, ih _ _ _ _ _ (by simp only [List.length_cons]; omega) (hf.restrict h') hg.2⟩
        · have he : j.At = k.At := by omega
          rw [QK he]
          exact ⟨⟨hf.1.1, hf.1.2.1⟩, ih _ _ _ _ _ (by omega) hf.2 (by rw [he]; exact hg.2)⟩

theorem aGj {OP : Int → Int → Int} {f g : List aD} (hf : eZ f = true) (hg : eZ g = true) : Up (-2) (comb OP f g) := by
  refine HW ?_
  rw [List.map_map]
  exact aDl _ f g 0 0 (-2) (Nat.le_refl _) (mY.1 hf).2 (mY.1 hg).2

theorem aFY {OP : Int → Int → Int} (h0 : OP 0 0 = 0) {f g h : List aD} (hf : eZ f = true) (hg : eZ g = true) (hh : Up (-2) h) (hv : ∀ t, -2 < t → t < 1125899906842624 → val h t = OP (val f t) (val g t)) : comb OP f g = h :=
  (aGj hf hg).ext hh fun t h1 h2 => by rw [aFa h0 hf hg, hv t h1 h2]

theorem YC {f : List aD} (h : eZ f = true) : Up (-2) f := (mY.1 h).2.up

theorem aEn {F : Int → Int} (h2 : F (-2) = 0) {ps : List Int} (hi : Inc (-2) ps) (hF : ∀ s t, -2 ≤ s → s ≤ t → t < 1125899906842624 → (∀ p ∈ ps, ¬ (s < p ∧ p ≤ t)) → F s = F t) {h : List aD} (hh : Up (-2) h) (hv : ∀ t, -2 < t → t < 1125899906842624 → val h t = F t) :
    rJ 0 (ps.map fun p => (p, F p)) = h := by
  refine (HW (by rw [List.map_map]; simpa [Function.comp_def] using hi)).ext hh fun t h3 h4 => ?_
  have := OU hi hF t (by omega) h4
  rw [h2] at this
  rw [this, hv t h3 h4]; omega

end Go.Abs
namespace Go.Abs
open Go
theorem aEV {f : List aD} (h : eZ f = true) : ∀ j ∈ f, j.Net ≤ 1048576 ∧ -1048576 ≤ j.Net := fun j hj => by have := (mY.1 h).2.above j hj; omega

def JF (t : Int) : List Int → List Int
  | [] => [t]
  | p :: r => if p = t then p :: r else if t < p then t :: p :: r else p :: JF t r

theorem WN {t x : Int} : ∀ {ps : List Int}, x ∈ JF t ps ↔ x = t ∨ x ∈ ps
  | [] => by simp [JF]
  | p :: r => by
    unfold JF
    split
    · rename_i h; subst h; simp
    · split
      · simp
      · simp only [List.mem_cons, WN (ps := r)]; constructor <;> (intro h; rcases h with h | h | h <;> simp [h])

theorem VY {t : Int} : ∀ {ps : List Int} {last : Int}, Inc last ps → last < t → t < 1125899906842624 → Inc last (JF t ps)
  | [], last, _, h1, h2 => ⟨⟨h1, h2⟩, trivial⟩
  | p :: r, last, h, h1, h2 => by
    unfold JF
    split
    · exact h
    · split
      · rename_i h3 h4
        exact ⟨⟨h1, h2⟩, ⟨h4, h.1.2⟩, h.2⟩
      · exact ⟨h.1, VY h.2 (by omega) h2⟩

def VA (ps : List Int) (f : List aD) : List Int := f.foldl (fun ps j => JF j.At ps) ps

theorem RL {x : Int} : ∀ {f : List aD} {ps : List Int}, x ∈ VA ps f ↔ x ∈ ps ∨ ∃ j ∈ f, j.At = x
  | [], ps => by simp [VA]
  | k :: r, ps => by
    have := RL (x := x) (f := r) (ps := JF k.At ps)
    unfold VA at this ⊢
    rw [List.foldl_cons, this, WN]
    constructor
    · rintro ((h | h) | ⟨j, h, h'⟩)
      · exact Or.inr ⟨k, List.mem_cons_self .., h.symm⟩
      · exact Or.inl h
      · exact Or.inr ⟨j, List.mem_cons_of_mem _ h, h'⟩
    · rintro (h | ⟨j, h, h'⟩)
      · exact Or.inl (Or.inr h)
      · rcases List.mem_cons.1 h with rfl | h
        · exact Or.inl (Or.inl h'.symm)
        · exact Or.inr ⟨j, h, h'⟩

theorem YT : ∀ {f : List aD} {ps : List Int} {last : Int}, Inc last ps → (∀ j ∈ f, last < j.At ∧ j.At < 1125899906842624) → Inc last (VA ps f)
  | [], _, _, h, _ => h
  | k :: r, ps, last, h, hf => by
    have hk := hf k (List.mem_cons_self ..)
    exact YT (f := r) (VY h hk.1 hk.2) fun j hj => hf j (List.mem_cons_of_mem _ hj)

end Go.Abs
namespace Go.Abs
open Go
def mn (a b : Int) : Int := if b < a then b else a

def parts (v : Int) : List aD → List Int
  | [] => []
  | j :: r => (v + j.Net) :: parts (v + j.Net) r

def HC (f : List aD) : Int := (f.map fun j => val f j.At).foldl mn (val f (-1))

theorem parts_eq : ∀ {f : List aD} {l v : Int}, pM l f → parts v f = f.map fun j => v + val f j.At
  | [], _, _, _ => rfl
  | j :: r, l, v, h => by
    simp only [parts, List.map_cons]
    rw [parts_eq h.2, eD, if_pos (Int.le_refl _), h.2.qK (Int.le_refl _), Int.add_zero]
    congr 1
    apply List.map_congr_left
    intro k hk
    have := (h.2.above k hk).1
    rw [eD, if_pos (by omega)]; omega

theorem aD8 {j : aD} {r : List aD} (h : pM (-2) (j :: r)) : val (j :: r) (-1) = if j.At = -1 then j.Net else 0 := by
  have := h.1.1
  by_cases e : j.At = -1
  · rw [if_pos e, eD, if_pos (by omega), h.2.qK (by omega)]; omega
  · rw [if_neg e, uU]
    intro k hk
    rcases List.mem_cons.1 hk with rfl | hk
    · omega
    · have := (h.2.above k hk).1; omega

theorem SS {f : List aD} (hf : eZ f = true) (m : Int) (hm : -1125899906842624 ≤ m ∧ m ≤ 1125899906842624) : vK 0 m f (f.length : Nat) 0 = some ((f.map fun j => val f j.At).foldl mn m) := by
  obtain ⟨hl, hr⟩ := mY.1 hf
  unfold vK
  rw [DJ (l := f) (body := fun s : Int × Int × Int => qS f (f.length : Nat) s.1 s.2.1 s.2.2) (fun (s : Int × Int) i => (s.1, s.2, i)) (fun s r => (parts s.1 r).foldl mn s.2)
    (fun s r => (∀ j ∈ r, j.Net ≤ 1048576 ∧ -1048576 ≤ j.Net) ∧ r.length ≤ 1024 ∧ s.1 ≤ 1048576 * (1024 - r.length) ∧ -(1048576 * (1024 - r.length)) ≤ s.1) (0, m) ?_ ?_ ?_]
  · simp only [Option.bind_some, vN, parts_eq hr, Int.zero_add]
  · rintro i a r ⟨v, m⟩ ha ⟨h1, h2, h3, h4⟩
    obtain ⟨d1, d2, d3, d4⟩ := idx ha (by omega)
    have hj := h1 a (List.mem_cons_self ..)
    simp only [List.length_cons] at h2 h3 h4
    have hw : IntKind.i64.wrap (v + a.Net) = v + a.Net := eH (by omega) (by omega)
    left
    refine ⟨(v + a.Net, mn m (v + a.Net)), ?_, ⟨fun j hj => h1 j (List.mem_cons_of_mem _ hj), by omega, by simp only; omega, by simp only; omega⟩, rfl⟩
    show qS f (f.length : Nat) v m i = _
    simp only [qS, d1, cond_true, aQ d2, d3, d4, hw, mn]
  · rintro ⟨v, m⟩ _
    show qS f (f.length : Nat) v m (f.length : Nat) = _
    simp only [qS, uK, cond_false, parts, List.foldl_nil]
  · exact ⟨aEV hf, hl, by simp only; omega, by simp only; omega⟩

theorem aEE (f : List aD) : xT f = some (if eZ f then HC f else 0) := by
  unfold xT
  rw [GK]
  cases h : eZ f
  · simp
  · cases f with
    | nil => simp [HC, val]
    | cons j r =>
      obtain ⟨hl, hr⟩ := mY.1 h
      have hne : decide (((List.length (j :: r) : Nat) : Int) = 0) = false := by simp; omega
      simp only [Option.bind_some, Bool.not_true, Bool.false_or, hne, cond_false, aQ LQ, GQ, if_true]
      have hj := hr.1
      unfold HC
      rw [aD8 hr]
      by_cases e : j.At = -1
      · simp only [e, decide_true, cond_true, if_true, tH]
        exact SS h j.Net (by omega)
      · simp only [e, decide_false, cond_false, if_false, tH]
        exact SS h 0 (by omega)

theorem IN {s t : Int} (hst : s ≤ t) : ∀ {f : List aD}, (∀ j ∈ f, ¬ (s < j.At ∧ j.At ≤ t)) → val f s = val f t
  | [], _ => rfl
  | j :: r, h => by
    have hj := h j (List.mem_cons_self ..)
    rw [eD, eD, IN hst (fun k hk => h k (List.mem_cons_of_mem _ hk))]
    by_cases e : j.At ≤ s
    · rw [if_pos e, if_pos (by omega)]
    · rw [if_neg e, if_neg (by omega)]

theorem UT : eZ [] = true := by decide

theorem aAw {t l' : Int} (hl : l' < t) : ∀ {f : List aD} {l : Int}, pM l f → Up l' (aft t f)
  | [], _, _ => trivial
  | j :: r, l, h => by
    unfold aft
    split
    · exact (h.restrict (m := l') (by omega)).up
    · exact aAw hl h.2

theorem aEH {f : List aD} {t : Int} (hf : eZ f = true) (ht : -1 < t) : Up (-2) (JA t f) := by
  have hr := (mY.1 hf).2
  unfold JA
  split
  · simpa using aAw (l' := -2) (by omega) hr
  · rename_i hn
    exact ⟨⟨by show (-2 : Int) < -1; omega, by show (-1 : Int) < _; omega, hn⟩, aAw (l' := -1) ht hr⟩

theorem WD {f : List aD} {t : Int} (hf : eZ f = true) (p : Int) (hp : -1 ≤ p) : val (JA t f) p = val f (if p < t then t - 1 else p) := by
  have hr := (mY.1 hf).2
  unfold JA
  rw [rZ]
  have e1 : val (if zK (qG t f) = 0 then [] else [⟨-1, zK (qG t f)⟩]) p = zK (qG t f) := by
    split
    · rename_i h0; rw [h0]; rfl
    · rw [eD, LL, if_pos (show (⟨-1, zK (qG t f)⟩ : aD).At ≤ p from hp)]; simp
  rw [e1]
  by_cases h : p < t
  · rw [if_pos h, uU (f := aft t f) (fun j hj => by have := ZJ hr j hj; omega), ← aD1 hr]; omega
  · rw [if_neg h, aFV hr (t := t) (by omega)]

end Go.Abs
namespace Go.Abs
open Go
theorem w1 : IntKind.i64.wrap (0 + 1) = 1 := by rw [eH] <;> omega

theorem w2 : IntKind.i64.wrap (1 + 1) = 2 := by rw [eH] <;> omega

theorem w3 : IntKind.i64.wrap (1 - 1) = 0 := by rw [eH] <;> omega

theorem v0 : IntKind.i64.wrap 0 = 0 := by rw [eH] <;> omega

theorem v1 : IntKind.i64.wrap 1 = 1 := by rw [eH] <;> omega

theorem v2 : IntKind.i64.wrap 2 = 2 := by rw [eH] <;> omega

theorem v3 : IntKind.i64.wrap (-1) = -1 := by rw [eH] <;> omega

end Go.Abs
namespace Go.Abs
open Go
theorem XV (f : List aD) : (told f).1.length ≤ 1024 := by
  unfold told
  cases h : eZ f
  · simp
  · simpa using (mY.1 h).1

theorem ZA (f : List aD) (t : Int) : (rest f t).1.length ≤ 1024 := by
  unfold rest
  split
  · split
    · simp
    · split
      · exact (mY.1 (by assumption)).1
      · exact XV _
  · simp

theorem aBT {OP : Int → Int → Int} {f g : List aD} (hf : eZ f = true) (hg : eZ g = true) : two OP f g = told (comb OP f g) := by simp [two, hf, hg]

end Go.Abs
namespace Go.Abs
open Go
variable {α : Type} [Inhabited α]
noncomputable def sK (f1 : α → Option Bool) (s0 : (List α)) (t7 : Int) (t8 : Int) : Option ((Int) ⊕ (Unit ⊕ Int)) :=
  cond (decide (t8 < t7))
  (aT (0 ≤ t8 ∧ t8 < ((List.length s0 : Nat) : Int)) <|
  (f1 (List.getD s0 (Int.toNat t8) default)).bind fun x2 =>
  cond x2
  (some (.inr (.inr t8)))
  (some (.inl (IntKind.i64.wrap (t8 + (1 : Int))))))
  (some (.inr (.inl ())))

theorem ZB {l : List α} {f : α → Option Bool} {g : α → Bool} (hl : l.length ≤ 1099511627776) (hf : ∀ x ∈ l, f x = some (g x)) : ∀ (r : List α) (k : Nat), l.drop k = r → k ≤ l.length →
    ∃ x, lp (fun s => sK f l (l.length : Nat) s) (k : Int) = some x ∧ ((x = .inl () ∧ r.any g = false) ∨ (∃ i : Nat, x = .inr (i : Int) ∧ k ≤ i ∧ i < l.length ∧ r.any g = true ∧ g (l.getD i default) = true ∧ ∀ j, k ≤ j → j < i → g (l.getD j default) = false))
  | [], k, hd, hk => by
    have : k = l.length := by
      have := congrArg List.length hd
      simp only [List.length_drop, List.length_nil] at this; omega
    subst this
    refine ⟨.inl (), dI ?_, Or.inl ⟨rfl, rfl⟩⟩
    show sK f l _ _ = _
    simp only [sK, uK, cond_false]
  | a :: r, k, hd, hk => by
    obtain ⟨h1, h2⟩ := drop_cons hd
    have hlt : k < l.length := (List.getElem?_eq_some_iff.1 h1).1
    obtain ⟨d1, d2, d3, d4⟩ := idx h1 (by omega)
    have hga : l.getD k default = a := by rw [Int.toNat_natCast] at d3; exact d3
    have hb : (fun s => sK f l (l.length : Nat) s) (k : Int) = some (if g a then .inr (.inr (k : Int)) else .inl ((k + 1 : Nat) : Int)) := by
      show sK f l _ _ = _
      simp only [sK, d1, cond_true, aQ d2, d3, d4, hf a (List.mem_of_getElem? h1), Option.bind_some]
      cases g a <;> simp
    cases hg : g a
    · rw [hg] at hb
      obtain ⟨x, e, hx⟩ := ZB hl hf r (k + 1) h2 (by omega)
      refine ⟨x, by rw [kL hb]; exact e, ?_⟩
      rcases hx with ⟨rfl, h⟩ | ⟨i, rfl, h3, h4, h5, h6, h7⟩
      · exact Or.inl ⟨rfl, by simp [hg, h]⟩
      · refine Or.inr ⟨i, rfl, by omega, h4, by simp [h5], h6, fun j hj hj' => ?_⟩
        by_cases e : j = k
        · subst e; rw [hga, hg]
        · exact h7 j (by omega) hj'
    · rw [hg] at hb
      exact ⟨.inr (k : Int), dI hb, Or.inr ⟨k, rfl, Nat.le_refl _, hlt, by simp [hg], by rw [hga, hg], fun j h h' => by omega⟩⟩

end Go.Abs
namespace Go.Abs
open Go
def LF (j : aD) : Bool := !PK j.Net

def OY (j : aD) : Bool := decide (j.At < -1) || decide (1125899906842624 < j.At)

def FM (l : List aD) : List aD := rJ 0 ((VA [] (l.filter fun j => decide (j.At < 1125899906842624))).map fun p => (p, val l p))

def iU (l : List aD) : List aD × Int := if l.any LF then ([], 2) else if l.any OY then ([], 13) else told (FM l)

theorem ZL {l : List aD} (h : l.any OY = false) : ∀ j ∈ l, -2 < j.At ∧ j.At ≤ 1125899906842624 := by
  intro j hj
  have := List.any_eq_false.1 h j hj
  simp [OY] at this
  omega

theorem PA {l : List aD} (ht : ∀ j ∈ l, -2 < j.At) : Inc (-2) (VA [] (l.filter fun j => decide (j.At < 1125899906842624))) :=
  YT (ps := []) (show Inc (-2) [] from trivial) fun j hj => by
    obtain ⟨h1, h2⟩ := List.mem_filter.1 hj
    exact ⟨ht j h1, by simpa using h2⟩

theorem aEm {l h : List aD} (ht : ∀ j ∈ l, -2 < j.At) (hh : Up (-2) h) (hv : ∀ t, -2 < t → t < 1125899906842624 → val h t = val l t) : FM l = h := by
  refine aEn (F := val l) (uU fun j hj => ht j hj) (PA ht) ?_ hh hv
  intro s t _ hst h2 hn
  exact IN hst fun j hj hc => hn j.At (RL.2 (Or.inr ⟨j, List.mem_filter.2 ⟨hj, by simp; omega⟩, rfl⟩)) hc

end Go.Abs
namespace Go.Abs
open Go
theorem VO (x y : ByteArray) : sB x y = decide (x = y) := by
  unfold sB
  rw [ByteArray.toList_eq, ByteArray.toList_eq]
  by_cases h : x = y
  · simp [h]
  · have : x.data.toList ≠ y.data.toList := by
      intro he
      apply h
      cases x; cases y
      congr 1
      exact Array.toList_inj.1 he
    have h2 : (x.data.toList == y.data.toList) = false := by simpa using this
    rw [h2]; simp [h]

theorem veq (a b : aE) : ((decide (a.Kind = b.Kind)) && ((decide (a.Num = b.Num)) && ((sB a.Text b.Text) && true))) = decide (a = b) := by
  rw [VO]
  obtain ⟨a1, a2, a3⟩ := a
  obtain ⟨b1, b2, b3⟩ := b
  by_cases h1 : a1 = b1 <;> by_cases h2 : a2 = b2 <;> by_cases h3 : a3 = b3 <;> simp [h1, h2, h3]

def KS (v : aE) : Bool := decide (v.Kind = 1) && sB v.Text (⟨#[]⟩ : ByteArray)

def MP (v : aE) : Bool := ((decide (v.Kind = 2)) && (decide (v.Num = 0))) && (decide (((ByteArray.size v.Text : Nat) : Int) ≤ 64))

def xU (v : aE) : Bool := KS v || MP v

def oD (r : List aE) : Bool := decide (r.length ≤ 8) && r.all xU

theorem of_eq (v : aE) : oX v = some (if KS v then (.k_number v.Num, true) else if MP v then (.k_words v.Text, true) else (.none_, false)) := by
  unfold oX KS MP
  cases (decide (v.Kind = 1) && sB v.Text (⟨#[]⟩ : ByteArray)) <;> cases (((decide (v.Kind = 2)) && (decide (v.Num = 0))) && (decide (((ByteArray.size v.Text : Nat) : Int) ≤ 64))) <;> rfl

theorem aF0 (v : aE) : AN v = some (xU v) := by
  unfold AN xU
  rw [of_eq]
  cases KS v <;> cases MP v <;> rfl

theorem aAn {l : List aE} {f : aE → Option Bool} {g : aE → Bool} (hl : l.length ≤ 1099511627776) (hf : ∀ x ∈ l, f x = some (g x)) : gT l f = some (l.any g) := by
  unfold gT mA lR
  obtain ⟨x, e, hx⟩ := ZB hl hf l 0 rfl (Nat.zero_le _)
  have e' : lp (fun s => lQ f l (l.length : Nat) s) 0 = some x := e
  rw [e']
  rcases hx with ⟨rfl, h⟩ | ⟨i, rfl, _, _, h, _⟩
  · simp [iS, h]
  · simp [h]

theorem LM (r : List aE) : tM r = some (oD r) := by
  unfold tM oD
  by_cases h : r.length ≤ 8
  · have h1 : decide ((8 : Int) < ((r.length : Nat) : Int)) = false := by simp; omega
    rw [h1, cond_false, aAn (g := fun v => !xU v) (by omega) (fun x _ => by simp [AD, aF0])]
    simp only [Option.bind_some, h, decide_true, Bool.true_and]
    congr 1
    rw [List.all_eq_not_any_not]
  · have h1 : decide ((8 : Int) < ((r.length : Nat) : Int)) = true := by simp; omega
    rw [h1, cond_true]
    simp [h]

theorem XR {α : Type} [DecidableEq α] {f g : List α} {body : Int → Option (Int ⊕ (Unit ⊕ Bool))} (he : f.length = g.length)
    (hb : ∀ (i : Nat) a b, f[i]? = some a → g[i]? = some b → body i = some (if a = b then .inl ((i + 1 : Nat) : Int) else .inr (.inr false)))
    (hend : body (f.length : Nat) = some (.inr (.inl ()))) : ∀ (m k : Nat), f.length - k = m → k ≤ f.length → lp body (k : Int) = some (if f.drop k = g.drop k then .inl () else .inr false)
  | 0, k, hm, hk => by
    have : k = f.length := by omega
    subst this
    rw [List.drop_length, he, List.drop_length, if_pos rfl]
    rw [← he]
    exact dI hend
  | m + 1, k, hm, hk => by
    have h1 : k < f.length := by omega
    have h2 : k < g.length := by omega
    have hbk := hb k _ _ (List.getElem?_eq_getElem h1) (List.getElem?_eq_getElem h2)
    have e1 : f.drop k = f[k] :: f.drop (k + 1) := List.drop_eq_getElem_cons h1
    have e2 : g.drop k = g[k] :: g.drop (k + 1) := List.drop_eq_getElem_cons h2
    have hiff : (f.drop k = g.drop k) ↔ (f[k] = g[k] ∧ f.drop (k + 1) = g.drop (k + 1)) := by rw [e1, e2, List.cons.injEq]
    by_cases h : f[k] = g[k]
    · rw [if_pos h] at hbk
      rw [kL hbk, XR he hb hend m (k + 1) (by omega) (by omega)]
      simp only [hiff, h, true_and]
    · rw [if_neg h] at hbk
      rw [dI hbk]
      simp only [hiff, h, false_and, if_false]

theorem aAf {α : Type} {f g : List α} (h : f.length ≠ g.length) : (!decide (((f.length : Nat) : Int) = ((g.length : Nat) : Int))) = true := by simp; omega

theorem aAG {α : Type} {f g : List α} (h : f.length = g.length) : (!decide (((f.length : Nat) : Int) = ((g.length : Nat) : Int))) = false := by simp [h]

theorem aCy (a b : List aE) (hl : a.length ≤ 17592186044416) : CO a b = some (decide (a = b)) := by
  unfold CO mZ
  by_cases he : a.length = b.length
  · rw [aAG he, cond_false]
    unfold mT
    have := XR (f := a) (g := b) (body := fun s => iG a b (a.length : Nat) s) he ?_ ?_ a.length 0 rfl (Nat.zero_le _)
    · simp only [Int.natCast_zero, List.drop_zero] at this
      rw [this]
      by_cases h : a = b <;> simp [h, kT]
    · intro i x y hx hy
      obtain ⟨d1, d2, d3, d4⟩ := idx hx (by omega)
      obtain ⟨_, e2, e3, _⟩ := idx hy (by omega)
      simp only [iG, d1, cond_true, aQ d2, aQ e2, d3, e3, d4, veq]
      by_cases h : x = y <;> simp [h]
    · simp only [iG, uK, cond_false]
  · rw [aAf he, cond_true]
    have : a ≠ b := fun h => he (by rw [h])
    simp [this]

theorem XA (a b : List aE) (hl : a.length ≤ 17592186044416) : xS a b = some (decide (a = b)) := by
  unfold xS
  by_cases he : a.length = b.length
  · rw [aAG he, cond_false]
    unfold AS
    have := XR (f := a) (g := b) (body := fun s => tI a b s) he ?_ ?_ a.length 0 rfl (Nat.zero_le _)
    · simp only [Int.natCast_zero, List.drop_zero] at this
      rw [this]
      by_cases h : a = b <;> simp [h, vQ]
    · intro i x y hx hy
      obtain ⟨d1, d2, d3, d4⟩ := idx hx (by omega)
      obtain ⟨_, e2, e3, _⟩ := idx hy (by omega)
      simp only [tI, d1, cond_true, aQ d2, aQ e2, d3, e3, d4, veq]
      by_cases h : x = y <;> simp [h]
    · simp only [tI, uK, cond_false]
  · rw [aAf he, cond_true]
    have : a ≠ b := fun h => he (by rw [h])
    simp [this]

structure MZ {α : Type} (c : α → α → Int) : Prop where
  eq : ∀ a b, c a b = 0 ↔ a = b
  anti : ∀ a b, c a b < 0 ↔ 0 < c b a
  trans : ∀ a b d, c a b < 0 → c b d < 0 → c a d < 0

def vG (x y : Int) : Int := if x < y then -1 else if y < x then 1 else 0

theorem HD : MZ vG where
  eq a b := by unfold vG; (repeat' split) <;> omega
  anti a b := by unfold vG; (repeat' split) <;> omega
  trans a b d := by unfold vG; (repeat' split) <;> omega

def oY {α : Type} [DecidableEq α] (c : α → α → Int) : List α → List α → Int
  | [], [] => 0
  | [], _ :: _ => -1
  | _ :: _, [] => 1
  | a :: r, b :: s => if a = b then oY c r s else c a b

theorem MZ.list {α : Type} [DecidableEq α] {c : α → α → Int} (h : MZ c) : MZ (oY c) where
  eq := by
    intro a
    induction a with
    | nil => intro b; cases b <;> simp [oY]
    | cons x r ih =>
      intro b
      cases b with
      | nil => simp [oY]
      | cons y s =>
        unfold oY
        split
        · rename_i e; subst e; rw [ih]; simp
        · rename_i e
          have := h.eq x y
          constructor
          · intro h0; exact absurd (this.1 h0) e
          · intro h0; cases h0; exact absurd rfl e
  anti := by
    intro a
    induction a with
    | nil => intro b; cases b <;> simp [oY]
    | cons x r ih =>
      intro b
      cases b with
      | nil => simp [oY]
      | cons y s =>
        unfold oY
        by_cases e : x = y
        · subst e; simp only [if_true]; exact ih s
        · rw [if_neg e, if_neg (fun e' => e e'.symm)]; exact h.anti x y
  trans := by
    intro a
    induction a with
    | nil =>
      intro b d
      cases b <;> cases d <;> simp [oY]
    | cons x r ih =>
      intro b d
      cases b with
      | nil => simp [oY]
      | cons y s =>
        cases d with
        | nil => simp [oY]
        | cons z t =>
          unfold oY
          by_cases e1 : x = y
          · subst e1
            rw [if_pos rfl]
            by_cases e2 : x = z
            · subst e2; rw [if_pos rfl, if_pos rfl]; exact ih s t
            · rw [if_neg e2, if_neg e2]; exact fun _ h => h
          · rw [if_neg e1]
            by_cases e2 : y = z
            · have hz : ¬ x = z := fun e => e1 (e.trans e2.symm)
              intro h _
              rw [if_neg hz, ← e2]; exact h
            · rw [if_neg e2]
              intro h1 h2
              by_cases e3 : x = z
              · subst e3
                have h3 := (h.anti x y).1 h1
                omega
              · rw [if_neg e3]; exact h.trans x y z h1 h2

def QX (a b : UInt8) : Int := if a < b then -1 else if b < a then 1 else 0

theorem QU : MZ QX where
  eq a b := by
    unfold QX
    constructor
    · intro h
      split at h
      · cases h
      · split at h
        · cases h
        · rename_i h1 h2
          rw [UInt8.lt_iff_toNat_lt] at h1 h2
          exact UInt8.toNat_inj.1 (by omega)
    · rintro rfl
      have : ¬ a < a := by rw [UInt8.lt_iff_toNat_lt]; omega
      simp [this]
  anti a b := by
    unfold QX
    simp only [UInt8.lt_iff_toNat_lt]
    (repeat' split) <;> omega
  trans a b d := by
    unfold QX
    simp only [UInt8.lt_iff_toNat_lt]
    (repeat' split) <;> omega

theorem IT : ∀ (a b : List UInt8), Go.Lib.compareBytes a b = oY QX a b
  | [], [] => rfl
  | [], _ :: _ => rfl
  | _ :: _, [] => rfl
  | a :: r, b :: s => by
    unfold Go.Lib.compareBytes oY
    rw [IT r s]
    by_cases e : a = b
    · subst e
      have : ¬ a < a := by rw [UInt8.lt_iff_toNat_lt]; omega
      simp [this]
    · rw [if_neg e]
      unfold QX
      have : ¬ (¬ a < b ∧ ¬ b < a) := by
        rintro ⟨h1, h2⟩
        rw [UInt8.lt_iff_toNat_lt] at h1 h2
        exact e (UInt8.toNat_inj.1 (by omega))
      by_cases h1 : a < b
      · simp [h1]
      · have h2 : b < a := Classical.byContradiction fun h2 => this ⟨h1, h2⟩
        simp [h1, h2]

def aAK (a b : ByteArray) : Int := oY QX a.data.toList b.data.toList

theorem aGq (a b : ByteArray) : VB a b = aAK a b := IT _ _

theorem data_inj {x y : ByteArray} (h : x.data.toList = y.data.toList) : x = y := by
  cases x; cases y
  congr 1
  exact Array.toList_inj.1 h

theorem LO : MZ aAK where
  eq a b := by unfold aAK; rw [(QU.list).eq]; exact ⟨data_inj, fun h => by rw [h]⟩
  anti a b := (QU.list).anti _ _
  trans a b d := (QU.list).trans _ _ _

def HB (a b : aE) : Int := if a.Kind = b.Kind then (if a.Num = b.Num then aAK a.Text b.Text else vG a.Num b.Num) else vG a.Kind b.Kind

theorem aEk : MZ HB where
  eq a b := by
    obtain ⟨a1, a2, a3⟩ := a
    obtain ⟨b1, b2, b3⟩ := b
    unfold HB
    simp only [aE.mk.injEq]
    by_cases h1 : a1 = b1
    · by_cases h2 : a2 = b2
      · simp [h1, h2, LO.eq]
      · simp [h1, h2, HD.eq]
    · simp [h1, HD.eq]
  anti a b := by
    unfold HB
    by_cases h1 : a.Kind = b.Kind
    · rw [if_pos h1, if_pos h1.symm]
      by_cases h2 : a.Num = b.Num
      · rw [if_pos h2, if_pos h2.symm]; exact LO.anti _ _
      · rw [if_neg h2, if_neg (fun h => h2 h.symm)]; exact HD.anti _ _
    · rw [if_neg h1, if_neg (fun h => h1 h.symm)]; exact HD.anti _ _
  trans a b d := by
    unfold HB
    intro h1 h2
    have lt : ∀ {x y : Int}, vG x y < 0 → x < y := fun {x y} h => by unfold vG at h; split at h <;> (try split at h) <;> omega
    have mk : ∀ {x y : Int}, x < y → vG x y < 0 := fun {x y} h => by unfold vG; rw [if_pos h]; omega
    by_cases e1 : a.Kind = b.Kind
    · rw [if_pos e1] at h1
      by_cases e2 : b.Kind = d.Kind
      · rw [if_pos e2] at h2
        rw [if_pos (e1.trans e2)]
        by_cases f1 : a.Num = b.Num
        · rw [if_pos f1] at h1
          by_cases f2 : b.Num = d.Num
          · rw [if_pos f2] at h2
            rw [if_pos (f1.trans f2)]
            exact LO.trans _ _ _ h1 h2
          · rw [if_neg f2] at h2
            rw [f1, if_neg f2]; exact h2
        · rw [if_neg f1] at h1
          have g1 := lt h1
          by_cases f2 : b.Num = d.Num
          · rw [← f2, if_neg f1]; exact h1
          · rw [if_neg f2] at h2
            have g2 := lt h2
            rw [if_neg (by omega)]
            exact mk (by omega)
      · rw [if_neg e2] at h2
        rw [e1, if_neg e2]; exact h2
    · rw [if_neg e1] at h1
      have g1 := lt h1
      by_cases e2 : b.Kind = d.Kind
      · rw [← e2, if_neg e1]; exact h1
      · rw [if_neg e2] at h2
        have g2 := lt h2
        rw [if_neg (by omega)]
        exact mk (by omega)

def oS (a b : List aE) : Int := oY HB a b

theorem rO : MZ oS := aEk.list

end Go.Abs
namespace Go.Abs
open Go
theorem aC3 (x y : Int) : rW x y = some (vG x y) := by
  unfold rW pP vG
  by_cases h1 : x < y
  · simp [h1]
  · by_cases h2 : y < x <;> simp [h1, h2]

theorem aDF (x y : Int) : jU x y = some (vG x y) := by
  unfold jU oN vG
  by_cases h1 : x < y
  · simp [h1]
  · by_cases h2 : y < x <;> simp [h1, h2]

theorem CV {v : aE} (h : KS v = true) : v.Kind = 1 ∧ v.Text = (⟨#[]⟩ : ByteArray) := by
  simp only [KS, VO, Bool.and_eq_true, decide_eq_true_eq] at h; exact h

theorem AV {v : aE} (h : MP v = true) : v.Kind = 2 ∧ v.Num = 0 ∧ v.Text.size ≤ 64 := by
  simp only [MP, Bool.and_eq_true, decide_eq_true_eq] at h; exact ⟨h.1.1, h.1.2, by omega⟩

theorem GD {v : aE} (h : xU v = true) : KS v = true ∨ (KS v = false ∧ MP v = true) := by
  unfold xU at h
  cases hn : KS v
  · rw [hn] at h; exact .inr ⟨rfl, by simpa using h⟩
  · exact .inl rfl

theorem aDL (a : ByteArray) : aAK a a = 0 := (LO.eq a a).2 rfl

theorem OD (a : Int) : vG a a = 0 := (HD.eq a a).2 rfl

theorem aDH {a b : aE} (ha : xU a = true) (hb : xU b = true) : tN a b = some (HB a b) := by
  unfold tN
  simp only [of_eq, Option.bind_some]
  rcases GD ha with h1 | ⟨h1, h1'⟩ <;> rcases GD hb with h2 | ⟨h2, h2'⟩
  · obtain ⟨k1, t1⟩ := CV h1
    obtain ⟨k2, t2⟩ := CV h2
    simp only [h1, h2, if_true, Bool.not_true, Bool.or_self, cond_false, aDF, Option.bind_some]
    unfold HB
    rw [k1, k2, t1, t2, if_pos rfl, aDL]
    by_cases hn : a.Num = b.Num
    · rw [if_pos hn, hn, OD]
    · rw [if_neg hn]
  · obtain ⟨k1, t1⟩ := CV h1
    obtain ⟨k2, n2, _⟩ := AV h2'
    simp only [h1, h2, h2', if_true, Bool.false_eq_true, if_false, Bool.not_true, Bool.or_self, cond_false]
    unfold HB
    rw [k1, k2]; rfl
  · obtain ⟨k1, n1, _⟩ := AV h1'
    obtain ⟨k2, t2⟩ := CV h2
    simp only [h1, h1', h2, if_true, Bool.false_eq_true, if_false, Bool.not_true, Bool.or_self, cond_false]
    unfold HB
    rw [k1, k2]; rfl
  · obtain ⟨k1, n1, _⟩ := AV h1'
    obtain ⟨k2, n2, _⟩ := AV h2'
    simp only [h1, h1', h2, h2', if_true, Bool.false_eq_true, if_false, Bool.not_true, Bool.or_self, cond_false]
    unfold HB qO nD
    rw [k1, k2, n1, n2, if_pos rfl, if_pos rfl]
    simp [aGq]

theorem DC {r : List aE} (h : oD r = true) : r.length ≤ 8 ∧ ∀ v ∈ r, xU v = true := by
  simp only [oD, Bool.and_eq_true, decide_eq_true_eq, List.all_eq_true] at h; exact h

theorem aEK {a b : List aE} {k : Nat} (hk : k = a.length ∨ k = b.length) (h1 : k ≤ a.length) (h2 : k ≤ b.length) : oS (a.drop k) (b.drop k) = vG a.length b.length := by
  rcases hk with rfl | rfl
  · rw [List.drop_length]
    by_cases h : a.length = b.length
    · rw [h, List.drop_length, OD]; rfl
    · rw [List.drop_eq_getElem_cons (by omega)]
      show (-1 : Int) = _
      unfold vG; rw [if_pos (by omega)]
  · rw [List.drop_length]
    by_cases h : a.length = b.length
    · rw [← h, List.drop_length, OD]; rfl
    · rw [List.drop_eq_getElem_cons (by omega)]
      show (1 : Int) = _
      unfold vG; rw [if_neg (by omega), if_pos (by omega)]

theorem aBW {a b : List aE} (hl : a.length ≤ 8) (hlb : b.length ≤ 8) (n : Nat) (hn : n = min a.length b.length) : ∀ (m k : Nat), n - k = m → k ≤ n →
    ∃ x, lp (fun s : Int × Int => cK (fun st y0 => (nP y0 st b).bind fun o => some (o.2, o.1)) (a.take n) (n : Nat) s.1 s.2) ((k : Int) - 1, (k : Int)) = some x ∧
      ((∃ sg, x = .inl sg ∧ oS (a.drop k) (b.drop k) = vG a.length b.length) ∨
        (∃ i : Nat, x = .inr ((i : Int), (i : Int)) ∧ i < a.length ∧ i < b.length ∧ oS (a.drop k) (b.drop k) = HB (a.getD i default) (b.getD i default)))
  | 0, k, hm, hk => by
    have : k = n := by omega
    subst this
    refine ⟨.inl ((k : Int) - 1), dI ?_, .inl ⟨_, rfl, aEK (by omega) (by omega) (by omega)⟩⟩
    show cK _ _ _ _ _ = _
    simp only [cK, uK, cond_false]
  | m + 1, k, hm, hk => by
    have h1 : k < a.length := by omega
    have h2 : k < b.length := by omega
    have ht : (a.take n)[k]? = some a[k] := by
      rw [List.getElem?_take_of_lt (by omega)]; exact List.getElem?_eq_getElem h1
    obtain ⟨d1, d2, d3, d4⟩ := idx ht (by simp; omega)
    have hlt : (a.take n).length = n := by simp; omega
    rw [hlt] at d1 d2
    obtain ⟨_, e2, e3, _⟩ := idx (List.getElem?_eq_getElem h2) (by omega)
    have hw : IntKind.i64.wrap ((k : Int) - 1 + 1) = (k : Int) := by rw [eH (by omega) (by omega)]; omega
    have hb : (fun s : Int × Int => cK (fun st y0 => (nP y0 st b).bind fun o => some (o.2, o.1)) (a.take n) (n : Nat) s.1 s.2) ((k : Int) - 1, (k : Int)) =
        some (if a[k] = b[k] then .inl ((k : Int), ((k + 1 : Nat) : Int)) else .inr (.inr ((k : Int), (k : Int)))) := by
      show cK _ _ _ _ _ = _
      simp only [cK, d1, cond_true, hlt, aQ d2, d3, d4, nP, hw, aQ e2, e3, veq, Option.bind_some]
      by_cases h : a[k] = b[k] <;> simp [h]
    have ea : a.drop k = a[k] :: a.drop (k + 1) := List.drop_eq_getElem_cons h1
    have eb : b.drop k = b[k] :: b.drop (k + 1) := List.drop_eq_getElem_cons h2
    by_cases h : a[k] = b[k]
    · rw [if_pos h] at hb
      obtain ⟨x, e, hx⟩ := aBW hl hlb n hn m (k + 1) (by omega) (by omega)
      have hc : oS (a.drop k) (b.drop k) = oS (a.drop (k + 1)) (b.drop (k + 1)) := by
        rw [ea, eb]; unfold oS; rw [oY, if_pos h]
      refine ⟨x, ?_, by rw [hc]; exact hx⟩
      rw [kL hb]
      rw [show ((k + 1 : Nat) : Int) - 1 = (k : Int) by omega] at e
      exact e
    · rw [if_neg h] at hb
      refine ⟨_, dI hb, .inr ⟨k, rfl, h1, h2, ?_⟩⟩
      rw [ea, eb]; unfold oS; rw [oY, if_neg h]
      simp [List.getD_eq_getElem?_getD, h1, h2]

theorem WA (a b : List aE) : tB a b = some (if oD a && oD b then oS a b else 0) := by
  unfold tB
  rw [LM]
  simp only [Option.bind_some]
  cases ha : oD a
  · simp [cZ]
  · simp only [Bool.not_true, Bool.not_false, cZ, cond_true, LM, Option.bind_some, Bool.false_or]
    cases hb : oD b
    · simp
    · obtain ⟨la, ma⟩ := DC ha
      obtain ⟨lb, mb⟩ := DC hb
      have hif : (if ((List.length b : Nat) : Int) < ((List.length a : Nat) : Int) then ((List.length b : Nat) : Int) else ((List.length a : Nat) : Int)) = ((min a.length b.length : Nat) : Int) := by split <;> omega
      have hlt : (a.take (min a.length b.length)).length = min a.length b.length := by rw [List.length_take]; omega
      simp only [Bool.not_true, cond_false, hif, Int.toNat_natCast, wN, Option.bind_some, lI, lA, hlt, Bool.and_self, if_true]
      rw [aQ ⟨by omega, by omega⟩]
      obtain ⟨x, e, hx⟩ := aBW (a := a) (b := b) la lb _ rfl _ 0 rfl (Nat.zero_le _)
      have e' : lp (fun s : Int × Int => cK (fun st y0 => (nP y0 st b).bind fun o => some (o.2, o.1)) (a.take (min a.length b.length)) (min a.length b.length : Nat) s.1 s.2) ((-1 : Int), (0 : Int)) = some x := e
      rw [e']
      simp only [List.drop_zero] at hx
      rcases hx with ⟨sg, rfl, h⟩ | ⟨i, rfl, h1, h2, h⟩
      · simp [gY, aC3, h]
      · have hi : decide ((i : Int) < 0) = false := by simp
        simp only [Option.bind_some, Sum.elim_inr, hi, cond_false, Int.toNat_natCast]
        rw [aQ ⟨by omega, by omega⟩, aQ ⟨by omega, by omega⟩]
        have g1 : a.getD i default ∈ a := by simp [List.getD_eq_getElem?_getD, h1]
        have g2 : b.getD i default ∈ b := by simp [List.getD_eq_getElem?_getD, h2]
        rw [aDH (ma _ g1) (mb _ g2), h]
        simp only [Option.bind_some]

theorem WH {v : aE} (h : xU v = true) : v.Text.size ≤ 64 := by
  rcases GD h with h | ⟨_, h⟩
  · rw [(CV h).2]; decide
  · exact (AV h).2.2

end Go.Abs
namespace Go.Abs
open Go
def jE (e : aM) : aD := ⟨e.At, e.Net⟩

def gA (r : List aE) (f : List aD) : List aM → List (List aE × List aD)
  | [] => [(r, f)]
  | e :: l => if e.Row = r then gA r (f ++ [jE e]) l else (r, f) :: gA e.Row [jE e] l

def groups : List aM → List (List aE × List aD)
  | [] => []
  | e :: l => gA e.Row [jE e] l

def itG {σ : Type} (y : σ → List aE → List aD → Option (σ × Bool)) : List (List aE × List aD) → σ → Option σ
  | [], s => some s
  | g :: gs, s => (y s g.1 g.2).bind fun x => if x.2 then itG y gs x.1 else some x.1

def okL (l : List aM) : Prop := l.length ≤ 3518437208783 ∧ ∀ e ∈ l, e.Row.length ≤ 4398046510976

theorem UA {r : List aE} (h : r.length ≤ 4398046510976) : yM r = some r := by
  unfold yM
  rw [aQ ⟨by omega, by omega, by omega⟩, aQ (by simp only [List.length_nil, Nat.zero_add]; omega)]
  rfl

theorem TY {σ : Type} {y : σ → List aE → List aD → Option (σ × Bool)} {l : List aM} (hl : okL l) (row : List aE) (sg : σ) : ∀ (r : List aM) (k : Nat) (f : List aD), l.drop k = r → k ≤ l.length → f.length ≤ k →
    ∃ k' f', k ≤ k' ∧ k' ≤ l.length ∧ f'.length ≤ k' ∧ lp (fun s : σ × Int × List aD => nE y l row s.1 s.2.1 s.2.2) (sg, (k : Int), f) = some (sg, ((k' : Nat) : Int), f') ∧
      gA row f r = (row, f') :: groups (l.drop k') ∧ (∀ e r', r = e :: r' → e.Row = row → k < k')
  | [], k, f, hd, hk, hf => by
    have : k = l.length := by
      have := congrArg List.length hd
      simp only [List.length_drop, List.length_nil] at this; omega
    subst this
    refine ⟨l.length, f, Nat.le_refl _, Nat.le_refl _, hf, dI ?_, by simp [gA, groups], fun e r' h => by cases h⟩
    show nE _ _ _ _ _ _ = _
    simp only [nE, uK, cZ, cond_false, Option.bind_some, Bool.false_and]
    exact aQ (fun h => by cases h)
  | a :: r, k, f, hd, hk, hf => by
    obtain ⟨h1, h2⟩ := drop_cons hd
    have hlt : k < l.length := (List.getElem?_eq_some_iff.1 h1).1
    obtain ⟨hll, hlr⟩ := hl
    obtain ⟨d1, d2, d3, d4⟩ := idx h1 (by omega)
    have har := hlr a (List.mem_of_getElem? h1)
    have hb : (fun s : σ × Int × List aD => nE y l row s.1 s.2.1 s.2.2) (sg, (k : Int), f) = some (if a.Row = row then .inl (sg, ((k + 1 : Nat) : Int), f ++ [jE a]) else .inr (sg, (k : Int), f)) := by
      show nE _ _ _ _ _ _ = _
      simp only [nE, d1, d3, d4, cZ, cond_true, aCy a.Row row (by omega), Option.bind_some, Bool.true_and]
      rw [aQ (fun _ => d2)]
      by_cases e : a.Row = row
      · simp only [e, decide_true, cond_true, if_true]
        rw [aQ d2, aQ d2, aQ (by simp only [List.length_cons, List.length_nil]; omega)]
        rfl
      · simp [e]
    by_cases e : a.Row = row
    · rw [if_pos e] at hb
      obtain ⟨k', f', g1, g2, g3, g4, g5, _⟩ := TY ⟨hll, hlr⟩ row sg r (k + 1) (f ++ [jE a]) h2 (by omega) (by simp; omega) (y := y)
      refine ⟨k', f', by omega, g2, g3, by rw [kL hb]; exact g4, by simp [gA, e, g5], fun _ _ _ _ => by omega⟩
    · rw [if_neg e] at hb
      refine ⟨k, f, Nat.le_refl _, hk, hf, dI hb, ?_, fun b r' h hr => by cases h; exact absurd hr e⟩
      rw [hd]; simp [gA, e, groups]

theorem aCs {σ : Type} {y : σ → List aE → List aD → Option (σ × Bool)} {l : List aM} (hl : okL l) : ∀ (m k : Nat) (sg s' : σ), l.length - k ≤ m → k ≤ l.length → itG y (groups (l.drop k)) sg = some s' →
    ∃ x, lp (fun s : σ × Int => mD y l s.1 s.2) (sg, (k : Int)) = some x ∧ Sum.elim id id x = s' := by
  have stop : ∀ (sg s' : σ), itG y (groups (l.drop l.length)) sg = some s' → ∃ x, lp (fun s : σ × Int => mD y l s.1 s.2) (sg, ((l.length : Nat) : Int)) = some x ∧ Sum.elim id id x = s' := by
    intro sg s' h
    rw [List.drop_length] at h
    simp only [groups, itG, Option.some.injEq] at h
    refine ⟨.inl sg, dI ?_, h⟩
    show mD _ _ _ _ = _
    simp only [mD, uK, cond_false]
  intro m
  induction m with
  | zero =>
    intro k sg s' hm hk h
    have : k = l.length := by omega
    subst this; exact stop sg s' h
  | succ m ih =>
    intro k sg s' hm hk h
    by_cases he : k = l.length
    · subst he; exact stop sg s' h
    · have hlt : k < l.length := by omega
      have hd : l.drop k = l[k] :: l.drop (k + 1) := List.drop_eq_getElem_cons hlt
      obtain ⟨d1, d2, d3, d4⟩ := idx (List.getElem?_eq_getElem hlt) (by have := hl.1; omega)
      obtain ⟨k', f', g1, g2, g3, g4, g5, g6⟩ := TY hl l[k].Row sg (l.drop k) k [] rfl hk (by simp) (y := y)
      have hk' := g6 _ _ hd rfl
      have hg : groups (l.drop k) = (l[k].Row, f') :: groups (l.drop k') := by
        rw [← g5, hd]; simp [groups, gA]
      rw [hg] at h
      simp only [itG] at h
      obtain ⟨x, hx, h⟩ := aY h
      have hrow := hl.2 _ (List.getElem_mem hlt)
      have hb : (fun s : σ × Int => mD y l s.1 s.2) (sg, (k : Int)) = some (if x.2 then .inl (x.1, ((k' : Nat) : Int)) else .inr (.inr x.1)) := by
        show mD _ _ _ _ = _
        simp only [mD, d1, cond_true, aQ d2, d3, vI, g4, Option.bind_some, sN, UA hrow, hx]
        cases x.2 <;> simp
      cases hx2 : x.2
      · rw [hx2] at hb h
        simp only [Bool.false_eq_true, if_false, Option.some.injEq] at hb h
        exact ⟨_, dI hb, h⟩
      · rw [hx2] at hb h
        simp only [if_true] at hb h
        obtain ⟨z, hz1, hz2⟩ := ih k' x.1 s' (by omega) g2 h
        exact ⟨z, by rw [kL hb]; exact hz1, hz2⟩

theorem aBE {σ : Type} {y : σ → List aE → List aD → Option (σ × Bool)} {l : List aM} (hl : okL l) {s s' : σ} (h : itG y (groups l) s = some s') : rK y l s = some s' := by
  unfold rK vA
  obtain ⟨x, h1, h2⟩ := aCs hl l.length 0 s s' (by omega) (Nat.zero_le _) (by simpa using h)
  simp only [Int.natCast_zero] at h1
  rw [h1]
  cases x <;> simpa using h2

def ahd (last : Option (List aE)) (r : List aE) : Bool := match last with
  | none => true
  | some q => decide (oS q r < 0)

def AP (p : List aD → Bool) : Option (List aE) → List (List aE × List aD) → Bool
  | _, [] => true
  | last, g :: gs => (oD g.1 && ahd last g.1 && p g.2) && AP p (some g.1) gs

theorem aBw {holds : List aD → Option Bool} {p : List aD → Bool} (hp : ∀ f, holds f = some (p f)) (c : List aM) (t : Bool) : ∀ (gs : List (List aE × List aD)) (last : List aE) (b : Bool), (b = true → oD last = true) →
    ∃ x, itG (fun st r f => rnd (fun (s : Bool × (List aE) × Bool) => sP holds c s.1 s.2.1 s.2.2 r f) st) gs (.inl (t, last, b)) = some x ∧
      (if AP p (if b then some last else none) gs then ∃ u, x = .inl (t, u) else ∃ u, x = .inr (false, u))
  | [], last, b, _ => ⟨_, rfl, by simp [AP]⟩
  | g :: gs, last, b, hb => by
    have hy : sP holds c t last b g.1 g.2 = some (if oD g.1 && ahd (if b then some last else none) g.1 && p g.2 then .inl (t, g.1, true) else .inr (false, last, b)) := by
      unfold sP
      simp only [LM, Option.bind_some, WA, hp]
      cases hm : oD g.1
      · simp [cZ]
      · cases b
        · cases h2 : p g.2 <;> simp [cZ, ahd, h2]
        · have hl := hb rfl
          by_cases h1 : oS last g.1 < 0
          · have h1' : ¬ (0 ≤ oS last g.1) := by omega
            cases h2 : p g.2 <;> simp [cZ, ahd, h2, hl, h1, h1']
          · have h1' : 0 ≤ oS last g.1 := by omega
            simp [cZ, ahd, hl, h1, h1']
    cases hc : (oD g.1 && ahd (if b then some last else none) g.1 && p g.2)
    · rw [hc] at hy
      simp only [itG, rnd, hy, Option.bind_some, AP, hc]
      exact ⟨.inr (false, last, b), by simp, by simp⟩
    · rw [hc] at hy
      simp only [itG, rnd, hy, Option.bind_some, AP, hc]
      have hm : oD g.1 = true := by simp only [Bool.and_eq_true] at hc; exact hc.1.1
      obtain ⟨x, h1, h2⟩ := aBw hp c t gs g.1 true (fun _ => hm)
      refine ⟨x, ?_, ?_⟩
      · simpa [rnd] using h1
      · simpa using h2

theorem aF8 {l : List aM} (hl : okL l) {holds : List aD → Option Bool} {p : List aD → Bool} (hp : ∀ f, holds f = some (p f)) : AA l holds = some (decide (l.length ≤ 4096) && AP p none (groups l)) := by
  unfold AA
  by_cases h : l.length ≤ 4096
  · have h1 : decide ((4096 : Int) < ((l.length : Nat) : Int)) = false := by simp; omega
    rw [h1, cond_false]
    simp only [wB, Option.bind_some, CB]
    obtain ⟨x, e1, e2⟩ := aBw hp l false (groups l) [] false (fun h => by cases h)
    rw [aBE hl e1]
    simp only [Bool.false_eq_true, if_false] at e2
    simp only [h, decide_true, Bool.true_and]
    cases hc : AP p none (groups l)
    · rw [hc] at e2
      simp only [Bool.false_eq_true, if_false] at e2
      obtain ⟨u, rfl⟩ := e2
      rfl
    · rw [hc] at e2
      simp only [if_true] at e2
      obtain ⟨u, rfl⟩ := e2
      rfl
  · have h1 : decide ((4096 : Int) < ((l.length : Nat) : Int)) = true := by simp; omega
    rw [h1, cond_true]
    simp [h]

def nJ (l : List aM) : Bool := decide (l.length ≤ 4096) && AP eZ none (groups l)

theorem aB3 {l : List aM} (hl : okL l) : yO l = some (nJ l) := by
  unfold yO
  rw [aF8 hl (p := eZ) (fun f => GK f)]; rfl

def aB7 (f : List aD) : Bool := eZ f && decide (0 ≤ HC f)

def qM (l : List aM) : Bool := decide (l.length ≤ 4096) && AP aB7 none (groups l)

def nC (r : List aE) (f : List aD) : List aM := f.map fun j => ⟨r, j.At, j.Net⟩

theorem put_eq {out : List aM} {r : List aE} {f : List aD} (hr : r.length ≤ 4398046510976) (hl : out.length + f.length ≤ 1099511627776) : CA out r f = some (out ++ nC r f) := by
  unfold CA DY
  rw [DJ (l := f) (body := fun s : List aM × Int => sI r f (f.length : Nat) s.1 s.2) (fun o i => (o, i)) (fun o t => o ++ nC r t) (fun o t => o.length + t.length ≤ 1099511627776) out ?_ ?_ hl]
  · rfl
  · intro i a t o ha hi
    left
    obtain ⟨d1, d2, d3, d4⟩ := idx ha (by have := (List.getElem?_eq_some_iff.1 ha).1; omega)
    simp only [List.length_cons] at hi
    refine ⟨o ++ [⟨r, a.At, a.Net⟩], ?_, by simp; omega, by simp [nC]⟩
    show sI _ _ _ _ _ = _
    simp only [sI, d1, cond_true, aQ d2, d3, d4, UA hr, Option.bind_some]
    exact aQ (by simp only [List.length_cons, List.length_nil]; omega)
  · intro o _
    show sI _ _ _ _ _ = _
    simp only [sI, uK, cond_false]
    simp [nC]

def FA (by1 : List aD → List aD × Int) : List (List aE × List aD) → List aM → List aM × Int
  | [], out => (out, 0)
  | g :: gs, out => if (by1 g.2).2 ≠ 0 then ([], (by1 g.2).2) else if 4096 < (out ++ nC g.1 (by1 g.2).1).length then ([], 7) else FA by1 gs (out ++ nC g.1 (by1 g.2).1)

def flat (gs : List (List aE × List aD)) : List aM := gs.flatMap fun g => nC g.1 g.2

theorem UU : ∀ (l : List aM) (r : List aE) (f : List aD), flat (gA r f l) = nC r f ++ l
  | [], r, f => by simp [gA, flat]
  | e :: l, r, f => by
    unfold gA
    split
    · rename_i h
      rw [UU l r]
      simp [nC, jE, ← h]
    · have := UU l e.Row [jE e]
      simp only [flat, List.flatMap_cons] at this ⊢
      rw [this]
      simp [nC, jE]

theorem rE (l : List aM) : flat (groups l) = l := by
  cases l with
  | nil => rfl
  | cons e l => unfold groups; rw [UU]; simp [nC, jE]

theorem aAJ {r : List aE} : ∀ {l : List aM} {f : List aD} {g : List aE × List aD}, g ∈ gA r f l → f ≠ [] → g.2 ≠ [] ∧ (g.1 = r ∨ ∃ e ∈ l, g.1 = e.Row)
  | [], f, g, h, hf => by simp only [gA, List.mem_singleton] at h; subst h; exact ⟨hf, .inl rfl⟩
  | e :: l, f, g, h, hf => by
    unfold gA at h
    split at h
    · obtain ⟨h1, h2⟩ := aAJ h (by simp)
      exact ⟨h1, h2.imp id fun ⟨x, hx, hx'⟩ => ⟨x, by simp [hx], hx'⟩⟩
    · rcases List.mem_cons.1 h with rfl | h
      · exact ⟨hf, .inl rfl⟩
      · obtain ⟨h1, h2⟩ := aAJ (r := e.Row) h (by simp)
        refine ⟨h1, .inr ?_⟩
        rcases h2 with h2 | ⟨x, hx, hx'⟩
        · exact ⟨e, by simp, h2⟩
        · exact ⟨x, by simp [hx], hx'⟩

theorem MM {l : List aM} {g : List aE × List aD} (h : g ∈ groups l) : g.2 ≠ [] ∧ ∃ e ∈ l, g.1 = e.Row := by
  cases l with
  | nil => simp [groups] at h
  | cons e l =>
    obtain ⟨h1, h2⟩ := aAJ h (by simp)
    refine ⟨h1, ?_⟩
    rcases h2 with h2 | ⟨x, hx, hx'⟩
    · exact ⟨e, by simp, h2⟩
    · exact ⟨x, by simp [hx], hx'⟩

end Go.Abs
namespace Go.Abs
open Go
def bU (l : List aM) (r : List aE) : List aD := (l.filter fun e => decide (e.Row = r)).map jE

theorem oR (a b : List aM) (r : List aE) : bU (a ++ b) r = bU a r ++ bU b r := by simp [bU]

theorem XE (q : List aE) (f : List aD) (r : List aE) : bU (nC q f) r = if q = r then f else [] := by
  induction f with
  | nil => simp [bU, nC]
  | cons j f ih =>
    have h1 : nC q (j :: f) = [⟨q, j.At, j.Net⟩] ++ nC q f := rfl
    rw [h1, oR, ih]
    by_cases h : q = r <;> simp [bU, jE, h]

def look : List (List aE × List aD) → List aE → List aD
  | [], _ => []
  | g :: gs, r => if g.1 = r then g.2 else look gs r

theorem uV (g : List aE × List aD) (gs : List (List aE × List aD)) (r : List aE) : look (g :: gs) r = if g.1 = r then g.2 else look gs r := rfl

abbrev ltG (a b : List aE × List aD) : Prop := oS a.1 b.1 < 0

abbrev uH (gs : List (List aE × List aD)) : Prop := gs.Pairwise ltG

abbrev Full (gs : List (List aE × List aD)) : Prop := ∀ g ∈ gs, g.2 ≠ []

theorem uZ {a : List aE} : ¬ oS a a < 0 := by rw [(rO.eq a a).2 rfl]; omega

theorem uT : ∀ {gs : List (List aE × List aD)} {r : List aE}, (∀ g ∈ gs, g.1 ≠ r) → look gs r = []
  | [], _, _ => rfl
  | g :: gs, r, h => by
    rw [uV]
    rw [if_neg (h g (by simp))]
    exact uT fun q hq => h q (by simp [hq])

theorem tL (gs : List (List aE × List aD)) (r : List aE) : (look gs r = [] ∧ ∀ g ∈ gs, g.1 ≠ r) ∨ ∃ g ∈ gs, g.1 = r ∧ look gs r = g.2 := by
  induction gs with
  | nil => exact .inl ⟨rfl, by simp⟩
  | cons g gs ih =>
    rw [uV]
    by_cases h : g.1 = r
    · rw [if_pos h]; exact .inr ⟨g, by simp, h, rfl⟩
    · rw [if_neg h]
      rcases ih with ⟨h1, h2⟩ | ⟨q, hq, h1, h2⟩
      · refine .inl ⟨h1, fun q hq => ?_⟩
        rcases List.mem_cons.1 hq with rfl | hq
        · exact h
        · exact h2 q hq
      · exact .inr ⟨q, by simp [hq], h1, h2⟩

theorem uA {gs : List (List aE × List aD)} (hs : uH gs) {g : List aE × List aD} (hg : g ∈ gs) : look gs g.1 = g.2 := by
  induction gs with
  | nil => simp at hg
  | cons q gs ih =>
    have hs' := List.pairwise_cons.1 hs
    rw [uV]
    rcases List.mem_cons.1 hg with rfl | hg
    · rw [if_pos rfl]
    · rw [if_neg (fun e => by have := hs'.1 g hg; simp only [ltG, e] at this; exact uZ this)]
      exact ih hs'.2 hg

theorem tQ (g : List aE × List aD) (gs : List (List aE × List aD)) : flat (g :: gs) = nC g.1 g.2 ++ flat gs := rfl

theorem BZ : ∀ {gs : List (List aE × List aD)}, uH gs → ∀ r, bU (flat gs) r = look gs r
  | [], _, r => rfl
  | g :: gs, hs, r => by
    have hs' := List.pairwise_cons.1 hs
    rw [tQ, oR, XE, BZ hs'.2, uV]
    by_cases h : g.1 = r
    · rw [if_pos h, if_pos h, uT, List.append_nil]
      intro q hq e
      have := hs'.1 q hq
      simp only [ltG, h, e] at this; exact uZ this
    · rw [if_neg h, if_neg h]; rfl

theorem aBL : ∀ {gs hs : List (List aE × List aD)}, uH gs → uH hs → Full gs → Full hs → (∀ r, look gs r = look hs r) → gs = hs
  | [], [], _, _, _, _, _ => rfl
  | [], h :: hs, _, _, _, fh, he => by
    have := he h.1
    simp only [uV, look, if_true] at this
    exact absurd this.symm (fh h (by simp))
  | g :: gs, [], _, _, fg, _, he => by
    have := he g.1
    simp only [uV, look, if_true] at this
    exact absurd this (fg g (by simp))
  | g :: gs, h :: hs, sg, sh, fg, fh, he => by
    have sg' := List.pairwise_cons.1 sg
    have sh' := List.pairwise_cons.1 sh
    by_cases e : g.1 = h.1
    · have h2 := he g.1
      simp only [look, if_true, if_pos e.symm] at h2
      have ht : gs = hs := aBL sg'.2 sh'.2 (fun q hq => fg q (by simp [hq])) (fun q hq => fh q (by simp [hq])) fun r => by
        by_cases hr : g.1 = r
        · subst hr
          rw [uT (gs := gs), uT (gs := hs)]
          · intro q hq e'; have := sh'.1 q hq; simp only [ltG, ← e, e'] at this; exact uZ this
          · intro q hq e'; have := sg'.1 q hq; simp only [ltG, e'] at this; exact uZ this
        · have := he r
          simp only [look, if_neg hr, if_neg (fun x => hr (e.trans x))] at this
          exact this
      rw [ht]
      obtain ⟨g1, g2⟩ := g
      obtain ⟨h1, h3⟩ := h
      simp only at e h2
      rw [e, h2]
    · exfalso
      have hne : oS g.1 h.1 ≠ 0 := fun x => e ((rO.eq _ _).1 x)
      by_cases hlt : oS g.1 h.1 < 0
      · have h2 := he g.1
        rw [uA sg (by simp), uT] at h2
        · exact fg g (by simp) h2
        · intro q hq e'
          rcases List.mem_cons.1 hq with rfl | hq
          · exact e e'.symm
          · have := rO.trans _ _ _ hlt (sh'.1 q hq)
            rw [e'] at this; exact uZ this
      · have hlt' : oS h.1 g.1 < 0 := (rO.anti _ _).2 (by omega)
        have h2 := he h.1
        rw [uA sh (by simp), uT] at h2
        · exact fh h (by simp) h2.symm
        · intro q hq e'
          rcases List.mem_cons.1 hq with rfl | hq
          · exact e e'
          · have := rO.trans _ _ _ hlt' (sg'.1 q hq)
            rw [e'] at this; exact uZ this

theorem BM {p : List aD → Bool} : ∀ {gs : List (List aE × List aD)} {last : Option (List aE)}, AP p last gs = true ↔ (∀ g ∈ gs, oD g.1 = true ∧ p g.2 = true) ∧ uH gs ∧ (∀ q, last = some q → ∀ g ∈ gs, oS q g.1 < 0)
  | [], last => by simp [AP]
  | g :: gs, last => by
    unfold AP
    simp only [Bool.and_eq_true, BM (gs := gs), List.mem_cons, List.pairwise_cons]
    constructor
    · rintro ⟨⟨⟨h1, h2⟩, h3⟩, h4, h5, h6⟩
      refine ⟨?_, ⟨fun q hq => h6 _ rfl q hq, h5⟩, ?_⟩
      · rintro q (rfl | hq)
        · exact ⟨h1, h3⟩
        · exact h4 q hq
      · rintro q rfl x (rfl | hx)
        · simpa [ahd] using h2
        · simp only [ahd, decide_eq_true_eq] at h2
          exact rO.trans _ _ _ h2 (h6 _ rfl x hx)
    · rintro ⟨h1, ⟨h2, h3⟩, h4⟩
      refine ⟨⟨⟨(h1 g (.inl rfl)).1, ?_⟩, (h1 g (.inl rfl)).2⟩, fun q hq => h1 q (.inr hq), h3, ?_⟩
      · unfold ahd
        split
        · rfl
        · exact decide_eq_true (h4 _ rfl g (.inl rfl))
      · rintro q hq x hx
        cases hq
        exact h2 x hx

theorem KK (l : List aM) : Full (groups l) := fun _ hg => (MM hg).1

theorem lT {l : List aM} (h : nJ l = true) : l.length ≤ 4096 ∧ (∀ g ∈ groups l, oD g.1 = true ∧ eZ g.2 = true) ∧ uH (groups l) := by
  simp only [nJ, Bool.and_eq_true, decide_eq_true_eq] at h
  obtain ⟨h1, h2, _⟩ := BM.1 h.2
  exact ⟨h.1, h1, h2⟩

theorem aC4 {l : List aM} (h : nJ l = true) (r : List aE) : eZ (look (groups l) r) = true := by
  rcases tL (groups l) r with ⟨h1, _⟩ | ⟨g, hg, _, h1⟩
  · rw [h1]; exact UT
  · rw [h1]; exact ((lT h).2.1 g hg).2

theorem aEy {a b : List aM} (ha : nJ a = true) (hb : nJ b = true) (h : ∀ r, look (groups a) r = look (groups b) r) : a = b := by
  rw [← rE a, ← rE b, aBL (lT ha).2.2 (lT hb).2.2 (KK a) (KK b) h]

theorem pW {l : List aM} (h : uH (groups l)) (r : List aE) : look (groups l) r = bU l r := by
  rw [← BZ h, rE]

theorem aBS (r : List aE) (f : List aD) (e : aM) (l : List aM) : gA r f (e :: l) = if e.Row = r then gA r (f ++ [jE e]) l else (r, f) :: gA e.Row [jE e] l := rfl

theorem YK (r : List aE) : ∀ (f2 f : List aD) (l : List aM), gA r f (nC r f2 ++ l) = gA r (f ++ f2) l
  | [], f, l => by simp [nC]
  | j :: f2, f, l => by
    show gA r f (⟨r, j.At, j.Net⟩ :: (nC r f2 ++ l)) = _
    rw [aBS, if_pos rfl, YK r f2]
    simp [jE]

theorem WG : ∀ {gs : List (List aE × List aD)}, uH gs → Full gs → groups (flat gs) = gs
  | [], _, _ => rfl
  | (r, f) :: gs, hs, hf => by
    have hs' := List.pairwise_cons.1 hs
    have hne := hf (r, f) (by simp)
    have ih := WG hs'.2 (fun g hg => hf g (by simp [hg]))
    cases f with
    | nil => exact absurd rfl hne
    | cons j f =>
      rw [tQ]
      show gA r [jE ⟨r, j.At, j.Net⟩] (nC r f ++ flat gs) = _
      rw [YK]
      have key : ∀ (F : List aD), gA r F (flat gs) = (r, F) :: groups (flat gs) := by
        intro F
        cases gs with
        | nil => rfl
        | cons g gs =>
          obtain ⟨q, f'⟩ := g
          have hq := hf (q, f') (by simp)
          cases f' with
          | nil => exact absurd rfl hq
          | cons j' f' =>
            have hqr : q ≠ r := fun e => by
              have := hs'.1 (q, j' :: f') (by simp)
              simp only [ltG, e] at this; exact uZ this
            rw [tQ]
            show gA r F (⟨q, j'.At, j'.Net⟩ :: (nC q f' ++ flat gs)) = _
            rw [gA, if_neg hqr]
            rfl
      rw [key, ih]
      rfl

def GY (gs : List (List aE × List aD)) : List (List aE × List aD) := gs.filter fun g => !g.2.isEmpty

theorem EO : ∀ (gs : List (List aE × List aD)), flat (GY gs) = flat gs
  | [] => rfl
  | (r, []) :: gs => by
    have : GY ((r, []) :: gs) = GY gs := rfl
    rw [this, EO gs, tQ]; rfl
  | (r, j :: f) :: gs => by
    have : GY ((r, j :: f) :: gs) = (r, j :: f) :: GY gs := rfl
    rw [this, tQ, tQ, EO gs]

theorem WI (gs : List (List aE × List aD)) : Full (GY gs) := by
  intro g hg
  have := (List.mem_filter.1 hg).2
  intro h; rw [h] at this; simp at this

theorem BX {gs : List (List aE × List aD)} (hs : uH gs) : groups (flat gs) = GY gs := by
  rw [← EO]
  exact WG (hs.filter _) (WI gs)

theorem NM {gs : List (List aE × List aD)} (hs : uH gs) (r : List aE) : look (groups (flat gs)) r = look gs r := by
  have h1 := BZ (gs := GY gs) (hs.filter _) r
  rw [BX hs, ← h1, ← BZ hs, EO]

theorem WK {gs : List (List aE × List aD)} (hs : uH gs) (hm : ∀ g ∈ gs, oD g.1 = true ∧ eZ g.2 = true) (hl : (flat gs).length ≤ 4096) : nJ (flat gs) = true := by
  simp only [nJ, Bool.and_eq_true, decide_eq_true_eq]
  refine ⟨hl, BM.2 ?_⟩
  rw [BX hs]
  exact ⟨fun g hg => hm g (List.mem_filter.1 hg).1, hs.filter _, by simp⟩

def qZ (by1 : List aD → List aD × Int) (gs : List (List aE × List aD)) : List (List aE × List aD) := gs.map fun g => (g.1, (by1 g.2).1)

theorem GZ {by1 : List aD → List aD × Int} {gs : List (List aE × List aD)} (hs : uH gs) : uH (qZ by1 gs) := by
  rw [uH, qZ, List.pairwise_map]; exact hs

theorem IP {by1 : List aD → List aD × Int} (h0 : (by1 []).1 = []) : ∀ (gs : List (List aE × List aD)) (r : List aE), look (qZ by1 gs) r = (by1 (look gs r)).1
  | [], r => h0.symm
  | g :: gs, r => by
    show look ((g.1, (by1 g.2).1) :: qZ by1 gs) r = _
    rw [uV, uV]
    by_cases h : g.1 = r
    · rw [if_pos h, if_pos h]
    · rw [if_neg h, if_neg h]; exact IP h0 gs r

theorem UZ {by1 : List aD → List aD × Int} : ∀ {gs : List (List aE × List aD)} {out : List aM}, out.length ≤ 4096 → (FA by1 gs out).2 = 0 → (∀ g ∈ gs, (by1 g.2).2 = 0) ∧ (FA by1 gs out).1 = out ++ flat (qZ by1 gs) ∧ (FA by1 gs out).1.length ≤ 4096
  | [], out, ho, _ => by simp [FA, qZ, flat, ho]
  | g :: gs, out, ho, h => by
    unfold FA at h ⊢
    by_cases e1 : (by1 g.2).2 = 0
    · rw [if_neg (by simp [e1])] at h ⊢
      by_cases e2 : 4096 < (out ++ nC g.1 (by1 g.2).1).length
      · rw [if_pos e2] at h; simp at h
      · rw [if_neg e2] at h ⊢
        obtain ⟨h1, h2, h3⟩ := UZ (by omega) h
        refine ⟨?_, ?_, h3⟩
        · intro q hq
          rcases List.mem_cons.1 hq with rfl | hq
          · exact e1
          · exact h1 q hq
        · rw [h2]; simp [qZ, tQ]
    · rw [if_pos e1] at h; exact absurd h e1

theorem QV {by1 : List aD → List aD × Int} : ∀ {gs : List (List aE × List aD)} {out : List aM}, (∀ g ∈ gs, (by1 g.2).2 = 0) → (out ++ flat (qZ by1 gs)).length ≤ 4096 → FA by1 gs out = (out ++ flat (qZ by1 gs), 0)
  | [], out, _, _ => by simp [FA, qZ, flat]
  | g :: gs, out, h, hl => by
    unfold FA
    have hf : flat (qZ by1 (g :: gs)) = nC g.1 (by1 g.2).1 ++ flat (qZ by1 gs) := rfl
    rw [hf] at hl ⊢
    rw [if_neg (by simp [h g (by simp)]), if_neg (by simp only [List.length_append] at hl ⊢; omega), QV (fun q hq => h q (by simp [hq])) (by simpa using hl)]
    simp

def HM (by1 : List aD → List aD × Int) (l : List aM) : List aM × Int := if nJ l then FA by1 (groups l) [] else ([], 2)

theorem DG {by1 : List aD → List aD × Int} {l : List aM} (h : (HM by1 l).2 = 0) : nJ l = true ∧ (∀ g ∈ groups l, (by1 g.2).2 = 0) ∧ (HM by1 l).1 = flat (qZ by1 (groups l)) ∧ (HM by1 l).1.length ≤ 4096 := by
  unfold HM at h ⊢
  cases hm : nJ l
  · rw [hm] at h; simp at h
  · rw [hm] at h
    simp only [if_true] at h ⊢
    obtain ⟨h1, h2, h3⟩ := UZ (by simp) h
    exact ⟨trivial, h1, by simpa using h2, h3⟩

theorem VS {by1 : List aD → List aD × Int} (h0 : (by1 []).1 = []) {l : List aM} (h : (HM by1 l).2 = 0) (r : List aE) : look (groups (HM by1 l).1) r = (by1 (look (groups l) r)).1 := by
  obtain ⟨h1, h2, h3, _⟩ := DG h
  rw [h3, NM (GZ (lT h1).2.2), IP h0]

theorem YV {by1 : List aD → List aD × Int} (h0 : (by1 []).2 = 0) {l : List aM} (h : (HM by1 l).2 = 0) (r : List aE) : (by1 (look (groups l) r)).2 = 0 := by
  obtain ⟨h1, h2, _, _⟩ := DG h
  rcases tL (groups l) r with ⟨e, _⟩ | ⟨g, hg, _, e⟩
  · rw [e]; exact h0
  · rw [e]; exact h2 g hg

theorem QJ {f g : List aM} (hl : okL f) : uM f g = some (decide (f = g)) := by
  unfold uM
  by_cases he : f.length = g.length
  · rw [aAG he, cond_false]
    unfold AR
    have := XR (f := f) (g := g) (body := fun s => tA f g s) he ?_ ?_ f.length 0 rfl (Nat.zero_le _)
    · simp only [Int.natCast_zero, List.drop_zero] at this
      rw [this]
      by_cases h : f = g <;> simp [h, vS]
    · intro i x y hx hy
      have hll := hl.1
      obtain ⟨d1, d2, d3, d4⟩ := idx hx (by omega)
      obtain ⟨_, e2, e3, _⟩ := idx hy (by omega)
      have hr := hl.2 x (List.mem_of_getElem? hx)
      simp only [tA, d1, cond_true, aQ d2, aQ e2, d3, e3, d4, cZ]
      rw [aQ (fun _ => d2), aQ (fun _ => e2), aQ (fun _ => d2), aQ (fun _ => e2), XA x.Row y.Row (by omega)]
      obtain ⟨x1, x2, x3⟩ := x
      obtain ⟨y1, y2, y3⟩ := y
      by_cases h1 : x2 = y2 <;> by_cases h2 : x3 = y3 <;> by_cases h3 : x1 = y1 <;> simp [h1, h2, h3]
    · simp only [tA, uK, cond_false]
  · rw [aAf he, cond_true]
    have : f ≠ g := fun h => he (by rw [h])
    simp [this]

theorem FF : ∀ (l : List aM) (r : List aE) (f : List aD), (gA r f l).length ≤ l.length + 1
  | [], _, _ => by simp [gA]
  | e :: l, r, f => by
    rw [aBS]
    split
    · have := FF l r (f ++ [jE e]); simp only [List.length_cons]; omega
    · have := FF l e.Row [jE e]; simp only [List.length_cons]; omega

theorem MO (l : List aM) : (groups l).length ≤ l.length := by
  cases l with
  | nil => simp [groups]
  | cons e l => exact FF l e.Row [jE e]

end Go.Abs
namespace Go.Abs
open Go
def unE (e : aM) : Bool := ((!oD e.Row) || (decide ((1048576 : Int) < e.Net))) || (decide (e.Net < (-1048576 : Int)))

def UP (e : aM) : Bool := (decide (e.At < (-1 : Int))) || (decide ((1125899906842624 : Int) < e.At))

abbrev aAt (rs : List (List aE)) : Prop := rs.Pairwise fun a b => oS a b < 0

def HO (r : List aE) : List (List aE) → List (List aE)
  | [] => [r]
  | x :: xs => if oS x r < 0 then x :: HO r xs else if x = r then x :: xs else r :: x :: xs

def rowsOf (l : List aM) : List (List aE) := l.foldl (fun rs e => HO e.Row rs) []

theorem RO {r x : List aE} : ∀ {rs : List (List aE)}, x ∈ HO r rs ↔ x = r ∨ x ∈ rs
  | [] => by simp [HO]
  | y :: ys => by
    unfold HO
    split
    · simp only [List.mem_cons, RO (rs := ys)]
      constructor
      · rintro (h | h | h)
        · exact .inr (.inl h)
        · exact .inl h
        · exact .inr (.inr h)
      · rintro (h | h | h)
        · exact .inr (.inl h)
        · exact .inl h
        · exact .inr (.inr h)
    · split
      · rename_i h; subst h; simp
      · simp

theorem aAe {r : List aE} : ∀ {rs : List (List aE)}, aAt rs → aAt (HO r rs)
  | [], _ => by simp [HO]
  | y :: ys, hs => by
    have hs' := List.pairwise_cons.1 hs
    unfold HO
    split
    · rename_i h
      refine List.pairwise_cons.2 ⟨fun z hz => ?_, aAe hs'.2⟩
      rcases RO.1 hz with rfl | hz
      · exact h
      · exact hs'.1 z hz
    · rename_i h
      split
      · exact hs
      · rename_i hne
        have hlt : oS r y < 0 := by
          have h0 : oS y r ≠ 0 := fun e => hne ((rO.eq _ _).1 e)
          exact (rO.anti _ _).2 (by omega)
        refine List.pairwise_cons.2 ⟨fun z hz => ?_, hs⟩
        rcases List.mem_cons.1 hz with rfl | hz
        · exact hlt
        · exact rO.trans _ _ _ hlt (hs'.1 z hz)

theorem PB : ∀ (l : List aM) (rs : List (List aE)), aAt rs → aAt (l.foldl (fun rs e => HO e.Row rs) rs) ∧ ∀ x, x ∈ l.foldl (fun rs e => HO e.Row rs) rs ↔ x ∈ rs ∨ ∃ e ∈ l, e.Row = x
  | [], rs, hs => ⟨hs, by simp⟩
  | e :: l, rs, hs => by
    obtain ⟨h1, h2⟩ := PB l (HO e.Row rs) (aAe hs)
    refine ⟨h1, fun x => ?_⟩
    simp only [List.foldl_cons]
    rw [h2 x, RO]
    simp only [List.mem_cons, exists_eq_or_imp]
    constructor
    · rintro ((h | h) | h)
      · exact .inr (.inl h.symm)
      · exact .inl h
      · exact .inr (.inr h)
    · rintro (h | h | h)
      · exact .inl (.inr h)
      · exact .inl (.inl h.symm)
      · exact .inr h

theorem aCM (l : List aM) : aAt (rowsOf l) := (PB l [] List.Pairwise.nil).1

theorem FT {l : List aM} {x : List aE} : x ∈ rowsOf l ↔ ∃ e ∈ l, e.Row = x := by
  have := (PB l [] List.Pairwise.nil).2 x
  simpa [rowsOf] using this

def zQ (l : List aM) : List (List aE × List aD) := (rowsOf l).map fun r => (r, bU l r)

theorem RN (l : List aM) : uH (zQ l) := by
  rw [uH, zQ, List.pairwise_map]; exact aCM l

theorem KF {l : List aM} {r : List aE} (h : ∀ e ∈ l, e.Row ≠ r) : bU l r = [] := by
  unfold bU
  rw [List.map_eq_nil_iff, List.filter_eq_nil_iff]
  intro e he
  simpa using h e he

theorem IW (l : List aM) (r : List aE) : look (zQ l) r = bU l r := by
  rcases tL (zQ l) r with ⟨h1, h2⟩ | ⟨g, hg, h1, h2⟩
  · rw [h1, KF]
    intro e he hr
    have : (r, bU l r) ∈ zQ l := List.mem_map.2 ⟨r, FT.2 ⟨e, he, hr⟩, rfl⟩
    exact h2 _ this rfl
  · rw [h2]
    obtain ⟨q, _, rfl⟩ := List.mem_map.1 hg
    simp only at h1
    rw [h1]

theorem YL {l : List aD} (ht : ∀ j ∈ l, -2 < j.At) : Up (-2) (FM l) :=
  HW (by rw [List.map_map]; simpa [Function.comp_def] using PA ht)

theorem NS {l : List aD} (ht : ∀ j ∈ l, -2 < j.At) {t : Int} (h1 : -2 < t) (h2 : t < 1125899906842624) : val (FM l) t = val l t := by
  have h0 : val l (-2) = 0 := uU fun j hj => ht j hj
  have := OU (F := val l) (PA ht) (fun s t' _ hst hlt hn => IN hst fun j hj hc => hn j.At (RL.2 (Or.inr ⟨j, List.mem_filter.2 ⟨hj, by simp; omega⟩, rfl⟩)) hc) t (by omega) h2
  rw [h0] at this
  unfold FM
  rw [this]; omega

theorem NZ (l : List aD) : (iU l).1.length ≤ 1024 := by
  unfold iU
  split
  · simp
  · split
    · simp
    · exact XV _

def eF (l : List aM) : List aM × Int := if l.any unE then ([], 2) else if l.any UP then ([], 13) else FA iU (zQ l) []

theorem aFF {l : List aM} (h : l.any unE = false) : ∀ e ∈ l, oD e.Row = true ∧ e.Net ≤ 1048576 ∧ -1048576 ≤ e.Net := by
  intro e he
  have := List.any_eq_false.1 h e he
  simp only [unE, Bool.or_eq_true, not_or, Bool.not_eq_true', decide_eq_true_eq, Bool.not_eq_false, Bool.not_eq_true] at this
  exact ⟨by simpa using this.1.1, by omega, by omega⟩

theorem VT : iU [] = ([], 0) := rfl

theorem MG {l : List aM} (h : (eF l).2 = 0) : l.any unE = false ∧ l.any UP = false ∧ (∀ g ∈ zQ l, (iU g.2).2 = 0) ∧ (eF l).1 = flat (qZ iU (zQ l)) ∧ (eF l).1.length ≤ 4096 := by
  unfold eF at h ⊢
  cases h1 : l.any unE
  · rw [h1] at h
    simp only [Bool.false_eq_true, if_false] at h ⊢
    cases h2 : l.any UP
    · rw [h2] at h
      simp only [Bool.false_eq_true, if_false] at h ⊢
      obtain ⟨a, b, c⟩ := UZ (by simp) h
      exact ⟨trivial, trivial, a, by simpa using b, c⟩
    · rw [h2] at h; simp at h
  · rw [h1] at h; simp at h

theorem SD {l : List aM} (h : (eF l).2 = 0) (r : List aE) : look (groups (eF l).1) r = (iU (bU l r)).1 := by
  obtain ⟨_, _, _, h4, _⟩ := MG h
  rw [h4, NM (GZ (RN l)), IP (by rw [VT]), IW]

theorem GL {f : List aD} (h : (iU f).2 = 0) : f.any LF = false ∧ f.any OY = false ∧ eZ (FM f) = true ∧ iU f = (FM f, 0) := by
  unfold iU at h ⊢
  cases h1 : f.any LF
  · rw [h1] at h
    simp only [Bool.false_eq_true, if_false] at h ⊢
    cases h2 : f.any OY
    · rw [h2] at h
      simp only [Bool.false_eq_true, if_false] at h ⊢
      unfold told at h ⊢
      cases h3 : eZ (FM f)
      · rw [h3] at h; simp at h
      · simp
    · rw [h2] at h; simp at h
  · rw [h1] at h; simp at h

theorem MV {l : List aM} (h : (eF l).2 = 0) (r : List aE) : (iU (bU l r)).2 = 0 := by
  obtain ⟨_, _, h3, _, _⟩ := MG h
  rcases tL (zQ l) r with ⟨e, _⟩ | ⟨g, hg, _, e⟩
  · rw [IW] at e; rw [e]; rfl
  · rw [IW] at e; rw [e]; exact h3 g hg

theorem wX {l : List aM} (h : (eF l).2 = 0) : nJ (eF l).1 = true := by
  obtain ⟨h1, _, h3, h4, h5⟩ := MG h
  rw [h4] at h5 ⊢
  refine WK (GZ (RN l)) (fun g hg => ?_) h5
  obtain ⟨q, hq, rfl⟩ := List.mem_map.1 hg
  have h6 := GL (h3 q hq)
  obtain ⟨r, hr, rfl⟩ := List.mem_map.1 hq
  obtain ⟨e, he, rfl⟩ := FT.1 hr
  exact ⟨(aFF h1 e he).1, by rw [h6.2.2.2]; exact h6.2.2.1⟩

end Go.Abs
namespace Go.Abs
open Go
def vL : aE := ⟨1, 1, ByteArray.empty⟩

theorem TL {l : List aM} (h : l.length ≤ 4096) (hr : ∀ e ∈ l, e.Row.length ≤ 8) : okL l := ⟨by omega, fun e he => by have := hr e he; omega⟩

end Go.Abs
namespace Go.Abs
open Go
def fJ (l : List aM) (t : Int) : List aM × Int := HM (fun f => rest f t) l

theorem aEX {f : List aD} {t : Int} (hm : eZ f = true) (ht0 : 0 ≤ t) (ht : t < 1125899906842624) (he : (rest f t).2 = 0) (p : Int) (hp : -1 ≤ p) : val (rest f t).1 p = val f (if p < t then t - 1 else p) := by
  unfold rest at he ⊢
  rw [if_pos hm, if_neg (by omega), if_neg (by omega)] at he ⊢
  unfold told at he ⊢
  split at he
  · rename_i h; rw [if_pos h]; exact WD hm p hp
  · simp at he

theorem DL {t : Int} : rest [] t = ([], 0) := by
  unfold rest
  rw [if_pos UT]
  split
  · rfl
  · split <;> rfl

end Go.Abs
namespace Go.Abs
open Go
theorem aDr {l : List aM} (m : ∀ a ∈ l, sJ a) (y : List.length l * 40 ≤ 140737488351232) : okL l :=
  ⟨by omega, fun e he => by have := (m e he).1.2; omega⟩

end Go.Abs
namespace Go.Abs
open Go
theorem QC {σ : Type} {y : σ → List aE → List aD → Option (σ × Bool)} (c : List aM) : ∀ (gs : List (List aE × List aD)) (s s' : σ), itG y gs s = some s' →
    ∃ x, itG (fun st t10 t11 => rnd (fun (s : σ) => oQ y c s t10 t11) st) gs (.inl s) = some x ∧ Sum.elim id id x = s'
  | [], s, s', h => by simp only [itG, Option.some.injEq] at h; exact ⟨_, rfl, h⟩
  | g :: gs, s, s', h => by
    simp only [itG] at h
    obtain ⟨z, hz, h⟩ := aY h
    have hl : oQ y c s g.1 g.2 = some (if z.2 then .inl z.1 else .inr z.1) := by
      unfold oQ
      rw [hz]
      obtain ⟨z1, z2⟩ := z
      cases z2 <;> rfl
    cases h2 : z.2
    · rw [h2] at h hl
      simp only [Bool.false_eq_true, if_false, Option.some.injEq] at h hl
      refine ⟨.inr z.1, ?_, h⟩
      simp [itG, rnd, hl]
    · rw [h2] at h hl
      simp only [if_true] at h hl
      obtain ⟨x, h3, h4⟩ := QC c gs z.1 s' h
      refine ⟨x, ?_, h4⟩
      simp only [itG, rnd, hl, Option.bind_some, Sum.isLeft_inl, if_true]
      exact h3

theorem TZ {σ : Type} {y : σ → List aE → List aD → Option (σ × Bool)} {l : List aM} (hl : okL l) {s s' : σ} (h : itG y (if nJ l then groups l else []) s = some s') : rX y l s = some s' := by
  unfold rX
  rw [aB3 hl]
  cases hm : nJ l
  · rw [hm] at h
    simp only [Bool.false_eq_true, if_false, itG] at h
    simpa using h
  · rw [hm] at h
    simp only [if_true] at h
    simp only [Option.bind_some, Bool.not_true, cond_false, wB, tR]
    obtain ⟨x, h1, h2⟩ := QC l (groups l) s s' h
    rw [aBE hl h1]
    cases x <;> simpa using h2

theorem aCZ (r : List aE) (f : List aD) : (nC r f).length = f.length := by simp [nC]

def aAD (r : List aE) (f : List aD) : List aM := if oD r && eZ f then nC r f else []

theorem aCU {r : List aE} (hr : r.length ≤ 4398046510976) (f : List aD) : xM r f = some (aAD r f) := by
  unfold xM aAD
  rw [LM]
  cases h1 : oD r
  · simp [cZ]
  · simp only [Option.bind_some, Bool.not_true, Bool.not_false, cZ, cond_true, GK, Bool.false_or, Bool.true_and]
    cases h2 : eZ f
    · simp
    · rw [put_eq hr (by have := (mY.1 h2).1; simp; omega)]
      simp

theorem RQ (gs : List (List aE × List aD)) : (flat gs).length = (gs.map fun g => g.2.length).sum := by
  induction gs with
  | nil => rfl
  | cons g gs ih => rw [tQ, List.length_append, aCZ, ih]; simp

theorem BW {l : List aM} (hm : nJ l = true) {e : aM} (he : e ∈ l) : oD e.Row = true ∧ -2 < e.At ∧ e.At < 1125899906842624 ∧ e.Net ≠ 0 ∧ e.Net ≤ 1048576 ∧ -1048576 ≤ e.Net := by
  obtain ⟨_, h2, _⟩ := lT hm
  have he' : e ∈ flat (groups l) := by rw [rE]; exact he
  obtain ⟨g, hg, h1⟩ := List.mem_flatMap.1 he'
  obtain ⟨j, hj, rfl⟩ := List.mem_map.1 h1
  obtain ⟨a, b⟩ := h2 g hg
  exact ⟨a, (mY.1 b).2.above j hj⟩

theorem aBu {l : List aM} (hm : nJ l = true) : l.any unE = false ∧ l.any UP = false := by
  refine ⟨List.any_eq_false.2 fun e he => ?_, List.any_eq_false.2 fun e he => ?_⟩
  · obtain ⟨h1, h2, h3, h4, h5, h6⟩ := BW hm he
    simp only [unE, h1, Bool.not_true, Bool.false_or, Bool.or_eq_true, decide_eq_true_eq]
    omega
  · obtain ⟨h1, h2, h3, h4, h5, h6⟩ := BW hm he
    simp only [UP, Bool.or_eq_true, decide_eq_true_eq]
    omega

theorem nS {l : List aM} (hm : nJ l = true) (r : List aE) : eZ (bU l r) = true := by
  rw [← pW (lT hm).2.2]; exact aC4 hm r

theorem VI {f : List aD} (h : ∀ j ∈ f, j.Net ≤ 1048576 ∧ -1048576 ≤ j.Net) : f.any LF = false :=
  List.any_eq_false.2 fun j hj => by have := h j hj; simp [LF, PK]; omega

theorem aBP {f : List aD} (h : ∀ j ∈ f, -2 < j.At ∧ j.At ≤ 1125899906842624) : f.any OY = false :=
  List.any_eq_false.2 fun j hj => by have := h j hj; simp [OY]; omega

theorem aED {f h : List aD} (h1 : f.any LF = false) (h2 : f.any OY = false) (hh : eZ h = true) (hv : ∀ t, -2 < t → t < 1125899906842624 → val h t = val f t) : iU f = (h, 0) := by
  unfold iU
  rw [if_neg (by simp [h1]), if_neg (by simp [h2]), aEm (fun j hj => (ZL h2 j hj).1) (YC hh) hv]
  unfold told
  rw [if_pos hh]

end Go.Abs
namespace Go.Abs
open Go
theorem aBJ {c : Int} : ∀ {l : List Int} {m : Int}, c ≤ l.foldl mn m ↔ c ≤ m ∧ ∀ x ∈ l, c ≤ x
  | [], m => by simp
  | a :: l, m => by
    rw [List.foldl_cons, aBJ]
    unfold mn
    constructor
    · rintro ⟨h1, h2⟩
      have h3 : c ≤ m ∧ c ≤ a := by split at h1 <;> omega
      refine ⟨h3.1, fun x hx => ?_⟩
      rcases List.mem_cons.1 hx with rfl | hx
      · exact h3.2
      · exact h2 x hx
    · rintro ⟨h1, h2⟩
      have := h2 a (by simp)
      exact ⟨by split <;> omega, fun x hx => h2 x (by simp [hx])⟩

theorem WJ {t : Int} : ∀ {f : List aD} {l v : Int}, pM l f → v + val f t = v ∨ v + val f t ∈ parts v f
  | [], l, v, _ => .inl (by simp [val])
  | j :: r, l, v, h => by
    unfold parts
    rw [eD]
    by_cases e : j.At ≤ t
    · rw [if_pos e]
      right
      rcases WJ (t := t) (v := v + j.Net) h.2 with h1 | h1
      · rw [show v + (j.Net + val r t) = v + j.Net by omega]; simp
      · rw [show v + (j.Net + val r t) = v + j.Net + val r t by omega]; exact List.mem_cons_of_mem _ h1
    · left
      rw [if_neg e, h.2.qK (by omega)]; omega

theorem JD {f : List aD} (hf : eZ f = true) : 0 ≤ HC f ↔ ∀ t, 0 ≤ val f t := by
  have hr := (mY.1 hf).2
  unfold HC
  rw [aBJ]
  constructor
  · rintro ⟨_, h2⟩ t
    rcases WJ (t := t) (v := 0) hr with h | h
    · omega
    · rw [parts_eq hr] at h
      obtain ⟨j, hj, h⟩ := List.mem_map.1 h
      have := h2 _ (List.mem_map.2 ⟨j, hj, rfl⟩)
      omega
  · intro h
    refine ⟨h _, fun x hx => ?_⟩
    obtain ⟨j, _, rfl⟩ := List.mem_map.1 hx
    exact h _

theorem oZ {l : List aM} : qM l = true ↔ nJ l = true ∧ ∀ r t, 0 ≤ val (bU l r) t := by
  constructor
  · intro h
    unfold qM at h
    rw [Bool.and_eq_true, BM] at h
    obtain ⟨h1, h2, h3, _⟩ := h
    have hm : nJ l = true := by
      unfold nJ
      rw [Bool.and_eq_true]
      exact ⟨h1, BM.2 ⟨fun g hg => ⟨(h2 g hg).1, by have := (h2 g hg).2; unfold aB7 at this; rw [Bool.and_eq_true] at this; exact this.1⟩, h3, fun q hq => by cases hq⟩⟩
    refine ⟨hm, fun r => ?_⟩
    rw [← pW h3]
    rcases tL (groups l) r with ⟨e, _⟩ | ⟨g, hg, _, e⟩
    · rw [e]; intro t; simp [val]
    · rw [e]
      have := (h2 g hg).2
      unfold aB7 at this
      rw [Bool.and_eq_true, decide_eq_true_eq] at this
      exact (JD this.1).1 this.2
  · rintro ⟨hm, h⟩
    obtain ⟨h1, h2, h3⟩ := lT hm
    unfold qM
    rw [Bool.and_eq_true]
    refine ⟨by simpa using h1, BM.2 ⟨fun g hg => ⟨(h2 g hg).1, ?_⟩, h3, fun q hq => by cases hq⟩⟩
    unfold aB7
    rw [Bool.and_eq_true, decide_eq_true_eq]
    refine ⟨(h2 g hg).2, (JD (h2 g hg).2).2 ?_⟩
    have : g.2 = bU l g.1 := by rw [← pW h3, uA h3 hg]
    rw [this]; exact h g.1

theorem WB {f : List aD} (hu : Up (-2) f) (h : ∀ t, -2 < t → t < 1125899906842624 → 0 ≤ val f t) : ∀ t, 0 ≤ val f t := by
  intro t
  by_cases h1 : -2 < t
  · by_cases h2 : t < 1125899906842624
    · exact h t h1 h2
    · have := IN (s := 1125899906842623) (t := t) (by omega) (f := f) (fun j hj => by have := (hu.above j hj); omega)
      rw [← this]; exact h _ (by omega) (by omega)
  · rw [hu.qK (by omega)]; omega

theorem DV {l : List aM} (h : (eF l).2 = 0) (r : List aE) : bU (eF l).1 r = FM (bU l r) := by
  rw [← pW (lT (wX h)).2.2, SD h, (GL (MV h r)).2.2.2]

theorem HH {l : List aM} (h : (eF l).2 = 0) (r : List aE) : ∀ j ∈ bU l r, -2 < j.At :=
  fun j hj => (ZL (GL (MV h r)).2.1 j hj).1

theorem JJ {l : List aM} (h : (eF l).2 = 0) (r : List aE) {t : Int} (h1 : -2 < t) (h2 : t < 1125899906842624) : val (bU (eF l).1 r) t = val (bU l r) t := by
  rw [DV h, NS (HH h r) h1 h2]

theorem PY {l : List aM} (h : (eF l).2 = 0) (hv : ∀ r t, -2 < t → t < 1125899906842624 → 0 ≤ val (bU l r) t) : qM (eF l).1 = true := by
  refine oZ.2 ⟨wX h, fun r => ?_⟩
  rw [DV h]
  refine WB (YL (HH h r)) fun t h1 h2 => ?_
  rw [NS (HH h r) h1 h2]; exact hv r t h1 h2

end Go.Abs
namespace Go.Abs
open Go
theorem aAc (f : List aD) : (told f).2 = 0 ∨ (told f).2 = 7 := by unfold told; split <;> simp

end Go.Abs
namespace Go.Abs
open Go
def zI (n : Nat) : List Int := if n < 128 then [(n : Int)] else ((n % 128 + 128 : Nat) : Int) :: zI (n / 128)

termination_by n
decreasing_by omega
theorem BO {n : Nat} (h : n < 128) : zI n = [(n : Int)] := by rw [zI, if_pos h]

theorem DP {n : Nat} (h : ¬ n < 128) : zI n = ((n % 128 + 128 : Nat) : Int) :: zI (n / 128) := by rw [zI, if_neg h]

theorem ZD : ∀ (k n : Nat), n < 128 ^ (k + 1) → (zI n).length ≤ k + 1
  | 0, n, h => by rw [BO (by simpa using h)]; simp
  | k + 1, n, h => by
    by_cases hn : n < 128
    · rw [BO hn]; simp
    · rw [DP hn, List.length_cons]
      have := ZD k (n / 128) (by rw [Nat.pow_succ] at h; exact Nat.div_lt_of_lt_mul (by omega))
      omega

theorem CM {n : Nat} (h : n < 18446744073709551616) : (zI n).length ≤ 10 := ZD 9 n (Nat.lt_of_lt_of_le h (by decide))

theorem TQ : ∀ (n : Nat), ∀ x ∈ zI n, 0 ≤ x ∧ x < 256 := by
  intro n
  induction n using Nat.strongRecOn with
  | _ n ih =>
    intro x hx
    by_cases hn : n < 128
    · rw [BO hn] at hx
      simp at hx; omega
    · rw [DP hn] at hx
      rcases List.mem_cons.1 hx with rfl | hx
      · omega
      · exact ih (n / 128) (by omega) x hx

theorem aAa : ∀ (n m : Nat) (s t : List Int), zI n ++ s = zI m ++ t → n = m ∧ s = t := by
  intro n
  induction n using Nat.strongRecOn with
  | _ n ih =>
    intro m s t h
    by_cases hn : n < 128 <;> by_cases hm : m < 128
    · rw [BO hn, BO hm] at h
      simp at h
      exact ⟨by omega, h.2⟩
    · rw [BO hn, DP hm] at h
      simp only [List.cons_append, List.nil_append, List.cons.injEq] at h
      omega
    · rw [DP hn, BO hm] at h
      simp only [List.cons_append, List.nil_append, List.cons.injEq] at h
      omega
    · rw [DP hn, DP hm] at h
      simp only [List.cons_append, List.cons.injEq] at h
      obtain ⟨e1, e2⟩ := ih (n / 128) (by omega) (m / 128) s t h.2
      exact ⟨by omega, e2⟩

theorem ZV (n : Nat) : IntKind.u8.wrap (n : Int) = ((n % 256 : Nat) : Int) := by
  simp only [IntKind.wrap, IntKind.bits, IntKind.signed]
  simp

theorem GH (x : Int) : IntKind.u64.wrap x = x % 18446744073709551616 := by
  simp only [IntKind.wrap, IntKind.bits, IntKind.signed]
  simp

theorem aFL : ∀ m : Fin 256, bM .or .u8 (m.val : Int) 128 = ((m.val % 128 + 128 : Nat) : Int) := by decide +kernel

theorem aHq (n : Nat) : Int.fdiv (n : Int) (2 ^ (min (Int.toNat (7 : Int)) 64)) = ((n / 128 : Nat) : Int) := by
  have e : (2 : Int) ^ (min (Int.toNat (7 : Int)) 64) = ((128 : Nat) : Int) := rfl
  rw [e, Int.fdiv_eq_ediv_of_nonneg _ (by omega)]
  rfl

theorem aDG : ∀ (n : Nat) (out : List Int), out.length + (zI n).length ≤ 1000 → (lp (fun s : Int × List Int => tD s.1 s.2) ((n : Int), out)).bind (fun rr => tG rr.1 rr.2) = some (out ++ zI n) := by
  intro n
  induction n using Nat.strongRecOn with
  | _ n ih =>
    intro out hl
    by_cases hn : n < 128
    · rw [BO hn] at hl ⊢
      rw [dI (r := ((n : Int), out)) (by simp only [tD]; rw [show decide ((128 : Int) ≤ (n : Int)) = false from by simp; omega]; rfl)]
      simp only [Option.bind_some, tG]
      rw [aQ (by simp at hl ⊢; omega), ZV]
      congr 4
      simp; omega
    · rw [DP hn] at hl ⊢
      rw [List.length_cons] at hl
      have hb : bM .or .u8 (IntKind.u8.wrap (n : Int)) 128 = ((n % 128 + 128 : Nat) : Int) := by
        rw [ZV]
        have := aFL ⟨n % 256, by omega⟩
        simp only at this
        rw [this]
        congr 2; omega
      rw [kL (s' := (((n / 128 : Nat) : Int), out ++ [((n % 128 + 128 : Nat) : Int)])) (by
        simp only [tD]
        rw [show decide ((128 : Int) ≤ (n : Int)) = true from by simp; omega, hb, aHq, aQ (by simp; omega), aQ (by decide)]
        rfl)]
      rw [ih (n / 128) (by omega) _ (by simp; omega)]
      simp

theorem SW {n : Nat} (h : n < 18446744073709551616) : xH (n : Int) = some (zI n) := by
  have := CM h
  exact aDG n [] (by simp; omega)

def zig (n : Int) : Nat := if 0 ≤ n then (2 * n).toNat else (-2 * n - 1).toNat

theorem aGb {n m : Int} (h : zig n = zig m) : n = m := by
  unfold zig at h
  split at h <;> split at h <;> omega

theorem aAj {n : Int} (h : tY n) : zig n < 18446744073709551616 := by
  unfold zig; obtain ⟨h1, h2⟩ := h
  split <;> omega

theorem EY (x : Int) : (BitVec.ofInt 64 x).toNat = (x % 18446744073709551616).toNat := by
  rw [BitVec.toNat_ofInt]; rfl

theorem aGW {n : Int} (h : tY n) : bM .xor .u64 (IntKind.u64.wrap ((IntKind.u64.wrap n) * 2 ^ (min (Int.toNat (1 : Int)) 64))) (IntKind.u64.wrap (Int.fdiv n (2 ^ (min (Int.toNat (63 : Int)) 64)))) = ((zig n : Nat) : Int) := by
  obtain ⟨h1, h2⟩ := h
  have e1 : (2 : Int) ^ (min (Int.toNat (1 : Int)) 64) = 2 := rfl
  have e63 : (2 : Int) ^ (min (Int.toNat (63 : Int)) 64) = 9223372036854775808 := rfl
  rw [e1, e63, GH, GH, GH, Int.fdiv_eq_ediv_of_nonneg _ (by omega)]
  unfold zig
  by_cases hn : 0 ≤ n
  · rw [if_pos hn]
    have d0 : n / 9223372036854775808 = 0 := by omega
    rw [d0]
    show IntKind.u64.wrap ((BitVec.ofInt 64 _ ^^^ BitVec.ofInt 64 0).toNat : Int) = _
    rw [BitVec.toNat_xor, EY, EY, GH]
    have a0 : ((0 : Int) % 18446744073709551616 % 18446744073709551616).toNat = 0 := rfl
    have a1 : (0 : Int) % 18446744073709551616 = 0 := rfl
    rw [a1]
    have a2 : Int.toNat 0 = 0 := rfl
    rw [a2, Nat.xor_zero]
    omega
  · rw [if_neg hn]
    have d0 : n / 9223372036854775808 = -1 := by omega
    rw [d0]
    show IntKind.u64.wrap ((BitVec.ofInt 64 _ ^^^ BitVec.ofInt 64 _).toNat : Int) = _
    have hall : BitVec.ofInt 64 ((-1 : Int) % 18446744073709551616) = BitVec.allOnes 64 := by decide
    rw [hall, BitVec.xor_allOnes, BitVec.toNat_not, EY, GH]
    omega

def tO (v : aE) : List Int := if KS v then 1 :: zI (zig v.Num) else 2 :: (zI v.Text.size ++ v.Text.data.toList.map fun b => ((UInt8.toNat b : Nat) : Int))

def rOk (r : List aE) : Prop := oD r = true ∧ ∀ v ∈ r, tY v.Num

theorem aCj {v : aE} (hv : xU v = true) (hn : tY v.Num) : (tO v).length ≤ 80 := by
  unfold tO
  split
  · have := CM (aAj hn); simp only [List.length_cons]; omega
  · have h1 := WH hv
    have h2 := CM (n := v.Text.size) (by omega)
    simp only [List.length_cons, List.length_append, List.length_map, Array.length_toList]
    have : v.Text.data.size = v.Text.size := rfl
    omega

theorem aBh {v : aE} (hv : xU v = true) (hn : tY v.Num) : vT v = some (tO v) := by
  unfold vT
  rw [of_eq]
  unfold tO
  rcases GD hv with h | ⟨h, hw⟩
  · rw [if_pos h, if_pos h]
    have := CM (aAj hn)
    simp only [Option.bind_some, Bool.not_true, cond_false, qN, JL]
    rw [aQ (by decide), aQ (by decide), aGW hn, SW (aAj hn)]
    simp only [Option.bind_some]
    rw [aQ (by simp; omega)]
    simp
  · rw [if_neg (by simp [h]), if_pos hw, if_neg (by simp [h])]
    have h1 := WH hv
    have h2 := CM (n := v.Text.size) (by omega)
    simp only [Option.bind_some, Bool.not_true, cond_false, qV, FZ, JB]
    rw [show decide (((ByteArray.size v.Text : Nat) : Int) < (0 : Int)) = false from by simp]
    simp only [cond_false]
    rw [GH, Int.emod_eq_of_lt (by omega) (by omega), SW (by omega)]
    simp only [Option.bind_some]
    have hs : v.Text.data.size = v.Text.size := rfl
    rw [aQ (by omega)]
    simp only [Option.bind_some]
    rw [aQ (by simp; omega)]
    simp

def SE (r : List aE) : List Int := (r.length : Int) :: r.flatMap tO

def keyOf (r : List aE) : ByteArray := strOfNums (SE r)

theorem aBi {r : List aE} (h : rOk r) : zW r = some (SE r) := by
  obtain ⟨hm, hn⟩ := h
  obtain ⟨h8, hv⟩ := DC hm
  unfold zW
  rw [LM, hm]
  simp only [Option.bind_some, Bool.not_true, cond_false, BU]
  rw [ZV, show r.length % 256 = r.length by omega]
  rw [DJ (l := r) (st := List Int) (fun s i => (s, i)) (fun s q => s ++ q.flatMap tO) (fun s q => s.length + 80 * q.length ≤ 1000 ∧ ∀ v ∈ q, xU v = true ∧ tY v.Num) [(r.length : Int)] ?_ ?_ ⟨by simp; omega, fun v hv' => ⟨hv v hv', hn v hv'⟩⟩]
  · rfl
  · intro i a q s hi hinv
    obtain ⟨h1, h2⟩ := hinv
    have hlt := (List.getElem?_eq_some_iff.1 hi).1
    obtain ⟨ha, hb⟩ := h2 a (List.mem_cons_self ..)
    have hl := aCj ha hb
    rw [List.length_cons] at h1
    refine .inl ⟨s ++ tO a, ?_, ⟨by simp; omega, fun v hv' => h2 v (List.mem_cons_of_mem _ hv')⟩, by simp⟩
    simp only [xJ]
    rw [show decide ((i : Int) < (r.length : Int)) = true from by simp; omega]
    simp only [cond_true]
    rw [aQ (by omega), Int.toNat_natCast, List.getD_eq_getElem?_getD, hi, Option.getD_some, aBh ha hb]
    simp only [Option.bind_some]
    rw [aQ (by omega), eH (by omega) (by omega)]
    rfl
  · intro s _
    simp only [xJ]
    rw [show decide ((r.length : Int) < (r.length : Int)) = false from by simp]
    simp

theorem WV {r : List aE} (h : rOk r) : BG r = some (keyOf r) := by
  unfold BG
  rw [aBi h]; rfl

theorem bytes_inj {a b : ByteArray} (h : a.data.toList.map (fun b => ((UInt8.toNat b : Nat) : Int)) = b.data.toList.map fun b => ((UInt8.toNat b : Nat) : Int)) : a = b := by
  refine data_inj ?_
  refine (List.map_inj_right ?_).1 h
  intro x y e
  exact UInt8.toNat_inj.1 (by omega)

theorem aB8 {v w : aE} (hv : xU v = true) (hw : xU w = true) {s t : List Int} (h : tO v ++ s = tO w ++ t) : v = w ∧ s = t := by
  unfold tO at h
  rcases GD hv with h1 | ⟨h1, h1'⟩ <;> rcases GD hw with h2 | ⟨h2, h2'⟩
  · rw [if_pos h1, if_pos h2] at h
    simp only [List.cons_append, List.cons.injEq, true_and] at h
    obtain ⟨e1, e2⟩ := aAa _ _ _ _ h
    obtain ⟨a1, a2⟩ := CV h1
    obtain ⟨b1, b2⟩ := CV h2
    refine ⟨?_, e2⟩
    obtain ⟨vk, vn, vt⟩ := v
    obtain ⟨wk, wn, wt⟩ := w
    simp only at *
    rw [a1, b1, a2, b2, aGb e1]
  · rw [if_pos h1, if_neg (by simp [h2])] at h
    simp at h
  · rw [if_neg (by simp [h1]), if_pos h2] at h
    simp at h
  · rw [if_neg (by simp [h1]), if_neg (by simp [h2])] at h
    simp only [List.cons_append, List.append_assoc, List.cons.injEq, true_and] at h
    obtain ⟨e1, e2⟩ := aAa _ _ _ _ h
    obtain ⟨a1, a2, _⟩ := AV h1'
    obtain ⟨b1, b2, _⟩ := AV h2'
    have hs : v.Text.data.toList.length = w.Text.data.toList.length := by
      have x1 : v.Text.data.size = v.Text.size := rfl
      have x2 : w.Text.data.size = w.Text.size := rfl
      simp only [Array.length_toList]; omega
    obtain ⟨e3, e4⟩ := List.append_inj e2 (by simpa using hs)
    have e5 := bytes_inj e3
    refine ⟨?_, e4⟩
    obtain ⟨vk, vn, vt⟩ := v
    obtain ⟨wk, wn, wt⟩ := w
    simp only at *
    rw [a1, b1, a2, b2, e5]

theorem TX : ∀ {r s : List aE}, r.length = s.length → (∀ v ∈ r, xU v = true) → (∀ v ∈ s, xU v = true) → r.flatMap tO = s.flatMap tO → r = s
  | [], [], _, _, _, _ => rfl
  | [], _ :: _, h, _, _, _ => by simp at h
  | _ :: _, [], h, _, _, _ => by simp at h
  | v :: r, w :: s, hl, hr, hs, h => by
    simp only [List.flatMap_cons] at h
    obtain ⟨e1, e2⟩ := aB8 (hr v (List.mem_cons_self ..)) (hs w (List.mem_cons_self ..)) h
    rw [e1, TX (by simpa using hl) (fun x hx => hr x (List.mem_cons_of_mem _ hx)) (fun x hx => hs x (List.mem_cons_of_mem _ hx)) e2]

theorem aAL (v : aE) : ∀ x ∈ tO v, 0 ≤ x ∧ x < 256 := by
  intro x hx
  unfold tO at hx
  split at hx
  · rcases List.mem_cons.1 hx with rfl | hx
    · omega
    · exact TQ _ x hx
  · rcases List.mem_cons.1 hx with rfl | hx
    · omega
    · rcases List.mem_append.1 hx with hx | hx
      · exact TQ _ x hx
      · obtain ⟨b, _, rfl⟩ := List.mem_map.1 hx
        have := b.toNat_lt
        omega

theorem aDZ : ∀ {a b : List Int}, (∀ x ∈ a, 0 ≤ x ∧ x < 256) → (∀ x ∈ b, 0 ≤ x ∧ x < 256) → strOfNums a = strOfNums b → a = b := by
  intro a b ha hb h
  have h' := congrArg (fun x : ByteArray => x.data.toList) h
  simp only [strOfNums_data] at h'
  clear h
  induction a generalizing b with
  | nil => cases b with
    | nil => rfl
    | cons y b => simp at h'
  | cons x a ih => cases b with
    | nil => simp at h'
    | cons y b =>
      simp only [List.map_cons, List.cons.injEq] at h'
      obtain ⟨h1, h2⟩ := ha x (List.mem_cons_self ..)
      obtain ⟨h3, h4⟩ := hb y (List.mem_cons_self ..)
      have e := congrArg UInt8.toNat h'.1
      rw [UInt8.toNat_ofNat', UInt8.toNat_ofNat'] at e
      rw [ih (fun z hz => ha z (List.mem_cons_of_mem _ hz)) (fun z hz => hb z (List.mem_cons_of_mem _ hz)) h'.2, show x = y by omega]

theorem JG {r s : List aE} (hr : oD r = true) (hs : oD s = true) (h : keyOf r = keyOf s) : r = s := by
  obtain ⟨r8, rv⟩ := DC hr
  obtain ⟨s8, sv⟩ := DC hs
  have rg : ∀ {q : List aE}, q.length ≤ 8 → ∀ x ∈ SE q, 0 ≤ x ∧ x < 256 := by
    intro q hq x hx
    rcases List.mem_cons.1 hx with rfl | hx
    · omega
    · obtain ⟨v, _, hv⟩ := List.mem_flatMap.1 hx
      exact aAL v x hv
  have e := aDZ (rg r8) (rg s8) h
  simp only [SE, List.cons.injEq] at e
  exact TX (by omega) rv sv e.2

end Go.Abs
namespace Go.Abs
open Go
def OR {α β : Type} (R : α → β → Prop) : Option α → Option β → Prop
  | none, none => True
  | some a, some b => R a b
  | _, _ => False

theorem cP {α β γ δ : Type} {R : α → β → Prop} {S : γ → δ → Prop} {a : Option α} {b : Option β} {f : α → Option γ} {g : β → Option δ}
    (h : OR R a b) (k : ∀ x y, R x y → OR S (f x) (g y)) : OR S (a.bind f) (b.bind g) := by
  cases a <;> cases b
  · trivial
  · exact h.elim
  · exact h.elim
  · exact k _ _ h

theorem cH {α β : Type} {R : α → β → Prop} {a : α} {b : β} (h : R a b) : OR R (some a) (some b) := h

theorem aFx {α : Type} : ∀ a : Option α, OR Eq a a
  | none => trivial
  | some _ => rfl

theorem bL {α β : Type} {R : α → β → Prop} {p : Prop} {a : Option α} {b : Option β} (h : p → OR R a b) : OR R (aT p a) (aT p b) := by
  by_cases hp : p
  · rw [aQ hp, aQ hp]; exact h hp
  · unfold aT; rw [if_neg hp, if_neg hp]; trivial

theorem dN {α β : Type} {R : α → β → Prop} {c : Bool} {a a' : Option α} {b b' : Option β} (h : c = true → OR R a b) (h' : c = false → OR R a' b') : OR R (cond c a a') (cond c b b') := by
  cases c
  · exact h' rfl
  · exact h rfl

def rC (x : Int) (b : Bool) : Prop := decide (x < 0) = b

theorem uD {c : Bool} {a : Option Int} {b : Option Bool} (h : c = true → OR rC a b) : OR rC (cZ c a) (cZ c b) := by
  cases c
  · exact (rfl : decide ((0 : Int) < 0) = false)
  · exact h rfl

def rS {α β γ δ : Type} (R : α → β → Prop) (S : γ → δ → Prop) : α ⊕ γ → β ⊕ δ → Prop
  | .inl a, .inl b => R a b
  | .inr a, .inr b => S a b
  | _, _ => False

theorem UQ {S T A B : Type} {R : S → T → Prop} {Q : A → B → Prop} {f : S → Option (S ⊕ A)} {g : T → Option (T ⊕ B)}
    (h : ∀ s t, R s t → OR (rS R Q) (f s) (g t)) : ∀ k s t, R s t → OR Q (iter f k s) (iter g k t)
  | 0, _, _, _ => trivial
  | k + 1, s, t, r => by
    have := h s t r
    simp only [iter]
    cases e : f s with
    | none =>
      cases e' : g t with
      | none => trivial
      | some y => rw [e, e'] at this; exact this.elim
    | some x =>
      cases e' : g t with
      | none => rw [e, e'] at this; exact this.elim
      | some y =>
        rw [e, e'] at this
        cases x <;> cases y
        · exact UQ h k _ _ this
        · exact this.elim
        · exact this.elim
        · exact this

theorem aCc {α β : Type} {R : α → β → Prop} {a : Option α} {b : Option β} (h : OR R a b) : (a = none ∧ b = none) ∨ ∃ x y, a = some x ∧ b = some y ∧ R x y := by
  cases a <;> cases b
  · exact .inl ⟨rfl, rfl⟩
  · exact h.elim
  · exact h.elim
  · exact .inr ⟨_, _, rfl, rfl, h⟩

theorem rM {S T A B : Type} {R : S → T → Prop} {Q : A → B → Prop} {f : S → Option (S ⊕ A)} {g : T → Option (T ⊕ B)}
    (h : ∀ s t, R s t → OR (rS R Q) (f s) (g t)) {s : S} {t : T} (r : R s t) : OR Q (lp f s) (lp g t) := by
  cases e : lp f s with
  | none =>
    cases e' : lp g t with
    | none => trivial
    | some y =>
      obtain ⟨k, hk⟩ := BQ.1 e'
      rcases aCc (UQ h k s t r) with ⟨_, h2⟩ | ⟨x, _, h1, _, _⟩
      · rw [hk] at h2; cases h2
      · rw [BQ.2 ⟨k, h1⟩] at e; cases e
  | some x =>
    obtain ⟨k, hk⟩ := BQ.1 e
    rcases aCc (UQ h k s t r) with ⟨h1, _⟩ | ⟨x', y, h1, h2, h3⟩
    · rw [hk] at h1; cases h1
    · rw [hk] at h1; cases h1
      rw [BQ.2 ⟨k, h2⟩]; exact h3

theorem aB2 {C : Type} {U : C → Prop} {d : List C} (h : ∀ x ∈ d, U x) {v : C} (hv : U v) (i : Nat) : ∀ x ∈ d.set i v, U x := by
  intro x hx
  rcases List.mem_or_eq_of_mem_set hx with h1 | rfl
  · exact h x h1
  · exact hv

theorem cS {C : Type} {k : C → Int} (d : List C) (i : Nat) (v : C) : (d.map k).set i (k v) = (d.set i v).map k := by rw [List.map_set]

section
variable {C : Type} [Inhabited C] (k : C → Int) (U : C → Prop)
def rL (a : List C) (b : List Int) : Prop := b = a.map k ∧ ∀ x ∈ a, U x

def rP {α β γ δ : Type} (R : α → β → Prop) (S : γ → δ → Prop) (a : α × γ) (b : β × δ) : Prop := R a.1 b.1 ∧ S a.2 b.2

structure cR (cmp : C → C → Option Int) : Prop where
  d0 : k default = 0
  c : ∀ x y, (U x ∨ x = default) → (U y ∨ y = default) → ∃ n, cmp x y = some n ∧ (n < 0 ↔ k x < k y)

variable {k U}
theorem iA {d : List C} (h : ∀ x ∈ d, U x) (i : Nat) : U (d.getD i default) ∨ d.getD i default = default := by
  rw [List.getD_eq_getElem?_getD]
  by_cases hi : i < d.length
  · rw [List.getElem?_eq_getElem hi]; exact .inl (h _ (List.getElem_mem hi))
  · rw [List.getElem?_eq_none (Nat.le_of_not_lt hi)]; exact .inr rfl

theorem aBG {d : List C} (h : ∀ x ∈ d, U x) {i : Int} (hi : 0 ≤ i ∧ i < ((List.length d : Nat) : Int)) : U (d.getD (Int.toNat i) default) := by
  have hi' : i.toNat < d.length := by omega
  rw [List.getD_eq_getElem?_getD, List.getElem?_eq_getElem hi']
  exact h _ (List.getElem_mem hi')

theorem cA {d : List C} (h : ∀ x ∈ d, U x) {i j : Int} (hi : 0 ≤ i ∧ i < ((List.length d : Nat) : Int)) (hj : 0 ≤ j ∧ j < ((List.length d : Nat) : Int)) :
    ∀ x ∈ List.set (List.set d (Int.toNat i) (List.getD d (Int.toNat j) default)) (Int.toNat j) (List.getD d (Int.toNat i) default), U x :=
  aB2 (aB2 h (aBG h hj) _) (aBG h hi) _

theorem cD (hk : k default = 0) (d : List C) (i : Nat) : (d.map k).getD i default = k (d.getD i default) := by
  rw [List.getD_eq_getElem?_getD, List.getD_eq_getElem?_getD, List.getElem?_map]
  cases d[i]? with
  | none => exact hk.symm
  | some _ => rfl

end
theorem oE {C : Type} {k : C → Int} {U : C → Prop} {d : List C} (h : ∀ x ∈ d, U x) : rL k U d (d.map k) := ⟨rfl, h⟩

end Go.Abs
namespace Go.Abs
open Go
abbrev gN (d : List Int) (i : Nat) : Int := d.getD i default

def swp (d : List Int) (i j : Nat) : List Int := (d.set i (gN d j)).set j (gN d i)

theorem aDK {d : List Int} {i k : Nat} {x : Int} (h : i < d.length) : gN (d.set i x) k = if k = i then x else gN d k := by
  simp only [gN, List.getD_eq_getElem?_getD, List.getElem?_set]
  by_cases e : i = k
  · subst e; simp [h]
  · rw [if_neg e, if_neg (fun h => e h.symm)]

theorem kY (d : List Int) (i j : Nat) : (swp d i j).length = d.length := by simp [swp]

theorem wD {d : List Int} {i j : Nat} (hi : i < d.length) (hj : j < d.length) (k : Nat) : gN (swp d i j) k = if k = j then gN d i else if k = i then gN d j else gN d k := by
  unfold swp
  rw [aDK (by simpa using hj), aDK hi]

theorem aES {d : List Int} {i j : Nat} (hi : i < d.length) (hj : j < d.length) : (swp d i j).Perm d := by
  have h1 : gN d i = d[i] := by simp [gN, List.getD_eq_getElem?_getD, List.getElem?_eq_getElem hi]
  have h2 : gN d j = d[j] := by simp [gN, List.getD_eq_getElem?_getD, List.getElem?_eq_getElem hj]
  unfold swp
  rw [h1, h2]
  exact List.set_set_perm hi hj

structure Rel (a b : Nat) (d d' : List Int) : Prop where
  len : d'.length = d.length
  perm : d'.Perm d
  out : ∀ k, k < a ∨ b ≤ k → gN d' k = gN d k
  src : ∀ k, a ≤ k → k < b → ∃ k', a ≤ k' ∧ k' < b ∧ gN d' k = gN d k'

theorem Rel.refl (a b : Nat) (d : List Int) : Rel a b d d := ⟨rfl, .refl _, fun _ _ => rfl, fun k h1 h2 => ⟨k, h1, h2, rfl⟩⟩

theorem Rel.trans {a b : Nat} {d d' d'' : List Int} (h : Rel a b d d') (h' : Rel a b d' d'') : Rel a b d d'' :=
  ⟨h'.len.trans h.len, h'.perm.trans h.perm, fun k hk => (h'.out k hk).trans (h.out k hk), fun k h1 h2 => by
    obtain ⟨k1, a1, a2, a3⟩ := h'.src k h1 h2
    obtain ⟨k2, b1, b2, b3⟩ := h.src k1 a1 a2
    exact ⟨k2, b1, b2, a3.trans b3⟩⟩

theorem Rel.mono {a b a' b' : Nat} {d d' : List Int} (h : Rel a b d d') (h1 : a' ≤ a) (h2 : b ≤ b') : Rel a' b' d d' :=
  ⟨h.len, h.perm, fun k hk => h.out k (by omega), fun k k1 k2 => by
    by_cases hk : a ≤ k ∧ k < b
    · obtain ⟨k', c1, c2, c3⟩ := h.src k hk.1 hk.2
      exact ⟨k', by omega, by omega, c3⟩
    · exact ⟨k, k1, k2, h.out k (by omega)⟩⟩

theorem Rel.swp {a b : Nat} {d : List Int} {i j : Nat} (hi : i < d.length) (hj : j < d.length) (h1 : a ≤ i ∧ i < b) (h2 : a ≤ j ∧ j < b) : Rel a b d (swp d i j) :=
  ⟨kY .., aES hi hj, fun k hk => by rw [wD hi hj, if_neg (by omega), if_neg (by omega)], fun k k1 k2 => by
    rw [wD hi hj]
    split
    · exact ⟨i, h1.1, h1.2, rfl⟩
    · split
      · exact ⟨j, h2.1, h2.2, rfl⟩
      · exact ⟨k, k1, k2, rfl⟩⟩

theorem Rel.all {a b : Nat} {d d' : List Int} (h : Rel a b d d') {p : Int → Prop} (hp : ∀ k, a ≤ k → k < b → p (gN d k)) : ∀ k, a ≤ k → k < b → p (gN d' k) := fun k k1 k2 => by
  obtain ⟨k', c1, c2, c3⟩ := h.src k k1 k2
  rw [c3]; exact hp k' c1 c2

def sW (a b : Nat) (d : List Int) : Prop := ∀ p q, a ≤ p → p ≤ q → q < b → gN d p ≤ gN d q

theorem uC (a b : Int) : dY a b = some (decide (a < b)) := by simp [dY, pP, cZ]

theorem wrN {x : Int} {n : Nat} (h : x = (n : Int)) (hn : n ≤ 9000000000000000000) : IntKind.i64.wrap x = (n : Int) := by
  rw [eH (by omega) (by omega), h]

theorem asN {i n : Nat} (h : i < n) : 0 ≤ (i : Int) ∧ (i : Int) < ((n : Nat) : Int) := by omega

theorem ZU {a b i : Int} {d : List Int} {lo j : Nat} (ha : a = (lo : Nat)) (h1 : lo ≤ j) (hj : j < d.length) (hl : d.length < 4611686018427387904) :
    gL a b i d (j : Nat) = if lo < j ∧ gN d j < gN d (j - 1) then some (.inl (swp d j (j - 1), ((j - 1 : Nat) : Int))) else some (.inr d) := by
  subst ha
  unfold gL
  by_cases h : lo < j
  · have e1 : IntKind.i64.wrap ((j : Int) - 1) = ((j - 1 : Nat) : Int) := wrN (by omega) (by omega)
    have d1 : decide (((lo : Nat) : Int) < ((j : Nat) : Int)) = true := by simp; omega
    rw [e1, d1]
    simp only [true_and, Int.toNat_natCast, uC, cZ, cond_true, Option.bind_some, Bool.true_and]
    rw [aQ fun _ => asN hj, aQ fun _ => asN (by omega)]
    by_cases h2 : gN d j < gN d (j - 1)
    · rw [if_pos ⟨h, h2⟩]
      simp only [gN] at h2
      simp only [h2, decide_true, cond_true]
      rw [aQ (asN (by omega)), aQ (asN hj), aQ (asN hj), aQ (asN (by omega))]
      rfl
    · rw [if_neg (fun hh => h2 hh.2)]
      simp only [gN] at h2
      simp only [h2, decide_false, cond_false]
  · have d1 : decide (((lo : Nat) : Int) < ((j : Nat) : Int)) = false := by simp; omega
    rw [if_neg (fun hh => h hh.1), d1]
    simp only [Bool.false_eq_true, false_implies, cZ, cond_false, Option.bind_some, Bool.false_and]
    rw [aQ trivial, aQ trivial]

structure MW (a j i : Nat) (d : List Int) : Prop where
  oth : ∀ p q, a ≤ p → p ≤ q → q ≤ i → p ≠ j → q ≠ j → gN d p ≤ gN d q
  up : ∀ q, j < q → q ≤ i → gN d j ≤ gN d q

theorem MW.done {a j i : Nat} {d : List Int} (h : MW a j i d) (hj : a ≤ j) (hn : ¬ (a < j ∧ gN d j < gN d (j - 1))) : sW a (i + 1) d := by
  intro p q h1 h2 h3
  by_cases hp : p = j
  · by_cases hq : q = j
    · subst hp; subst hq; exact Int.le_refl _
    · subst hp; exact h.up q (by omega) (by omega)
  · by_cases hq : q = j
    · subst hq
      have h4 : ¬ gN d q < gN d (q - 1) := fun hh => hn ⟨by omega, hh⟩
      have := h.oth p (q - 1) h1 (by omega) (by omega) hp (by omega)
      omega
    · exact h.oth p q h1 h2 (by omega) hp hq

theorem MW.next {a j i : Nat} {d : List Int} (h : MW a j i d) (hj : a < j) (hji : j ≤ i) (hi : i < d.length) (hlt : gN d j < gN d (j - 1)) : MW a (j - 1) i (swp d j (j - 1)) := by
  have g := wD (d := d) (i := j) (j := j - 1) (by omega) (by omega)
  refine ⟨fun p q h1 h2 h3 hp hq => ?_, fun q h1 h2 => ?_⟩
  · rw [g, g, if_neg hp, if_neg hq]
    by_cases hpj : p = j
    · rw [if_pos hpj]
      by_cases hqj : q = j
      · rw [if_pos hqj]; exact Int.le_refl _
      · rw [if_neg hqj]; exact h.oth (j - 1) q (by omega) (by omega) h3 (by omega) hqj
    · rw [if_neg hpj]
      by_cases hqj : q = j
      · rw [if_pos hqj]; exact h.oth p (j - 1) h1 (by omega) (by omega) hpj (by omega)
      · rw [if_neg hqj]; exact h.oth p q h1 h2 h3 hpj hqj
  · rw [g, g, if_pos rfl, if_neg (by omega)]
    by_cases hqj : q = j
    · rw [if_pos hqj]; omega
    · rw [if_neg hqj]; exact h.up q (by omega) h2

theorem aGX {a b i : Int} {lo hi : Nat} (ha : a = (lo : Nat)) : ∀ (j : Nat) (d : List Int), lo ≤ j → j ≤ hi → hi < d.length → d.length < 4611686018427387904 → MW lo j hi d →
    ∃ d', lp (fun s : List Int × Int => gL a b i s.1 s.2) (d, (j : Int)) = some d' ∧ Rel lo (hi + 1) d d' ∧ sW lo (hi + 1) d' := by
  intro j
  induction j with
  | zero =>
    intro d h1 h2 h3 h4 h5
    have hs := ZU (a := a) (b := b) (i := i) ha h1 (by omega) h4 (d := d)
    rw [if_neg (by omega)] at hs
    exact ⟨d, dI hs, Rel.refl .., h5.done h1 (by omega)⟩
  | succ j ih =>
    intro d h1 h2 h3 h4 h5
    have hs := ZU (a := a) (b := b) (i := i) ha h1 (by omega) h4 (d := d)
    by_cases h : lo < j + 1 ∧ gN d (j + 1) < gN d (j + 1 - 1)
    · rw [if_pos h] at hs
      obtain ⟨d', e, r, s⟩ := ih (swp d (j + 1) (j + 1 - 1)) (by omega) (by omega) (by rw [kY]; omega) (by rw [kY]; omega) (h5.next h.1 h2 h3 h.2)
      exact ⟨d', (kL hs).trans e, (Rel.swp (by omega) (by omega) (by omega) (by omega)).trans r, s⟩
    · rw [if_neg h] at hs
      exact ⟨d, dI hs, Rel.refl .., h5.done h1 h⟩

theorem aBa {a b : Int} {lo hi : Nat} (ha : a = (lo : Nat)) (hb : b = (hi : Nat)) : ∀ (n i : Nat) (d : List Int), hi - i = n → lo < i → hi ≤ d.length → d.length < 4611686018427387904 → sW lo i d → (i ≤ hi ∨ hi ≤ i) →
    ∃ d', lp (fun s : List Int × Int => dR a b s.1 s.2) (d, (i : Int)) = some d' ∧ Rel lo hi d d' ∧ sW lo hi d' := by
  intro n
  induction n with
  | zero =>
    intro i d h1 h2 h3 h4 h5 _
    refine ⟨d, dI ?_, Rel.refl .., fun p q p1 p2 p3 => h5 p q p1 p2 (by omega)⟩
    show dR _ _ _ _ = _
    have : decide (((i : Nat) : Int) < b) = false := by simp; omega
    simp only [dR, this, cond_false]
  | succ n ih =>
    intro i d h1 h2 h3 h4 h5 _
    obtain ⟨d1, e, r, s⟩ := aGX (a := a) (b := b) (i := (i : Int)) (hi := i) ha i d (by omega) (Nat.le_refl _) (by omega) h4 ⟨fun p q p1 p2 p3 p4 p5 => h5 p q p1 p2 (by omega), fun q q1 q2 => by omega⟩
    obtain ⟨d2, e2, r2, s2⟩ := ih (i + 1) d1 (by omega) (by omega) (by rw [r.len]; exact h3) (by rw [r.len]; exact h4) s (by omega)
    refine ⟨d2, ?_, (r.mono (Nat.le_refl _) (by omega)).trans r2, s2⟩
    rw [kL (s' := (d1, ((i + 1 : Nat) : Int))) ?_, e2]
    show dR _ _ _ _ = _
    have : decide (((i : Nat) : Int) < b) = true := by simp; omega
    simp only [dR, this, cond_true, mM]
    rw [e]
    simp only [Option.bind_some, mL]
    rw [wrN (n := i + 1) (by omega) (by omega)]

theorem QS (lo : Nat) (d : List Int) : sW lo (lo + 1) d := fun p q p1 p2 p3 => by
  have : p = q := by omega
  subst this
  exact Int.le_refl _

theorem aEz {lo hi : Nat} {d : List Int} (h3 : hi ≤ d.length) (h4 : d.length < 4611686018427387904) (h0 : lo ≤ hi) : ∃ d', kR d (lo : Int) (hi : Int) = some d' ∧ Rel lo hi d d' ∧ sW lo hi d' := by
  unfold kR mN
  obtain ⟨d', e, r, s⟩ := aBa (a := (lo : Int)) (b := (hi : Int)) (lo := lo) (hi := hi) rfl rfl (hi - (lo + 1)) (lo + 1) d rfl (by omega) h3 h4 (QS lo d) (by omega)
  rw [wrN (n := lo + 1) (by omega) (by omega), e]
  exact ⟨d', rfl, r, s⟩

theorem aGz {lo hi : Nat} : ∀ (n i j : Nat) (d : List Int), j + 1 - i = n → lo ≤ i → j + 1 ≤ hi ∨ j ≤ i → hi ≤ d.length → d.length < 4611686018427387904 → i < 4611686018427387904 → j < 4611686018427387904 →
    ∃ d', lp (fun s : List Int × Int × Int => dV s.1 s.2.1 s.2.2) (d, (i : Int), (j : Int)) = some d' ∧ Rel lo hi d d' := by
  intro n
  induction n using Nat.strongRecOn with
  | ind n ih =>
    intro i j d h1 h2 h3 h4 h5 h6 h7
    by_cases h : i < j
    · obtain ⟨d', e, r⟩ := ih (j - 1 + 1 - (i + 1)) (by omega) (i + 1) (j - 1) (swp d i j) rfl (by omega) (by omega) (by rw [kY]; exact h4) (by rw [kY]; exact h5) (by omega) (by omega)
      refine ⟨d', ?_, (Rel.swp (by omega) (by omega) (by omega) (by omega)).trans r⟩
      rw [kL (s' := (swp d i j, ((i + 1 : Nat) : Int), ((j - 1 : Nat) : Int))) ?_, e]
      show dV _ _ _ = _
      have : decide (((i : Nat) : Int) < ((j : Nat) : Int)) = true := by simp; omega
      simp only [dV, this, cond_true, Int.toNat_natCast]
      rw [aQ (asN (by omega)), aQ (asN (by omega)), aQ (asN (by omega)), aQ (asN (by omega)), wrN (n := i + 1) (by omega) (by omega), wrN (n := j - 1) (by omega) (by omega)]
      rfl
    · refine ⟨d, dI ?_, Rel.refl ..⟩
      show dV _ _ _ = _
      have : decide (((i : Nat) : Int) < ((j : Nat) : Int)) = false := by simp; omega
      simp only [dV, this, cond_false]

theorem aDR {lo hi : Nat} {d : List Int} (h0 : lo < hi) (h3 : hi ≤ d.length) (h4 : d.length < 4611686018427387904) : ∃ d', lH d (lo : Int) (hi : Int) = some d' ∧ Rel lo hi d d' := by
  unfold lH mU
  obtain ⟨d', e, r⟩ := aGz (lo := lo) (hi := hi) (hi - 1 + 1 - lo) lo (hi - 1) d rfl (Nat.le_refl _) (by omega) h3 h4 (by omega) (by omega)
  rw [wrN (n := hi - 1) (by omega) (by omega), e]
  exact ⟨d', rfl, r⟩

end Go.Abs
namespace Go.Abs
open Go
def CC (f hi : Nat) (d : List Int) (r : Nat) : Nat := if 2 * r + 2 < hi ∧ gN d (f + (2 * r + 1)) < gN d (f + (2 * r + 2)) then 2 * r + 2 else 2 * r + 1

theorem UR {f hi r c : Nat} {d : List Int} (hf : f + hi ≤ d.length) (hr : r < hi) (hc : c < hi) (hl : d.length < 2305843009213693951) :
    kK d (hi : Nat) (f : Nat) (r : Nat) (c : Nat) = if gN d (f + r) < gN d (f + c) then some (.inl (swp d (f + r) (f + c), (c : Int))) else some (.inr (.inr d)) := by
  unfold kK
  have e1 : IntKind.i64.wrap ((f : Int) + (r : Int)) = ((f + r : Nat) : Int) := wrN (by omega) (by omega)
  have e2 : IntKind.i64.wrap ((f : Int) + (c : Int)) = ((f + c : Nat) : Int) := wrN (by omega) (by omega)
  rw [e1, e2]
  simp only [Int.toNat_natCast, uC, Option.bind_some]
  rw [aQ (asN (by omega)), aQ (asN (by omega))]
  by_cases h : gN d (f + r) < gN d (f + c)
  · rw [if_pos h]
    simp only [gN] at h
    simp only [h, decide_true, Bool.not_true, cond_false]
    rw [aQ (asN (by omega)), aQ (asN (by omega)), aQ (asN (by omega)), aQ (asN (by omega))]
    rfl
  · rw [if_neg h]
    simp only [gN] at h
    simp only [h, decide_false, Bool.not_false, cond_true]

theorem aDa {f hi r : Nat} {d : List Int} (hf : f + hi ≤ d.length) (hr : r < hi) (hl : d.length < 2305843009213693951) :
    dJ (hi : Nat) (f : Nat) d (r : Nat) = if hi ≤ 2 * r + 1 then some (.inr (.inl d)) else if gN d (f + r) < gN d (f + CC f hi d r) then some (.inl (swp d (f + r) (f + CC f hi d r), (CC f hi d r : Int))) else some (.inr (.inr d)) := by
  unfold dJ
  have e1 : IntKind.i64.wrap (IntKind.i64.wrap ((2 : Int) * (r : Int)) + 1) = ((2 * r + 1 : Nat) : Int) := by
    rw [wrN (x := (2 : Int) * (r : Int)) (n := 2 * r) (by omega) (by omega)]; exact wrN (by omega) (by omega)
  have e2 : IntKind.i64.wrap (((2 * r + 1 : Nat) : Int) + 1) = ((2 * r + 2 : Nat) : Int) := wrN (by omega) (by omega)
  simp only [e1, e2]
  by_cases h : hi ≤ 2 * r + 1
  · rw [if_pos h]
    have : decide (((hi : Nat) : Int) ≤ ((2 * r + 1 : Nat) : Int)) = true := by simp; omega
    rw [this, cond_true]
  · rw [if_neg h]
    have d1 : decide (((hi : Nat) : Int) ≤ ((2 * r + 1 : Nat) : Int)) = false := by simp; omega
    rw [d1, cond_false]
    by_cases h2 : 2 * r + 2 < hi
    · have d2 : decide (((2 * r + 2 : Nat) : Int) < ((hi : Nat) : Int)) = true := by simp; omega
      have e3 : IntKind.i64.wrap ((f : Int) + ((2 * r + 1 : Nat) : Int)) = ((f + (2 * r + 1) : Nat) : Int) := wrN (by omega) (by omega)
      have e4 : IntKind.i64.wrap (((f + (2 * r + 1) : Nat) : Int) + 1) = ((f + (2 * r + 2) : Nat) : Int) := wrN (by omega) (by omega)
      simp only [d2, e3, e4, Int.toNat_natCast, uC, cZ, cond_true, Option.bind_some, Bool.true_and]
      rw [aQ fun _ => asN (by omega), aQ fun _ => asN (by omega)]
      by_cases h3 : gN d (f + (2 * r + 1)) < gN d (f + (2 * r + 2))
      · have hb : CC f hi d r = 2 * r + 2 := if_pos ⟨h2, h3⟩
        simp only [gN] at h3
        simp only [h3, decide_true, cond_true]
        rw [UR hf hr h2 hl, hb]
      · have hb : CC f hi d r = 2 * r + 1 := if_neg fun hh => h3 hh.2
        simp only [gN] at h3
        simp only [h3, decide_false, cond_false]
        rw [UR hf hr (by omega) hl, hb]
    · have d2 : decide (((2 * r + 2 : Nat) : Int) < ((hi : Nat) : Int)) = false := by simp; omega
      have hb : CC f hi d r = 2 * r + 1 := if_neg fun hh => h2 hh.1
      simp only [d2, Bool.false_eq_true, false_implies, cZ, cond_false, Option.bind_some, Bool.false_and]
      rw [aQ trivial, aQ trivial, UR hf hr (by omega) hl, hb]

def chd (c p : Nat) : Prop := c = 2 * p + 1 ∨ c = 2 * p + 2

def Hp (f lo hi : Nat) (d : List Int) : Prop := ∀ i c, lo ≤ i → chd c i → c < hi → gN d (f + c) ≤ gN d (f + i)

structure HpX (f lo hi r : Nat) (d : List Int) : Prop where
  oth : ∀ i c, lo ≤ i → i ≠ r → chd c i → c < hi → gN d (f + c) ≤ gN d (f + i)
  up : ∀ p c, lo ≤ p → chd r p → chd c r → c < hi → gN d (f + c) ≤ gN d (f + p)

theorem aCV {f hi r : Nat} {d : List Int} (h : ¬ hi ≤ 2 * r + 1) : chd (CC f hi d r) r ∧ CC f hi d r < hi ∧ ∀ c, chd c r → c < hi → gN d (f + c) ≤ gN d (f + CC f hi d r) := by
  unfold CC
  split
  · rename_i h1
    refine ⟨.inr rfl, h1.1, fun c hc hlt => ?_⟩
    rcases hc with rfl | rfl
    · omega
    · exact Int.le_refl _
  · rename_i h1
    refine ⟨.inl rfl, by omega, fun c hc hlt => ?_⟩
    rcases hc with rfl | rfl
    · exact Int.le_refl _
    · have : ¬ gN d (f + (2 * r + 1)) < gN d (f + (2 * r + 2)) := fun hh => h1 ⟨hlt, hh⟩
      omega

theorem HpX.done {f lo hi r : Nat} {d : List Int} (h : HpX f lo hi r d) (hr : ∀ c, chd c r → c < hi → gN d (f + c) ≤ gN d (f + r)) : Hp f lo hi d := by
  intro i c h1 h2 h3
  by_cases e : i = r
  · subst e; exact hr c h2 h3
  · exact h.oth i c h1 e h2 h3

theorem HpX.next {f lo hi r c : Nat} {d : List Int} (h : HpX f lo hi r d) (hf : f + hi ≤ d.length) (hlo : lo ≤ r) (hrh : r < hi) (hc : chd c r) (hch : c < hi) (hbig : ∀ k, chd k r → k < hi → gN d (f + k) ≤ gN d (f + c)) (hlt : gN d (f + r) < gN d (f + c)) : HpX f lo hi c (swp d (f + r) (f + c)) := by
  have g := wD (d := d) (i := f + r) (j := f + c) (by omega) (by omega)
  have hcr : r < c := by unfold chd at hc; omega
  refine ⟨fun i k h1 h2 h3 h4 => ?_, fun p k h1 h2 h3 h4 => ?_⟩
  · rw [g, g, if_neg (show ¬ f + i = f + c by omega)]
    by_cases hir : i = r
    · subst hir
      rw [if_pos (show f + i = f + i from rfl)]
      by_cases hkc : k = c
      · subst hkc; rw [if_pos rfl]; omega
      · rw [if_neg (by omega), if_neg (by unfold chd at h3; omega)]
        exact hbig k h3 h4
    · rw [if_neg (show ¬ f + i = f + r by omega)]
      have hkc : k ≠ c := by intro e; subst e; unfold chd at h3 hc; omega
      rw [if_neg (by omega)]
      by_cases hkr : k = r
      · subst hkr
        rw [if_pos rfl]
        exact h.up i c h1 h3 hc hch
      · rw [if_neg (by omega)]
        exact h.oth i k h1 hir h3 h4
  · have hp : p = r := by unfold chd at h2 hc; omega
    subst hp
    have hk : c < k := by unfold chd at h3; omega
    rw [g, g, if_neg (by omega), if_neg (by omega), if_neg (by omega), if_pos rfl]
    exact h.oth c k (by omega) (by omega) h3 h4

theorem aFB {f lo hi : Nat} : ∀ (n r : Nat) (d : List Int), hi - r = n → f + hi ≤ d.length → lo ≤ r → r < hi → d.length < 2305843009213693951 → HpX f lo hi r d →
    ∃ d', (lp (fun s : List Int × Int => dJ (hi : Nat) (f : Nat) s.1 s.2) (d, (r : Int)) = some (.inl d') ∨ lp (fun s : List Int × Int => dJ (hi : Nat) (f : Nat) s.1 s.2) (d, (r : Int)) = some (.inr d')) ∧ Rel f (f + hi) d d' ∧ Hp f lo hi d' := by
  intro n
  induction n using Nat.strongRecOn with
  | ind n ih =>
    intro r d h1 h2 h3 h4 h5 h6
    have hs := aDa h2 h4 h5
    by_cases h : hi ≤ 2 * r + 1
    · rw [if_pos h] at hs
      exact ⟨d, .inl (dI hs), Rel.refl .., h6.done fun c hc hlt => by unfold chd at hc; omega⟩
    · rw [if_neg h] at hs
      obtain ⟨b1, b2, b3⟩ := aCV (f := f) (d := d) h
      by_cases hlt : gN d (f + r) < gN d (f + CC f hi d r)
      · rw [if_pos hlt] at hs
        have hb : r < CC f hi d r := by unfold chd at b1; omega
        obtain ⟨d', e, rl, hp⟩ := ih (hi - CC f hi d r) (by omega) (CC f hi d r) _ rfl (by rw [kY]; exact h2) (by omega) b2 (by rw [kY]; exact h5) (h6.next h2 h3 h4 b1 b2 b3 hlt)
        exact ⟨d', e.imp (fun e => (kL hs).trans e) (fun e => (kL hs).trans e), (Rel.swp (by omega) (by omega) (by omega) (by omega)).trans rl, hp⟩
      · rw [if_neg hlt] at hs
        exact ⟨d, .inr (dI hs), Rel.refl .., h6.done fun c hc hc2 => by have := b3 c hc hc2; omega⟩

theorem aBv {f lo hi : Nat} {d : List Int} (h2 : f + hi ≤ d.length) (h5 : d.length < 2305843009213693951) (hlo : lo < 2305843009213693951) (h6 : HpX f lo hi lo d) :
    ∃ d', iR d (lo : Nat) (hi : Nat) (f : Nat) = some d' ∧ Rel f (f + hi) d d' ∧ Hp f lo hi d' := by
  unfold iR oF
  by_cases h : lo < hi
  · obtain ⟨d', e, r, p⟩ := aFB (hi - lo) lo d rfl h2 (Nat.le_refl _) h h5 h6
    rcases e with e | e <;> rw [e] <;> exact ⟨d', rfl, r, p⟩
  · refine ⟨d, ?_, Rel.refl .., fun i c h1 hc hlt => by unfold chd at hc; omega⟩
    have hs : dJ (hi : Nat) (f : Nat) d (lo : Nat) = some (.inr (.inl d)) := by
      unfold dJ
      have e1 : IntKind.i64.wrap (IntKind.i64.wrap ((2 : Int) * (lo : Int)) + 1) = ((2 * lo + 1 : Nat) : Int) := by
        rw [wrN (x := (2 : Int) * (lo : Int)) (n := 2 * lo) (by omega) (by omega)]; exact wrN (by omega) (by omega)
      have : decide (((hi : Nat) : Int) ≤ ((2 * lo + 1 : Nat) : Int)) = true := by simp; omega
      simp only [e1, this, cond_true]
    rw [dI (show (fun s : List Int × Int => dJ (hi : Nat) (f : Nat) s.1 s.2) (d, (lo : Int)) = _ from hs)]
    rfl

theorem aDb {f k : Nat} {d : List Int} (h : Hp f 0 k d) : ∀ i, i < k → gN d (f + i) ≤ gN d f := by
  intro i
  induction i using Nat.strongRecOn with
  | ind i ih =>
    intro hi
    by_cases h0 : i = 0
    · subst h0; exact Int.le_refl _
    · have h1 := h ((i - 1) / 2) i (Nat.zero_le _) (by unfold chd; omega) hi
      have h2 := ih ((i - 1) / 2) (by omega) (by omega)
      omega

theorem aBt {f hi : Nat} : ∀ (k : Nat) (d : List Int), f + hi ≤ d.length → k < 2305843009213693951 → d.length < 2305843009213693951 → Hp f k hi d →
    ∃ d', lp (fun s : List Int × Int => fE (f : Nat) 0 (hi : Nat) s.1 s.2) (d, (k : Int) - 1) = some d' ∧ Rel f (f + hi) d d' ∧ Hp f 0 hi d'
  | 0, d, _, _, _, h => by
    refine ⟨d, dI ?_, Rel.refl .., h⟩
    show fE _ _ _ _ _ = _
    have : decide ((0 : Int) ≤ ((0 : Nat) : Int) - 1) = false := by simp
    simp only [fE, this, cond_false]
  | k + 1, d, h1, h2, h3, h => by
    obtain ⟨d1, e, r, p⟩ := aBv (f := f) (lo := k) (hi := hi) h1 h3 (by omega) ⟨fun i c a1 a2 a3 a4 => h i c (by omega) a3 a4, fun p c a1 a2 => by unfold chd at a2; omega⟩
    obtain ⟨d2, e2, r2, p2⟩ := aBt (f := f) (hi := hi) k d1 (by rw [r.len]; exact h1) (by omega) (by rw [r.len]; exact h3) p
    refine ⟨d2, ?_, r.trans r2, p2⟩
    rw [kL (s' := (d1, (k : Int) - 1)) ?_, e2]
    show fE _ _ _ _ _ = _
    have g1 : (((k + 1 : Nat) : Int) - 1) = (k : Int) := by omega
    have g2 : decide ((0 : Int) ≤ (k : Int)) = true := by simp
    simp only [fE, g1, g2, cond_true, e, Option.bind_some]
    rw [eH (by omega) (by omega)]

theorem aD2 {f n : Nat} : ∀ (k : Nat) (d : List Int), k ≤ n → f + n ≤ d.length → d.length < 2305843009213693951 → Hp f 0 k d → sW (f + k) (f + n) d → (∀ p q, f ≤ p → p < f + k → f + k ≤ q → q < f + n → gN d p ≤ gN d q) →
    ∃ d', lp (fun s : List Int × Int => fF (f : Nat) 0 s.1 s.2) (d, (k : Int) - 1) = some d' ∧ Rel f (f + n) d d' ∧ sW f (f + n) d'
  | 0, d, _, _, _, _, hs, _ => by
    refine ⟨d, dI ?_, Rel.refl .., hs⟩
    show fF _ _ _ _ = _
    have : decide ((0 : Int) ≤ ((0 : Nat) : Int) - 1) = false := by simp
    simp only [fF, this, cond_false]
  | k + 1, d, h1, h2, h3, h, hs, hb => by
    have g := wD (d := d) (i := f) (j := f + k) (by omega) (by omega)
    have hroot := aDb h
    obtain ⟨d1, e, r, p⟩ := aBv (f := f) (lo := 0) (hi := k) (d := swp d f (f + k)) (by rw [kY]; omega) (by rw [kY]; exact h3) (by omega) ⟨fun i c a1 a2 a3 a4 => by
      rw [g, g, if_neg (by unfold chd at a3; omega), if_neg (by unfold chd at a3; omega), if_neg (by unfold chd at a3; omega), if_neg (by omega)]
      exact h i c (by omega) a3 (by omega), fun p c a1 a2 => by unfold chd at a2; omega⟩
    have rs : Rel f (f + n) d (swp d f (f + k)) := Rel.swp (i := f) (j := f + k) (by omega) (by omega) (by omega) (by omega)
    have top : gN d1 (f + k) = gN d f := by rw [r.out _ (by omega), g, if_pos rfl]
    have tail : ∀ q, f + k < q → gN d1 q = gN d q := fun q hq => by rw [r.out _ (by omega), g, if_neg (by omega), if_neg (by omega)]
    have low : ∀ p, f ≤ p → p < f + k → ∃ p', f ≤ p' ∧ p' < f + (k + 1) ∧ gN d1 p = gN d p' := fun p p1 p2 => by
      obtain ⟨p', a1, a2, a3⟩ := r.src p p1 p2
      rw [g, if_neg (by omega)] at a3
      by_cases hp : p' = f
      · rw [if_pos hp] at a3; exact ⟨f + k, by omega, by omega, a3⟩
      · rw [if_neg hp] at a3; exact ⟨p', a1, by omega, a3⟩
    obtain ⟨d2, e2, r2, s2⟩ := aD2 (f := f) (n := n) k d1 (by omega) (by rw [r.len, kY]; exact h2) (by rw [r.len, kY]; exact h3) p (fun p q p1 p2 p3 => by
      by_cases hq : q = f + k
      · have : p = f + k := by omega
        rw [hq, this]; exact Int.le_refl _
      · rw [tail q (by omega)]
        by_cases hp : p = f + k
        · rw [hp, top]; exact hb f q (Nat.le_refl _) (by omega) (by omega) p3
        · rw [tail p (by omega)]; exact hs p q (by omega) p2 p3) (fun p q p1 p2 p3 p4 => by
      obtain ⟨p', a1, a2, a3⟩ := low p p1 p2
      rw [a3]
      by_cases hq : q = f + k
      · rw [hq, top]
        have := hroot (p' - f) (by omega)
        rw [show f + (p' - f) = p' by omega] at this
        exact this
      · rw [tail q (by omega)]; exact hb p' q a1 a2 (by omega) p4)
    refine ⟨d2, ?_, (rs.trans (r.mono (Nat.le_refl _) (by omega))).trans r2, s2⟩
    rw [kL (s' := (d1, (k : Int) - 1)) ?_, e2]
    show fF _ _ _ _ = _
    have g1 : (((k + 1 : Nat) : Int) - 1) = (k : Int) := by omega
    have g2 : decide ((0 : Int) ≤ (k : Int)) = true := by simp
    have g3 : IntKind.i64.wrap ((f : Int) + (k : Int)) = ((f + k : Nat) : Int) := wrN (by omega) (by omega)
    simp only [fF, g1, g2, g3, cond_true, Int.toNat_natCast]
    rw [aQ (asN (by omega)), aQ (asN (by omega)), aQ (asN (by omega)), aQ (asN (by omega))]
    have e' : iR (List.set (List.set d f (List.getD d (f + k) default)) (f + k) (List.getD d f default)) 0 (k : Int) (f : Int) = some d1 := e
    rw [e']
    simp only [Option.bind_some]
    rw [eH (by omega) (by omega)]

theorem aC5 {lo hi : Nat} {d : List Int} (h0 : lo < hi) (h1 : hi ≤ d.length) (h3 : d.length < 2305843009213693951) : ∃ d', mR d (lo : Int) (hi : Int) = some d' ∧ Rel lo hi d d' ∧ sW lo hi d' := by
  unfold mR
  rw [aQ (by decide)]
  have e1 : IntKind.i64.wrap ((hi : Int) - (lo : Int)) = ((hi - lo : Nat) : Int) := wrN (by omega) (by omega)
  have e2 : IntKind.i64.wrap (((hi - lo : Nat) : Int) - 1) = ((hi - lo - 1 : Nat) : Int) := wrN (by omega) (by omega)
  have e3 : IntKind.i64.wrap (Int.tdiv ((hi - lo - 1 : Nat) : Int) 2) = (((hi - lo - 1) / 2 + 1 : Nat) : Int) - 1 := by
    have : Int.tdiv ((hi - lo - 1 : Nat) : Int) 2 = (((hi - lo - 1) / 2 : Nat) : Int) := by rw [Int.tdiv_eq_ediv_of_nonneg (by omega)]; omega
    rw [this, wrN (n := (hi - lo - 1) / 2) rfl (by omega)]; omega
  rw [e1, e2, e3]
  unfold oH
  obtain ⟨d1, a1, r1, p1⟩ := aBt (f := lo) (hi := hi - lo) ((hi - lo - 1) / 2 + 1) d (by omega) (by omega) h3 (fun i c b1 b2 b3 => by unfold chd at b2; omega)
  rw [a1]
  simp only [Option.bind_some, oG, oJ]
  obtain ⟨d2, a2, r2, s2⟩ := aD2 (f := lo) (n := hi - lo) (hi - lo) d1 (Nat.le_refl _) (by rw [r1.len]; omega) (by rw [r1.len]; exact h3) p1 (fun p q b1 b2 b3 => by omega) (fun p q b1 b2 b3 b4 => by omega)
  have e4 : IntKind.i64.wrap (((hi - lo : Nat) : Int) - 1) = ((hi - lo : Nat) : Int) - 1 := eH (by omega) (by omega)
  rw [e4, a2]
  have : lo + (hi - lo) = hi := by omega
  rw [this] at r1 r2 s2
  exact ⟨d2, rfl, r1.trans r2, s2⟩

end Go.Abs
namespace Go.Abs
open Go
def RY : ByteArray := ⟨#[0, 1, 2, 2, 3, 3, 3, 3, 4, 4, 4, 4, 4, 4, 4, 4, 5, 5, 5, 5, 5, 5, 5, 5, 5, 5, 5, 5, 5, 5, 5, 5, 6, 6, 6, 6, 6, 6, 6, 6, 6, 6, 6, 6, 6, 6, 6, 6, 6, 6, 6, 6, 6, 6, 6, 6, 6, 6, 6, 6, 6, 6, 6, 6, 7, 7, 7, 7, 7, 7, 7, 7, 7, 7, 7, 7, 7, 7, 7, 7, 7, 7, 7, 7, 7, 7, 7, 7, 7, 7, 7, 7, 7, 7, 7, 7, 7, 7, 7, 7, 7, 7, 7, 7, 7, 7, 7, 7, 7, 7, 7, 7, 7, 7, 7, 7, 7, 7, 7, 7, 7, 7, 7, 7, 7, 7, 7, 7, 8, 8, 8, 8, 8, 8, 8, 8, 8, 8, 8, 8, 8, 8, 8, 8, 8, 8, 8, 8, 8, 8, 8, 8, 8, 8, 8, 8, 8, 8, 8, 8, 8, 8, 8, 8, 8, 8, 8, 8, 8, 8, 8, 8, 8, 8, 8, 8, 8, 8, 8, 8, 8, 8, 8, 8, 8, 8, 8, 8, 8, 8, 8, 8, 8, 8, 8, 8, 8, 8, 8, 8, 8, 8, 8, 8, 8, 8, 8, 8, 8, 8, 8, 8, 8, 8, 8, 8, 8, 8, 8, 8, 8, 8, 8, 8, 8, 8, 8, 8, 8, 8, 8, 8, 8, 8, 8, 8, 8, 8, 8, 8, 8, 8, 8, 8, 8, 8, 8, 8, 8, 8, 8, 8, 8, 8, 8, 8]⟩

theorem aDT : ∀ i : Fin 256, i.val ≠ 0 → ∃ k : Fin 8, bt RY (i.val : Int) = (k.val : Int) + 1 ∧ 2 ^ k.val ≤ i.val := by decide +kernel

theorem WQ : ByteArray.size RY = 256 := by decide +kernel

theorem aFp {x : Int} (h : 0 ≤ x) (h2 : x ≤ 255) : IntKind.u8.wrap x = x := by
  simp only [IntKind.wrap, IntKind.bits, IntKind.signed]
  simp
  omega

theorem NG {x : Int} (h : 0 ≤ x) (h2 : x ≤ 9223372036854775807) : IntKind.u64.wrap x = x := by
  simp only [IntKind.wrap, IntKind.bits, IntKind.signed]
  simp
  omega

theorem aDe {x n : Int} (h1 : 1 ≤ x) (h2 : x ≤ 255) (hn : 0 ≤ n ∧ n ≤ 100) : ∃ k : Nat, qC x n = some (n + k + 1) ∧ k ≤ 7 ∧ (2 : Int) ^ k ≤ x := by
  obtain ⟨k, e, hk⟩ := aDT ⟨x.toNat, by omega⟩ (by simp; omega)
  refine ⟨k.val, ?_, by omega, ?_⟩
  · show (aT (0 ≤ (IntKind.u8.wrap x) ∧ (IntKind.u8.wrap x) < ((ByteArray.size RY : Nat) : Int)) <| some (IntKind.i64.wrap (n + (IntKind.i64.wrap (bt RY (IntKind.u8.wrap x)))))) = _
    rw [aFp (by omega) h2, aQ (by rw [WQ]; omega)]
    simp only at e
    rw [Int.toNat_of_nonneg (by omega)] at e
    rw [e, eH (n := (k.val : Int) + 1) (by omega) (by omega), eH (by omega) (by omega)]
    congr 1
    omega
  · simp only at hk
    have : ((2 ^ k.val : Nat) : Int) ≤ ((x.toNat : Nat) : Int) := by exact_mod_cast hk
    rw [Int.toNat_of_nonneg (by omega)] at this
    simpa using this

theorem QZ {x m : Int} (hm : 0 < m) : Int.fdiv x m = x / m := Int.fdiv_eq_ediv_of_nonneg _ (by omega)

theorem aDN {x n : Int} (h1 : 1 ≤ x) (h2 : x ≤ 65535) (hn : 0 ≤ n ∧ n ≤ 90) : ∃ k : Nat, oM x n = some (n + k + 1) ∧ k ≤ 15 ∧ (2 : Int) ^ k ≤ x := by
  unfold oM
  by_cases h : 256 ≤ x
  · have hd : Int.fdiv x (2 ^ (min (Int.toNat (8 : Int)) 64)) = x / 256 := by rw [show (2 ^ (min (Int.toNat (8 : Int)) 64) : Int) = 256 from by decide]; exact QZ (by omega)
    obtain ⟨k, e, h3, h4⟩ := aDe (x := x / 256) (n := n + 8) (by omega) (by omega) (by omega)
    refine ⟨k + 8, ?_, by omega, ?_⟩
    · simp only [h, decide_true, cond_true]
      rw [aQ (by decide), hd, eH (n := n + 8) (by omega) (by omega), e]
      congr 1; omega
    · rw [Int.pow_add]; have : (2 : Int) ^ 8 = 256 := by decide
      rw [this]; omega
  · obtain ⟨k, e, h3, h4⟩ := aDe (x := x) (n := n) h1 (by omega) (by omega)
    exact ⟨k, by simp only [h, decide_false, cond_false, e], by omega, h4⟩

theorem aDB {x n : Int} (h1 : 1 ≤ x) (h2 : x ≤ 4294967295) (hn : 0 ≤ n ∧ n ≤ 70) : ∃ k : Nat, oL x n = some (n + k + 1) ∧ k ≤ 31 ∧ (2 : Int) ^ k ≤ x := by
  unfold oL
  by_cases h : 65536 ≤ x
  · have hd : Int.fdiv x (2 ^ (min (Int.toNat (16 : Int)) 64)) = x / 65536 := by rw [show (2 ^ (min (Int.toNat (16 : Int)) 64) : Int) = 65536 from by decide]; exact QZ (by omega)
    obtain ⟨k, e, h3, h4⟩ := aDN (x := x / 65536) (n := n + 16) (by omega) (by omega) (by omega)
    refine ⟨k + 16, ?_, by omega, ?_⟩
    · simp only [h, decide_true, cond_true]
      rw [aQ (by decide), hd, eH (n := n + 16) (by omega) (by omega), e]
      congr 1; omega
    · rw [Int.pow_add]; have : (2 : Int) ^ 16 = 65536 := by decide
      rw [this]; omega
  · obtain ⟨k, e, h3, h4⟩ := aDN (x := x) (n := n) h1 (by omega) (by omega)
    exact ⟨k, by simp only [h, decide_false, cond_false, e], by omega, h4⟩

theorem aDj {x : Int} (h1 : 1 ≤ x) (h2 : x ≤ 9223372036854775807) : ∃ k : Nat, oA x = some ((k : Int) + 1) ∧ k ≤ 63 ∧ (2 : Int) ^ k ≤ x := by
  unfold oA rV
  by_cases h : 4294967296 ≤ x
  · have hd : Int.fdiv x (2 ^ (min (Int.toNat (32 : Int)) 64)) = x / 4294967296 := by rw [show (2 ^ (min (Int.toNat (32 : Int)) 64) : Int) = 4294967296 from by decide]; exact QZ (by omega)
    obtain ⟨k, e, h3, h4⟩ := aDB (x := x / 4294967296) (n := 32) (by omega) (by omega) (by omega)
    refine ⟨k + 32, ?_, by omega, ?_⟩
    · simp only [h, decide_true, cond_true]
      rw [aQ (by decide), hd, e]
      simp only [Option.bind_some]
      congr 1; omega
    · rw [Int.pow_add]; have : (2 : Int) ^ 32 = 4294967296 := by decide
      rw [this]; omega
  · obtain ⟨k, e, h3, h4⟩ := aDB (x := x) (n := 0) h1 (by omega) (by omega)
    refine ⟨k, ?_, by omega, h4⟩
    simp only [h, decide_false, cond_false, e, Option.bind_some]
    congr 1; omega

theorem aDq : bt RY 0 = 0 := by decide +kernel

theorem aFg : oA 0 = some 0 := by
  have h3 : qC 0 0 = some 0 := by
    show (aT (0 ≤ (IntKind.u8.wrap 0) ∧ (IntKind.u8.wrap 0) < ((ByteArray.size RY : Nat) : Int)) <| some (IntKind.i64.wrap (0 + (IntKind.i64.wrap (bt RY (IntKind.u8.wrap 0)))))) = _
    rw [aFp (by omega) (by omega), aQ (by rw [WQ]; omega), aDq, eH (n := 0) (by omega) (by omega), eH (by omega) (by omega)]
    rfl
  have h2 : oM 0 0 = some 0 := h3
  have h1 : oL 0 0 = some 0 := h2
  unfold oA rV
  have : decide ((4294967296 : Int) ≤ 0) = false := by decide
  rw [this, cond_false, h1]
  rfl

theorem aEf {n : Nat} (h1 : 1 ≤ n) (h2 : n < 2305843009213693951) : ∃ m : Int, mX (n : Int) = some m ∧ 1 ≤ m ∧ m ≤ 2 * n := by
  unfold mX
  rw [NG (by omega) (by omega)]
  obtain ⟨k, e, h3, h4⟩ := aDj (x := (n : Int)) (by omega) (by omega)
  have hk : (2 : Int) ^ (k + 1) = 2 * 2 ^ k := by rw [Int.pow_succ]; omega
  have hp : (1 : Int) ≤ 2 ^ k := by
    have : (0 : Int) < 2 ^ k := Int.pow_pos (by decide)
    omega
  rw [e]
  simp only [Option.bind_some]
  rw [aQ (by omega), show min (Int.toNat ((k : Int) + 1)) 64 = k + 1 by omega, Int.one_mul, hk, NG (by omega) (by omega)]
  exact ⟨_, rfl, by omega, by omega⟩

theorem aG6 (x : Int) {m : Int} (h0 : 0 ≤ m) (hm : m ≤ 9223372036854775807) : 0 ≤ bM .and .u64 x m ∧ bM .and .u64 x m ≤ m := by
  have h1 : (BitVec.ofInt IntKind.u64.bits x &&& BitVec.ofInt IntKind.u64.bits m).toNat ≤ m.toNat := by
    rw [BitVec.toNat_and]
    refine Nat.le_trans Nat.and_le_right ?_
    rw [BitVec.toNat_ofInt]
    have : IntKind.u64.bits = 64 := rfl
    rw [this]
    omega
  have h2 : bM .and .u64 x m = ((BitVec.ofInt IntKind.u64.bits x &&& BitVec.ofInt IntKind.u64.bits m).toNat : Int) := NG (by omega) (by omega)
  rw [h2]
  omega

theorem aCE (r : Int) : ∃ x, nM r = some x := by
  unfold nM
  rw [aQ (by decide), aQ (by decide), aQ (by decide)]
  exact ⟨_, rfl⟩

theorem aD4 {lo i o : Nat} {d : List Int} (l r m : Int) (hi : i < d.length) (ho : lo + o < d.length) (hl : d.length < 2305843009213693951) :
    gQ d (lo : Nat) l r m (i : Nat) (o : Nat) = some (.inl (swp d i (lo + o), r, ((i + 1 : Nat) : Int))) := by
  unfold gQ
  rw [wrN (x := (lo : Int) + (o : Int)) (n := lo + o) (by omega) (by omega), wrN (n := i + 1) (by omega) (by omega)]
  simp only [Int.toNat_natCast]
  rw [aQ (asN (by omega)), aQ (asN (by omega)), aQ (asN (by omega)), aQ (asN (by omega))]
  rfl

theorem aGI {lo n : Nat} {m : Int} (hm : 1 ≤ m ∧ m ≤ 2 * n) (h8 : 8 ≤ n) : ∀ (q i : Nat) (r : Int) (d : List Int), lo + n / 4 * 2 + 2 - i = q → lo ≤ i → i ≤ lo + n / 4 * 2 + 2 → lo + n ≤ d.length → d.length < 2305843009213693951 →
    ∃ d', lp (fun s : List Int × Int × Int => cY (lo : Nat) (n : Nat) m s.1 s.2.1 s.2.2) (d, r, (i : Int)) = some d' ∧ Rel lo (lo + n) d d' := by
  have t4 : IntKind.i64.wrap (Int.tdiv (n : Int) 4) = ((n / 4 : Nat) : Int) ∨ 2305843009213693951 ≤ n := by
    by_cases h : n < 2305843009213693951
    · left
      have : Int.tdiv (n : Int) 4 = ((n / 4 : Nat) : Int) := by rw [Int.tdiv_eq_ediv_of_nonneg (by omega)]; omega
      rw [this]; exact wrN rfl (by omega)
    · right; omega
  intro q
  induction q with
  | zero =>
    intro i r d h1 h2 h3 h4 h5
    have t4 := t4.resolve_right (by omega)
    refine ⟨d, dI ?_, Rel.refl ..⟩
    show cY _ _ _ _ _ _ = _
    unfold cY
    rw [aQ (by decide), t4, wrN (x := ((n / 4 : Nat) : Int) * 2) (n := n / 4 * 2) (by omega) (by omega), wrN (x := (lo : Int) + ((n / 4 * 2 : Nat) : Int)) (n := lo + n / 4 * 2) (by omega) (by omega), wrN (x := ((lo + n / 4 * 2 : Nat) : Int) + 1) (n := lo + n / 4 * 2 + 1) (by omega) (by omega)]
    have : decide (((i : Nat) : Int) ≤ ((lo + n / 4 * 2 + 1 : Nat) : Int)) = false := by simp; omega
    rw [this, cond_false]
  | succ q ih =>
    intro i r d h1 h2 h3 h4 h5
    have t4 := t4.resolve_right (by omega)
    obtain ⟨x, hx⟩ := aCE r
    obtain ⟨a1, a2⟩ := aG6 x.1 (m := m - 1) (by omega) (by omega)
    have hd : decide (((i : Nat) : Int) ≤ ((lo + n / 4 * 2 + 1 : Nat) : Int)) = true := by simp; omega
    have step : ∃ o, o < n ∧ cY (lo : Nat) (n : Nat) m d r (i : Nat) = some (.inl (swp d i (lo + o), x.2, ((i + 1 : Nat) : Int))) := by
      unfold cY
      rw [aQ (by decide), t4, wrN (x := ((n / 4 : Nat) : Int) * 2) (n := n / 4 * 2) (by omega) (by omega), wrN (x := (lo : Int) + ((n / 4 * 2 : Nat) : Int)) (n := lo + n / 4 * 2) (by omega) (by omega), wrN (x := ((lo + n / 4 * 2 : Nat) : Int) + 1) (n := lo + n / 4 * 2 + 1) (by omega) (by omega), hd, cond_true, hx]
      simp only [Option.bind_some]
      rw [NG (x := m - 1) (by omega) (by omega)]
      have e1 : IntKind.i64.wrap (bM .and .u64 x.1 (m - 1)) = (((bM .and .u64 x.1 (m - 1)).toNat : Nat) : Int) := wrN (by omega) (by omega)
      rw [e1]
      by_cases h : (n : Int) ≤ (((bM .and .u64 x.1 (m - 1)).toNat : Nat) : Int)
      · refine ⟨(bM .and .u64 x.1 (m - 1)).toNat - n, by omega, ?_⟩
        simp only [h, decide_true, cond_true]
        rw [wrN (x := (((bM .and .u64 x.1 (m - 1)).toNat : Nat) : Int) - (n : Int)) (n := (bM .and .u64 x.1 (m - 1)).toNat - n) (by omega) (by omega)]
        exact aD4 _ _ _ (by omega) (by omega) h5
      · refine ⟨(bM .and .u64 x.1 (m - 1)).toNat, by omega, ?_⟩
        simp only [h, decide_false, cond_false]
        exact aD4 _ _ _ (by omega) (by omega) h5
    obtain ⟨o, ho, hs⟩ := step
    obtain ⟨d', e, rl⟩ := ih (i + 1) x.2 (swp d i (lo + o)) (by omega) (by omega) (by omega) (by rw [kY]; exact h4) (by rw [kY]; exact h5)
    exact ⟨d', (kL (show (fun s : List Int × Int × Int => cY (lo : Nat) (n : Nat) m s.1 s.2.1 s.2.2) (d, r, (i : Int)) = _ from hs)).trans e, (Rel.swp (i := i) (j := lo + o) (by omega) (by omega) (by omega) (by omega)).trans rl⟩

theorem aDw {lo hi : Nat} {d : List Int} (h8 : 8 ≤ hi - lo) (h1 : hi ≤ d.length) (h2 : d.length < 2305843009213693951) : ∃ d', kO d (lo : Int) (hi : Int) = some d' ∧ Rel lo hi d d' := by
  unfold kO
  have e1 : IntKind.i64.wrap ((hi : Int) - (lo : Int)) = ((hi - lo : Nat) : Int) := wrN (by omega) (by omega)
  have d1 : decide ((8 : Int) ≤ ((hi - lo : Nat) : Int)) = true := by simp; omega
  obtain ⟨m, em, m1, m2⟩ := aEf (n := hi - lo) (by omega) (by omega)
  have t4 : IntKind.i64.wrap (Int.tdiv ((hi - lo : Nat) : Int) 4) = (((hi - lo) / 4 : Nat) : Int) := by
    have : Int.tdiv ((hi - lo : Nat) : Int) 4 = (((hi - lo) / 4 : Nat) : Int) := by rw [Int.tdiv_eq_ediv_of_nonneg (by omega)]; omega
    rw [this]; exact wrN rfl (by omega)
  rw [e1, d1, cond_true, em]
  simp only [Option.bind_some]
  rw [aQ (by decide), t4, wrN (x := (((hi - lo) / 4 : Nat) : Int) * 2) (n := (hi - lo) / 4 * 2) (by omega) (by omega), wrN (x := (lo : Int) + (((hi - lo) / 4 * 2 : Nat) : Int)) (n := lo + (hi - lo) / 4 * 2) (by omega) (by omega), wrN (x := ((lo + (hi - lo) / 4 * 2 : Nat) : Int) - 1) (n := lo + (hi - lo) / 4 * 2 - 1) (by omega) (by omega)]
  unfold mJ
  obtain ⟨d', e, r⟩ := aGI (lo := lo) (n := hi - lo) (m := m) ⟨m1, m2⟩ h8 (lo + (hi - lo) / 4 * 2 + 2 - (lo + (hi - lo) / 4 * 2 - 1)) (lo + (hi - lo) / 4 * 2 - 1) (IntKind.u64.wrap ((hi - lo : Nat) : Int)) d rfl (by omega) (by omega) (by omega) h2
  rw [e]
  have : lo + (hi - lo) = hi := by omega
  rw [this] at r
  exact ⟨d', rfl, r⟩

theorem aE9 {a b : Nat} {d : List Int} (s : Int) (ha : a < d.length) (hb : b < d.length) : ∃ (p q : Nat) (s' : Int), jR d (a : Int) (b : Int) s = some (((p : Int), (q : Int)), s') ∧ ((p = a ∧ q = b) ∨ (p = b ∧ q = a)) := by
  unfold jR
  rw [aQ (asN hb), aQ (asN ha), uC]
  simp only [Option.bind_some]
  cases decide (d.getD (Int.toNat (b : Int)) default < d.getD (Int.toNat (a : Int)) default)
  · exact ⟨a, b, _, rfl, .inl ⟨rfl, rfl⟩⟩
  · exact ⟨b, a, _, rfl, .inr ⟨rfl, rfl⟩⟩

theorem med {a b c : Nat} {d : List Int} (s : Int) (ha : a < d.length) (hb : b < d.length) (hc : c < d.length) : ∃ (p : Nat) (s' : Int), lW d (a : Int) (b : Int) (c : Int) s = some ((p : Int), s') ∧ (p = a ∨ p = b ∨ p = c) := by
  unfold lW
  obtain ⟨p1, q1, s1, e1, h1⟩ := aE9 s ha hb
  obtain ⟨p2, q2, s2, e2, h2⟩ := aE9 (a := q1) (b := c) (d := d) s1 (by omega) hc
  obtain ⟨p3, q3, s3, e3, h3⟩ := aE9 (a := p1) (b := p2) (d := d) s2 (by omega) (by omega)
  rw [e1]; simp only [Option.bind_some]
  rw [e2]; simp only [Option.bind_some]
  rw [e3]
  exact ⟨q3, s3, rfl, by omega⟩

theorem aFh {a : Nat} {d : List Int} (s : Int) (h1 : 1 ≤ a) (ha : a + 1 < d.length) (hl : d.length < 2305843009213693951) : ∃ (p : Nat) (s' : Int), fA d (a : Int) s = some ((p : Int), s') ∧ a - 1 ≤ p ∧ p ≤ a + 1 := by
  unfold fA
  rw [wrN (x := (a : Int) - 1) (n := a - 1) (by omega) (by omega), wrN (x := (a : Int) + 1) (n := a + 1) (by omega) (by omega)]
  obtain ⟨p, s', e, h⟩ := med (a := a - 1) (b := a) (c := a + 1) (d := d) s (by omega) (by omega) (by omega)
  rw [e]
  exact ⟨p, s', rfl, by omega, by omega⟩

theorem aFs (d : List Int) (s : Int) (j : Int) : ∃ h, iQ d s j = some (j, h) := by
  unfold iQ
  cases decide (s = 0) <;> cases decide (s = 12) <;> exact ⟨_, rfl⟩

theorem aB5 {lo hi : Nat} {d : List Int} (h8 : 12 < hi - lo) (h1 : hi ≤ d.length) (h2 : d.length < 2305843009213693951) : ∃ (p : Nat) (h : Int), lM d (lo : Int) (hi : Int) = some ((p : Int), h) ∧ lo ≤ p ∧ p < hi := by
  unfold lM
  have e1 : IntKind.i64.wrap ((hi : Int) - (lo : Int)) = ((hi - lo : Nat) : Int) := wrN (by omega) (by omega)
  have t4 : IntKind.i64.wrap (Int.tdiv ((hi - lo : Nat) : Int) 4) = (((hi - lo) / 4 : Nat) : Int) := by
    have : Int.tdiv ((hi - lo : Nat) : Int) 4 = (((hi - lo) / 4 : Nat) : Int) := by rw [Int.tdiv_eq_ediv_of_nonneg (by omega)]; omega
    rw [this]; exact wrN rfl (by omega)
  have d1 : decide ((8 : Int) ≤ ((hi - lo : Nat) : Int)) = true := by simp; omega
  have q1 : IntKind.i64.wrap ((lo : Int) + IntKind.i64.wrap ((((hi - lo) / 4 : Nat) : Int) * 1)) = ((lo + (hi - lo) / 4 : Nat) : Int) := by
    rw [wrN (x := (((hi - lo) / 4 : Nat) : Int) * 1) (n := (hi - lo) / 4) (by omega) (by omega)]; exact wrN (by omega) (by omega)
  have q2 : IntKind.i64.wrap ((lo : Int) + IntKind.i64.wrap ((((hi - lo) / 4 : Nat) : Int) * 2)) = ((lo + (hi - lo) / 4 * 2 : Nat) : Int) := by
    rw [wrN (x := (((hi - lo) / 4 : Nat) : Int) * 2) (n := (hi - lo) / 4 * 2) (by omega) (by omega)]; exact wrN (by omega) (by omega)
  have q3 : IntKind.i64.wrap ((lo : Int) + IntKind.i64.wrap ((((hi - lo) / 4 : Nat) : Int) * 3)) = ((lo + (hi - lo) / 4 * 3 : Nat) : Int) := by
    rw [wrN (x := (((hi - lo) / 4 : Nat) : Int) * 3) (n := (hi - lo) / 4 * 3) (by omega) (by omega)]; exact wrN (by omega) (by omega)
  rw [aQ (by decide), aQ (by decide), aQ (by decide)]
  simp only [e1, t4, d1, q1, q2, q3, cond_true]
  by_cases h50 : (50 : Int) ≤ ((hi - lo : Nat) : Int)
  · simp only [h50, decide_true, cond_true]
    obtain ⟨p1, s1, f1, g1, g2⟩ := aFh (a := lo + (hi - lo) / 4) (d := d) 0 (by omega) (by omega) h2
    obtain ⟨p2, s2, f2, g3, g4⟩ := aFh (a := lo + (hi - lo) / 4 * 2) (d := d) s1 (by omega) (by omega) h2
    obtain ⟨p3, s3, f3, g5, g6⟩ := aFh (a := lo + (hi - lo) / 4 * 3) (d := d) s2 (by omega) (by omega) h2
    obtain ⟨p4, s4, f4, g7⟩ := med (a := p1) (b := p2) (c := p3) (d := d) s3 (by omega) (by omega) (by omega)
    obtain ⟨h, f5⟩ := aFs d s4 p4
    rw [f1]; simp only [Option.bind_some]
    rw [f2]; simp only [Option.bind_some]
    rw [f3]; simp only [Option.bind_some, iP]
    rw [f4]; simp only [Option.bind_some]
    exact ⟨p4, h, f5, by omega, by omega⟩
  · simp only [h50, decide_false, cond_false, iP]
    obtain ⟨p4, s4, f4, g7⟩ := med (a := lo + (hi - lo) / 4) (b := lo + (hi - lo) / 4 * 2) (c := lo + (hi - lo) / 4 * 3) (d := d) 0 (by omega) (by omega) (by omega)
    obtain ⟨h, f5⟩ := aFs d s4 p4
    rw [f4]; simp only [Option.bind_some]
    exact ⟨p4, h, f5, by omega, by omega⟩

end Go.Abs
namespace Go.Abs
open Go
theorem VH {body : List Int × Int → Option ((List Int × Int) ⊕ (List Int × Int))} {d : List Int} {p : Nat → Prop} [DecidablePred p] {j : Nat}
    (hs : ∀ i, i ≤ j + 1 → body (d, (i : Int)) = if i ≤ j ∧ p i then some (.inl (d, ((i + 1 : Nat) : Int))) else some (.inr (d, (i : Int)))) :
    ∀ (n i : Nat), j + 1 - i = n → i ≤ j + 1 → ∃ i' : Nat, lp body (d, (i : Int)) = some (d, (i' : Int)) ∧ i ≤ i' ∧ i' ≤ j + 1 ∧ (∀ k, i ≤ k → k < i' → p k) ∧ (i' ≤ j → ¬ p i') := by
  intro n
  induction n with
  | zero =>
    intro i h1 h2
    have := hs i h2
    rw [if_neg (by omega)] at this
    exact ⟨i, dI this, Nat.le_refl _, h2, fun k a b => by omega, fun h => by omega⟩
  | succ n ih =>
    intro i h1 h2
    have h := hs i h2
    by_cases hp : p i
    · rw [if_pos ⟨by omega, hp⟩] at h
      obtain ⟨i', e, a1, a2, a3, a4⟩ := ih (i + 1) (by omega) (by omega)
      refine ⟨i', (kL h).trans e, by omega, a2, fun k b1 b2 => ?_, a4⟩
      by_cases hk : k = i
      · rw [hk]; exact hp
      · exact a3 k (by omega) b2
    · rw [if_neg fun hh => hp hh.2] at h
      exact ⟨i, dI h, Nat.le_refl _, h2, fun k a b => by omega, fun _ => hp⟩

theorem NY {body : List Int × Int → Option ((List Int × Int) ⊕ (List Int × Int))} {d : List Int} {p : Nat → Prop} [DecidablePred p] {i m : Nat} (hi : 1 ≤ i)
    (hs : ∀ j, j ≤ m → body (d, (j : Int)) = if i ≤ j ∧ p j then some (.inl (d, ((j - 1 : Nat) : Int))) else some (.inr (d, (j : Int)))) :
    ∀ (j : Nat), j ≤ m → i ≤ j + 1 → ∃ j' : Nat, lp body (d, (j : Int)) = some (d, (j' : Int)) ∧ i ≤ j' + 1 ∧ j' ≤ j ∧ (∀ k, j' < k → k ≤ j → p k) ∧ (i ≤ j' → ¬ p j') := by
  intro j
  induction j with
  | zero =>
    intro h1 h2
    have := hs 0 h1
    rw [if_neg (by omega)] at this
    exact ⟨0, dI this, by omega, Nat.le_refl _, fun k a b => by omega, fun h => by omega⟩
  | succ j ih =>
    intro h1 h2
    have h := hs (j + 1) h1
    by_cases hp : i ≤ j + 1 ∧ p (j + 1)
    · rw [if_pos hp] at h
      obtain ⟨j', e, a1, a2, a3, a4⟩ := ih (by omega) (by omega)
      refine ⟨j', (kL h).trans e, a1, by omega, fun k b1 b2 => ?_, a4⟩
      by_cases hk : k = j + 1
      · rw [hk]; exact hp.2
      · exact a3 k b1 (by omega)
    · rw [if_neg hp] at h
      exact ⟨j + 1, dI h, by omega, Nat.le_refl _, fun k a b => by omega, fun h1 h2 => hp ⟨h1, h2⟩⟩

theorem aBA {α : Type} {i j u v : Nat} {d : List Int} {n : Bool} {x y : Option α} (hu : i ≤ j → u < d.length) (hv : i ≤ j → v < d.length) :
    (aT ((decide ((i : Int) ≤ (j : Int))) = true → 0 ≤ (u : Int) ∧ (u : Int) < ((List.length d : Nat) : Int)) <|
    aT ((decide ((i : Int) ≤ (j : Int))) = true → 0 ≤ (v : Int) ∧ (v : Int) < ((List.length d : Nat) : Int)) <|
    (cZ (decide ((i : Int) ≤ (j : Int))) (dY (List.getD d (Int.toNat (u : Int)) default) (List.getD d (Int.toNat (v : Int)) default))).bind fun z =>
    cond ((decide ((i : Int) ≤ (j : Int))) && (Bool.xor n z)) x y) = if i ≤ j ∧ (Bool.xor n (decide (gN d u < gN d v))) = true then x else y := by
  by_cases h : i ≤ j
  · have hd : decide ((i : Int) ≤ (j : Int)) = true := by simp; omega
    rw [hd]
    rw [aQ fun _ => asN (hu h), aQ fun _ => asN (hv h)]
    simp only [cZ, cond_true, uC, Option.bind_some, Bool.true_and, Int.toNat_natCast, h, true_and, gN]
    cases Bool.xor n (decide (d.getD u default < d.getD v default)) <;> simp
  · have hd : decide ((i : Int) ≤ (j : Int)) = false := by simp; omega
    rw [hd, aQ (fun h => by cases h), aQ (fun h => by cases h)]
    simp [cZ, h]

theorem QW {α : Type} {i j u v : Nat} {d : List Int} {x y : Option α} (hu : i ≤ j → u < d.length) (hv : i ≤ j → v < d.length) :
    (aT ((decide ((i : Int) ≤ (j : Int))) = true → 0 ≤ (u : Int) ∧ (u : Int) < ((List.length d : Nat) : Int)) <|
    aT ((decide ((i : Int) ≤ (j : Int))) = true → 0 ≤ (v : Int) ∧ (v : Int) < ((List.length d : Nat) : Int)) <|
    (cZ (decide ((i : Int) ≤ (j : Int))) (dY (List.getD d (Int.toNat (u : Int)) default) (List.getD d (Int.toNat (v : Int)) default))).bind fun z =>
    cond ((decide ((i : Int) ≤ (j : Int))) && z) x y) = if i ≤ j ∧ gN d u < gN d v then x else y := by
  have := aBA (n := false) (x := x) (y := y) hu hv
  simp only [Bool.false_xor] at this
  exact this.trans (by simp)

theorem RH {α : Type} {i j u v : Nat} {d : List Int} {x y : Option α} (hu : i ≤ j → u < d.length) (hv : i ≤ j → v < d.length) :
    (aT ((decide ((i : Int) ≤ (j : Int))) = true → 0 ≤ (u : Int) ∧ (u : Int) < ((List.length d : Nat) : Int)) <|
    aT ((decide ((i : Int) ≤ (j : Int))) = true → 0 ≤ (v : Int) ∧ (v : Int) < ((List.length d : Nat) : Int)) <|
    (cZ (decide ((i : Int) ≤ (j : Int))) (dY (List.getD d (Int.toNat (u : Int)) default) (List.getD d (Int.toNat (v : Int)) default))).bind fun z =>
    cond ((decide ((i : Int) ≤ (j : Int))) && (!z)) x y) = if i ≤ j ∧ ¬ gN d u < gN d v then x else y := by
  have := aBA (n := true) (x := x) (y := y) hu hv
  simp only [Bool.true_xor] at this
  exact this.trans (by simp)

theorem aGt {a j : Nat} {d : List Int} (ha : a < d.length) (hj : j < d.length) (hl : d.length < 2305843009213693951) : ∀ i, i ≤ j + 1 → fP (a : Nat) (j : Nat) d (i : Nat) = if i ≤ j ∧ gN d i < gN d a then some (.inl (d, ((i + 1 : Nat) : Int))) else some (.inr (d, (i : Int))) := by
  intro i hi
  unfold fP
  rw [wrN (x := (i : Int) + 1) (n := i + 1) (by omega) (by omega)]
  exact QW (u := i) (v := a) (by omega) (by omega)

theorem aEJ {a j : Nat} {d : List Int} (ha : a < d.length) (hj : j < d.length) (hl : d.length < 2305843009213693951) : ∀ i, i ≤ j + 1 → gC (a : Nat) (j : Nat) d (i : Nat) = if i ≤ j ∧ gN d i < gN d a then some (.inl (d, ((i + 1 : Nat) : Int))) else some (.inr (d, (i : Int))) := by
  intro i hi
  unfold gC
  rw [wrN (x := (i : Int) + 1) (n := i + 1) (by omega) (by omega)]
  exact QW (u := i) (v := a) (by omega) (by omega)

theorem aCR {a i m : Nat} {d : List Int} (hi : 1 ≤ i) (ha : a < d.length) (hm : m < d.length) (hl : d.length < 2305843009213693951) : ∀ j, j ≤ m → fY (a : Nat) (i : Nat) d (j : Nat) = if i ≤ j ∧ ¬ gN d j < gN d a then some (.inl (d, ((j - 1 : Nat) : Int))) else some (.inr (d, (j : Int))) := by
  intro j hj
  unfold fY
  refine (RH (i := i) (j := j) (d := d) (α := (List Int × Int) ⊕ (List Int × Int)) (u := j) (v := a) (x := some (.inl (d, IntKind.i64.wrap ((j : Int) - 1)))) (y := some (.inr (d, (j : Int)))) (by omega) (by omega)).trans ?_
  by_cases h : i ≤ j ∧ ¬ gN d j < gN d a
  · rw [if_pos h, if_pos h, wrN (x := (j : Int) - 1) (n := j - 1) (by omega) (by omega)]
  · rw [if_neg h, if_neg h]

end Go.Abs
